/- PathC: the walks of path.Good, Place, Parts, Covers, Meet, Moved, Above. -/
import Derived.Test.YtmagidkgajmhoaaDoorPathB
set_option linter.unusedVariables false
set_option linter.unusedSimpArgs false
namespace Go.Proofs.YtmagidkgajmhoaaDoor
open Go.RowKit

theorem Row.below {w w' : World} {g : Nat} {ps : List ByteArray} (h : Row w g ps) (hb : Below w.heap.size w w') : Row w' g ps := fun j hj => by
  have := h j hj
  exact (hb.cell (World.block_lt_of_cell? _ _ this)).trans this
theorem cut_len : ∀ l : Bs, (cut l).length ≤ l.length + 1
  | [] => by simp [cut]
  | c :: l => by
    have := cut_len l
    rw [cut_c]
    split <;> simp <;> omega
theorem bytes_len {ps : List ByteArray} {s : ByteArray} (h : bytes ps = cut s.data.toList) : ps.length ≤ s.size + 1 := by
  have := cut_len s.data.toList
  rw [← h, ← Lib.size_eq] at this
  simpa [bytes] using this
theorem good_bytes (s : ByteArray) (ps : List ByteArray) (h : bytes ps = cut s.data.toList) : goodB s.data.toList = true ↔ s.size ≤ 32 ∧ ∀ j (hj : j < ps.length), nameB ps[j].data.toList = true := by
  rw [good_iff, ← h, ← Lib.size_eq]
  unfold bytes
  simp only [List.mem_map, forall_exists_index, and_imp, forall_apply_eq_imp_iff₂]
  constructor
  · rintro ⟨a, b⟩
    exact ⟨a, fun j hj => b _ (List.getElem_mem hj)⟩
  · rintro ⟨a, b⟩
    refine ⟨a, fun p hp => ?_⟩
    obtain ⟨j, hj, rfl⟩ := List.mem_iff_getElem.1 hp
    exact b j hj

set_option maxHeartbeats 1600000 in
set_option maxRecDepth 100000 in
theorem good_any (s : ByteArray) (w : World) :
    Calls Tryd.prog 34 #[.string s] w fun e w' => e = .returned (.bool (goodB s.data.toList)) ∧ Below w.heap.size w w' := by
  by_cases h1 : 1 ≤ s.size ∧ s.size ≤ 32
  · obtain ⟨a, b⟩ := h1
    have q1 : decide ((s.size : Int) < 1) = false := by simp; omega
    have q2 : decide (32 < (s.size : Int)) = false := by simp; omega
    have SZ := Lib.hid b
    clear a b
    go_enter Tryd.func34, Tryd.ntmps34
    go_wp2_with fail
    refine (split_any s w (by have := SZ.out; omega)).mono ?_
    rintro e w1 ⟨g, ps, rfl, hb, hr, hg, b1⟩
    have hps : ps.length ≤ 33 := by have := bytes_len hb; have := SZ.out; omega
    have HR := Lib.hid hr; have HG := Lib.hid (good_bytes s ps hb); have B1 := Lib.hid b1
    clear hr hb b1 hg
    go_wp2_with fail
    go_loopw [16] (fun i wr => ∃ k : Nat, k ≤ ps.length ∧ i = .int .i64 k ∧ Hid (Below w1.heap.size w1 wr) ∧ Hid (∀ j (hj : j < ps.length), j < k → nameB ps[j].data.toList = true)) (fun i _ => ps.length - (intOf i).toNat)
    case atStart => exact ⟨0, Nat.zero_le _, rfl, Below.refl _ _, fun j hj h => by omega⟩
    case round =>
      obtain ⟨k, hk, rfl, hb, hall⟩ := hrel
      by_cases hlt : k < ps.length
      · have c0 := HR.out.below hb.out k hlt
        have HA : Hid (∀ j (hj : j < ps.length), j < k + 1 → nameB ps[k].data.toList = true → nameB ps[j].data.toList = true) := fun j hj h hn => by
          by_cases e : j = k
          · subst e; exact hn
          · exact hall.out j hj (by omega)
        have HK : Hid (goodB s.data.toList = true → nameB ps[k].data.toList = true) := fun h => (HG.out.1 h).2 k hlt
        generalize ps[k] = x at c0 HA HK
        go_wp2_with fail
        refine (name_any x wr).mono ?_
        rintro e w2 ⟨rfl, b2⟩
        have B2 : Hid (Below w1.heap.size w1 w2) := hb.out.trans (b2.mono hb.out.size)
        clear b2 c0
        cases hn : nameB x.data.toList with
        | true =>
          have HN := Lib.hid hn
          clear hn
          go_wp2
          go_roundw
          case rel => exact ⟨k + 1, hlt, by go_num, B2, fun j hj h => HA.out j hj h HN.out⟩
          case measure => simp [intOf]; omega
        | false =>
          have hf : Hid (goodB s.data.toList = false) := by
            unfold Hid
            cases hg : goodB s.data.toList with
            | false => rfl
            | true => rw [HK.out hg] at hn; cases hn
          clear hn
          go_wp2
          go_ret
          exact ⟨by rw [hf.out]; rfl, B1.out.trans (B2.out.mono B1.out.size)⟩
      · have ht : Hid (goodB s.data.toList = true) := HG.out.2 ⟨SZ.out, fun j hj => hall.out j hj (by omega)⟩
        go_wp2
        go_ret
        exact ⟨by rw [ht.out]; rfl, B1.out.trans (hb.out.mono B1.out.size)⟩
  · have hf : goodB s.data.toList = false := by
      cases hg : goodB s.data.toList with
      | false => rfl
      | true =>
        have h2 := (good_iff.1 hg).1
        have h3 := good_ne hg
        rw [← Lib.size_eq] at h2
        refine (h1 ⟨?_, h2⟩).elim
        rw [Lib.size_eq]
        cases hh : s.data.toList with
        | nil => exact (h3 hh).elim
        | cons a l => simp
    have HF := Lib.hid hf
    have hs : s.size < 1 ∨ (decide ((s.size : Int) < 1) = false ∧ 32 < s.size) := by
      by_cases s.size < 1
      · exact .inl (by assumption)
      · exact .inr ⟨by simp; omega, by omega⟩
    clear hf h1
    rcases hs with hs | ⟨q1, hs⟩
    · have q1 : decide ((s.size : Int) < 1) = true := by simp; omega
      clear hs
      go_enter Tryd.func34, Tryd.ntmps34
      go_wp2
      go_ret
      exact ⟨by rw [HF.out]; rfl, Below.refl _ _⟩
    · have q2 : decide (32 < (s.size : Int)) = true := by simp; omega
      clear hs
      go_enter Tryd.func34, Tryd.ntmps34
      go_wp2
      go_ret
      exact ⟨by rw [HF.out]; rfl, Below.refl _ _⟩

theorem empty_iff (s : ByteArray) : (s.toList == []) = (s.data.toList == []) := by rw [Lib.toList_data]
end Go.Proofs.YtmagidkgajmhoaaDoor
