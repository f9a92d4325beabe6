/- PathQ: the walks of the document's glue and Above. -/
import Derived.Test.YtmagidkgajmhoaaDoorPathN
set_option linter.unusedVariables false
set_option linter.unusedSimpArgs false
namespace Go.Proofs.YtmagidkgajmhoaaDoor
open Go.RowKit

/-- Texts that are read (of their room nothing is said). -/
def RdT (w : World) (v : Value) (ps : List ByteArray) : Prop := ∃ A c, v = .slice A ps.length c ∧ ps.length ≤ c ∧ (0 < ps.length → ∃ g off, A = some ⟨g, off, none⟩ ∧ ∀ j (h : j < ps.length), w.cell? ⟨g, off + j, none⟩ = some (.string ps[j]))
theorem RdS.t {w : World} {v : Value} {ps : List ByteArray} (h : RdS w v ps) : RdT w v ps := by
  obtain ⟨A, c, a, b, _, d⟩ := h
  exact ⟨A, c, a, b, d⟩
theorem glue_take_succ (l : List Bs) (k : Nat) (h : k < l.length) : glue (l.take (k + 1)) = (if k = 0 then l[k] else glue (l.take k) ++ 47 :: l[k]) := by
  rw [List.take_succ_eq_append_getElem h]
  split
  · rename_i e; subst e; simp [glue]
  · rename_i e
    rw [glue_append _ _ (by intro x; have := congrArg List.length x; rw [List.length_take, List.length_nil] at this; omega) (by simp)]
    rfl
theorem bytes_take (ps : List ByteArray) (k : Nat) : (bytes ps).take k = bytes (ps.take k) := by unfold bytes; rw [List.map_take]
theorem glue_step (ps : List ByteArray) (k : Nat) (h : k < ps.length) : glue ((bytes ps).take (k + 1)) = (if k = 0 then dat ps[k] else glue ((bytes ps).take k) ++ 47 :: dat ps[k]) := by
  rw [glue_take_succ _ _ (by simpa [bytes] using h)]
  simp [bytes]

set_option maxHeartbeats 1600000 in
set_option maxRecDepth 100000 in
theorem refglue_any (w : World) (v : Value) (ps : List ByteArray) (hv : RdT w v ps) (hn : ps.length ≤ 4611686018427387904) (hs : ∀ p ∈ ps, p.size ≤ 12) :
    Calls Tryd.prog 33 #[v] w fun e w' => ∃ q, e = .returned (.string q) ∧ ((glue (bytes ps)).length ≤ 100 → dat q = glue (bytes ps)) ∧ (100 < (glue (bytes ps)).length → 100 < q.size) ∧ w = w' := by
  obtain ⟨A, c, rfl, hlc, hrow⟩ := hv
  have HR := Lib.hid hrow
  have HS := Lib.hid hs
  clear hrow hs
  go_enter Tryd.func33, Tryd.ntmps33
  go_wp2_with fail
  go_loopw [3, 4, 5] (fun sv i i2 wr => ∃ (k : Nat) (q : ByteArray), k ≤ ps.length ∧ i = .int .i64 k ∧ sv = .string q ∧ wr = w ∧ q.size ≤ 113 ∧ Hid (dat q = glue ((bytes ps).take k))) (fun _ i _ _ => ps.length - (intOf i).toNat)
  case atStart => exact ⟨0, ByteArray.empty, Nat.zero_le _, rfl, rfl, rfl, by decide, rfl⟩
  case round =>
    obtain ⟨k, q, hk, rfl, rfl, rfl, hq, hg⟩ := hrel
    by_cases hgo : k < ps.length ∧ q.size ≤ 100
    · obtain ⟨hlt, hq1⟩ := hgo
      obtain ⟨g, off, rfl, hr⟩ := HR.out (by omega)
      have c0 := hr k hlt
      have hx : ps[k].size ≤ 12 := HS.out _ (List.getElem_mem hlt)
      have ST := Lib.hid (glue_step ps k hlt)
      generalize ps[k] = x at c0 hx ST
      have q1 : decide ((q.size : Int) ≤ 100) = true := by simp; omega
      clear hr
      by_cases h0 : k = 0
      · have hqe : Hid (dat (q ++ x) = glue ((bytes ps).take (k + 1))) := by
          unfold Hid
          rw [ST.out, if_pos h0, dat_append, hg.out, h0]
          simp [glue]
        have hno : ¬ 9223372036854775807 < q.size + x.size := by omega
        have q0 : decide (0 < (k : Int)) = false := by simp; omega
        have q00 : decide (0 < k) = false := by simp; omega
        clear ST h0
        go_wp2
        go_roundw
        case rel => exact ⟨k + 1, q ++ x, hlt, by go_num, rfl, trivial, by rw [ByteArray.size_append]; omega, hqe⟩
        case measure => simp [intOf]; omega
      · have hqe : Hid (dat (q ++ ⟨#[47]⟩ ++ x) = glue ((bytes ps).take (k + 1))) := by
          unfold Hid
          rw [ST.out, if_neg h0, dat_append, dat_append, hg.out, List.append_assoc]
          rfl
        have hno : ¬ 9223372036854775807 < q.size + 1 := by omega
        have hno2 : ¬ 9223372036854775807 < q.size + 1 + x.size := by omega
        have q0 : decide (0 < (k : Int)) = true := by simp; omega
        have q00 : decide (0 < k) = true := by simp; omega
        clear ST
        go_wp2
        go_roundw
        case rel =>
          refine ⟨k + 1, q ++ ⟨#[47]⟩ ++ x, hlt, by go_num, rfl, trivial, ?_, hqe⟩
          rw [ByteArray.size_append, ByteArray.size_append]
          have : (⟨#[47]⟩ : ByteArray).size = 1 := rfl
          omega
        case measure => simp [intOf]; omega
    · have hexit : (k = ps.length) ∨ (k < ps.length ∧ 100 < q.size) := by omega
      have fin : Hid (((glue (bytes ps)).length ≤ 100 → dat q = glue (bytes ps)) ∧ (100 < (glue (bytes ps)).length → 100 < q.size)) := by
        have hl := Lib.size_eq q
        rw [show q.data.toList = dat q from rfl, hg.out] at hl
        rcases hexit with e | ⟨_, e⟩
        · have e2 : (bytes ps).take k = bytes ps := by rw [e]; exact List.take_of_length_le (by simp [bytes])
          rw [e2] at hl
          refine ⟨fun _ => by rw [hg.out, e2], fun h => by omega⟩
        · have := glue_take_len (bytes ps) k
          exact ⟨fun h => by omega, fun h => e⟩
      clear hgo
      rcases hexit with rfl | ⟨e1, e2⟩
      · go_wp2
        go_ret
        exact ⟨q, rfl, fin.out.1, fin.out.2, rfl⟩
      · have q1 : decide ((q.size : Int) ≤ 100) = false := by simp; omega
        go_wp2
        go_ret
        exact ⟨q, rfl, fin.out.1, fin.out.2, rfl⟩

theorem Row.rds {w : World} {g : Nat} {ps : List ByteArray} (h : Row w g ps) (c : Nat) (hc : ps.length ≤ c) : RdT w (.slice (some ⟨g, 0, none⟩) ps.length c) ps :=
  ⟨_, c, rfl, hc, fun _ => ⟨g, 0, rfl, fun j hj => by rw [Nat.zero_add]; exact h j hj⟩⟩
theorem names_small {ps : List ByteArray} {s : Bs} (h : bytes ps = cut s) (hg : goodB s = true) : ∀ p ∈ ps, p.size ≤ 12 := fun p hp => by
  have := (good_iff.1 hg).2 (dat p) (by rw [← h]; exact List.mem_map_of_mem hp)
  have := (name_len this).2
  rw [← Lib.size_eq] at this
  exact this
end Go.Proofs.YtmagidkgajmhoaaDoor
