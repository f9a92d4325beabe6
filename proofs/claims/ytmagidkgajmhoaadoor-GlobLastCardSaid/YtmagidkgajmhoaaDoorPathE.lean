/- PathE: the walks of path.Moved and Above. -/
import Derived.Test.YtmagidkgajmhoaaDoorPathD
set_option linter.unusedVariables false
set_option linter.unusedSimpArgs false
namespace Go.Proofs.YtmagidkgajmhoaaDoor
open Go.RowKit

theorem moved_no {p a t : Bs} (h : goodB p = false ∨ goodB a = false ∨ goodB t = false ∨ coversB a p = false) : movedB p a t = ([], 1) := by
  unfold movedB
  rw [if_neg]
  simp only [Bool.and_eq_true, not_and]
  rcases h with h | h | h | h <;> simp [h]
theorem covers_size {a p : ByteArray} (ha : goodB (dat a) = true) (h : coversB (dat a) (dat p) = true) : a.size ≤ p.size := by
  rcases (covers_iff.1 h).2.2 with h | h
  · exact (good_ne ha h).elim
  · rcases (pre_iff _ _).2 h with h | h
    · rw [Lib.size_eq, Lib.size_eq, show p.data.toList = a.data.toList from h]; exact Nat.le_refl _
    · have := h.length_le
      rw [List.length_append, ← Lib.size_eq, ← Lib.size_eq] at this
      omega
theorem good_size {a : ByteArray} (h : goodB (dat a) = true) : a.size ≤ 32 := by
  have := (good_iff.1 h).1; rw [← Lib.size_eq] at this; exact this

set_option maxRecDepth 100000 in
theorem last_any (s : ByteArray) (w : World) (hs : s.size < 4611686018427387904) : Calls Tryd.prog 44 #[.string s, .string ⟨#[47]⟩] w fun e w' => e = .returned (.int .i64 (Lib.lastIndexByte s 47)) ∧ w = w' := by
  have h2 : Calls Tryd.prog 44 #[.string s, .string ⟨#[47]⟩] w fun e w' => e = .returned (.int .i64 (Lib.lastIndexByte s 47)) ∧ w' = w := Any.strings_LastIndex_one Tryd.lays148 s ⟨#[47]⟩ rfl hs w
  exact h2.mono fun e w' ⟨a, b⟩ => ⟨a, b.symm⟩
set_option maxRecDepth 100000 in
theorem above_any (s : ByteArray) (w : World) : Calls Tryd.prog 35 #[.string s] w fun e w' => ∃ q, e = .returned (.string q) ∧ dat q = aboveB (dat s) ∧ Below w.heap.size w w' := by
  go_enter Tryd.func35, Tryd.ntmps35
  go_wp2_with fail
  refine (good_any s w).mono ?_
  rintro e w1 ⟨rfl, b1⟩
  have B1 := Lib.hid b1
  clear b1
  cases g1 : goodB (dat s) with
  | false =>
    have M : Hid (aboveB (dat s) = []) := by unfold Hid aboveB; rw [g1]; rfl
    clear g1
    go_wp2
    go_ret
    exact ⟨ByteArray.empty, rfl, by rw [M.out]; rfl, B1.out⟩
  | true =>
    have M : Hid (aboveB (dat s) = glue (cut (dat s)).dropLast) := by unfold Hid aboveB; rw [g1]; rfl
    have hs : Hid (s.size ≤ 32) := good_size g1
    clear g1
    go_wp2_with fail
    refine (last_any s w1 (by have := hs.out; omega)).mono ?_
    rintro e w2 ⟨rfl, rfl⟩
    rcases Lib.lastIndexByte_spec s 47 with ⟨e, hn⟩ | ⟨i, hi, e, hc, hn⟩
    · rw [e]
      have hno : (47 : UInt8) ∉ dat s := by
        intro hx
        obtain ⟨j, hj, e⟩ := List.mem_iff_getElem.1 hx
        have hj' : j < s.size := by rw [Lib.size_eq]; exact hj
        refine hn j hj' ?_
        rw [LastIndex.byteBang s j hj']
        have : s[j] = 47 := by rw [← e]; simp [dat]; rfl
        rw [this]; rfl
      have M2 : Hid (aboveB (dat s) = []) := by unfold Hid; rw [M.out, above_none hno]
      clear hn e hno
      go_wp2
      go_ret
      refine ⟨_, rfl, ?_, B1.out⟩
      rw [M2.out]
      show (s.extract 0 0).data.toList = []
      rw [Lib.extract_data]
      rfl
    · rw [e]
      have e3 : dat s = (dat s).take i ++ 47 :: (dat s).drop (i + 1) := by
        have hl : i < (dat s).length := by rw [← Lib.size_eq]; exact hi
        have h47 : (dat s)[i] = 47 := by
          rw [LastIndex.byteBang s i hi] at hc
          have : s[i] = (dat s)[i] := by simp [dat]; rfl
          rw [← this]
          apply UInt8.toNat_inj.1
          have e47 : (47 : UInt8).toNat = 47 := rfl
          rw [e47]
          omega
        rw [← h47, List.getElem_cons_drop, List.take_append_drop]
      have hno : (47 : UInt8) ∉ (dat s).drop (i + 1) := by
        intro hx
        obtain ⟨j, hj, e⟩ := List.mem_iff_getElem.1 hx
        rw [List.length_drop, ← Lib.size_eq] at hj
        have hj' : i + 1 + j < s.size := by omega
        refine hn (i + 1 + j) (by omega) hj' ?_
        rw [LastIndex.byteBang s _ hj']
        rw [List.getElem_drop] at e
        have : s[i + 1 + j] = 47 := by rw [← e]; simp [dat]; rfl
        rw [this]; rfl
      have M2 : Hid (aboveB (dat s) = (dat s).take i) := by
        unfold Hid
        rw [M.out]
        conv => lhs; rw [e3]
        exact above_last hno
      have hmax : (max (i : Int) 0).toNat = i := by omega
      have hle : i ≤ s.size := Nat.le_of_lt hi
      clear hn e hno e3 hc
      go_wp2
      go_ret
      refine ⟨_, rfl, ?_, B1.out⟩
      rw [M2.out]
      unfold dat
      rw [Lib.extract_data]
      simp
end Go.Proofs.YtmagidkgajmhoaaDoor
