/- PathD: the walks of path.Parts, Covers, Meet. -/
import Derived.Test.YtmagidkgajmhoaaDoorPathC
set_option linter.unusedVariables false
set_option linter.unusedSimpArgs false
namespace Go.Proofs.YtmagidkgajmhoaaDoor
open Go.RowKit

abbrev dat (s : ByteArray) : Bs := s.data.toList
theorem beqD (a b : ByteArray) : (a.toList == b.toList) = (dat a == dat b) := by rw [Lib.toList_data, Lib.toList_data]
theorem dat_append (a b : ByteArray) : dat (a ++ b) = dat a ++ dat b := by simp [dat, ByteArray.data_append]
theorem dat_inj {a b : ByteArray} (h : dat a = dat b) : a = b := by
  cases a; cases b; simp [dat, Array.toList_inj] at h; simp [h]
theorem covers_f1 {a p : Bs} (h : placeB a = false) : coversB a p = false := by unfold coversB; rw [h]; rfl
theorem covers_f2 {a p : Bs} (h : placeB p = false) : coversB a p = false := by unfold coversB; rw [h]; simp
theorem covers_t (a p : Bs) (h1 : placeB a = true) (h2 : placeB p = true) : coversB a p = (a == [] || p == a || Lib.hasPrefix p (a ++ [47])) := by
  unfold coversB
  rw [h1, h2, Bool.or_assoc]
  have : decide (cut a <+: cut p) = (p == a || Lib.hasPrefix p (a ++ [47])) := by
    rw [Bool.eq_iff_iff, decide_eq_true_eq, ← pre_iff]
    unfold Lib.hasPrefix
    simp
  rw [this]; rfl

theorem place_len {a : ByteArray} (h : placeB (dat a) = true) : a.size ≤ 32 := by
  rcases place_iff.1 h with h | h
  · rw [Lib.size_eq, show a.data.toList = [] from h]; decide
  · have := (good_iff.1 h).1; rw [← Lib.size_eq] at this; exact this

set_option maxRecDepth 100000 in
theorem prefix_any (s p : ByteArray) (w : World) : Calls Tryd.prog 32 #[.string s, .string p] w fun e w' => e = .returned (.bool (Lib.hasPrefix (dat s) (dat p))) ∧ w = w' := by
  have h := Any.strings_HasPrefix Tryd.lays99 s p w
  have h2 : Calls Tryd.prog 32 #[.string s, .string p] w fun e w' => e = .returned (.bool (Lib.hasPrefix (dat s) (dat p))) ∧ w' = w := h
  exact h2.mono fun e w' ⟨a, b⟩ => ⟨a, b.symm⟩
set_option maxRecDepth 100000 in
theorem parts_any (s : ByteArray) (w : World) :
    Calls Tryd.prog 25 #[.string s] w fun e w' => ∃ A c ps, e = .returned (.slice A ps.length c) ∧ bytes ps = partsB (dat s) ∧ ps.length ≤ c ∧ c ≤ 33 ∧ (0 < ps.length → ∃ g, A = some ⟨g, 0, none⟩ ∧ Row w' g ps ∧ w.heap.size ≤ g) ∧ Below w.heap.size w w' := by
  go_enter Tryd.func25, Tryd.ntmps25
  go_wp2_with fail
  refine (good_any s w).mono ?_
  rintro e w1 ⟨rfl, b1⟩
  have B1 := Lib.hid b1
  clear b1
  cases hg : goodB (dat s) with
  | true =>
    have HG := Lib.hid hg
    have hsz : Hid (s.size ≤ 32) := by have := (good_iff.1 hg).1; rw [← Lib.size_eq] at this; exact this
    clear hg
    go_wp2_with fail
    refine (split_any s w1 (by have := hsz.out; omega)).mono ?_
    rintro e w2 ⟨g, ps, rfl, hb, hr, hgg, b2⟩
    have HR := Lib.hid hr; have HB := Lib.hid hb; have B2 := Lib.hid b2; have HGG := Lib.hid hgg
    clear hr hb b2 hgg
    go_wp2
    go_ret
    refine ⟨_, _, ps, rfl, by rw [HB.out]; unfold partsB; rw [if_pos HG.out], Nat.le_refl _, ?_, fun _ => ⟨g, rfl, HR.out, Nat.le_trans B1.out.size HGG.out⟩, B1.out.trans (B2.out.mono B1.out.size)⟩
    have := bytes_len HB.out
    have := hsz.out
    omega
  | false =>
    have HG := Lib.hid hg
    clear hg
    go_wp2
    go_ret
    exact ⟨none, 0, [], rfl, by unfold partsB; rw [HG.out]; rfl, Nat.le_refl _, by decide, fun h => by simp at h, B1.out⟩

end Go.Proofs.YtmagidkgajmhoaaDoor
