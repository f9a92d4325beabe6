/- PathD: the walks of path.Parts, Covers, Meet. -/
import Derived.Test.YtgagiafbhpipoaaDoorPathC
set_option linter.unusedVariables false
set_option linter.unusedSimpArgs false
namespace Go.Proofs.YtgagiafbhpipoaaDoor
open Go.RowKit

abbrev dat (s : ByteArray) : Bs := s.data.toList
theorem beqD (a b : ByteArray) : (a.toList == b.toList) = (dat a == dat b) := by rw [Lib.toList_data, Lib.toList_data]
theorem dat_append (a b : ByteArray) : dat (a ++ b) = dat a ++ dat b := by simp [dat, ByteArray.data_append]
theorem dat_inj {a b : ByteArray} (h : dat a = dat b) : a = b := by
  cases a; cases b; simp [dat, Array.toList_inj] at h; simp [h]
theorem covers_f1 {a p : Bs} (h : placeB a = false) : coversB a p = false := by unfold coversB; rw [h]; rfl
theorem covers_f2 {a p : Bs} (h : placeB p = false) : coversB a p = false := by unfold coversB; rw [h]; simp
theorem covers_t (a p : Bs) (h1 : placeB a = true) (h2 : placeB p = true) : coversB a p = (a == [] || p == a || Lib.hasPrefix p (a ++ [47])) := by
  unfold coversB
  rw [h1, h2, Bool.or_assoc]
  have : decide (cut a <+: cut p) = (p == a || Lib.hasPrefix p (a ++ [47])) := by
    rw [Bool.eq_iff_iff, decide_eq_true_eq, ← pre_iff]
    unfold Lib.hasPrefix
    simp
  rw [this]; rfl

theorem place_len {a : ByteArray} (h : placeB (dat a) = true) : a.size ≤ 32 := by
  rcases place_iff.1 h with h | h
  · rw [Lib.size_eq, show a.data.toList = [] from h]; decide
  · have := (good_iff.1 h).1; rw [← Lib.size_eq] at this; exact this

theorem prefix_any (s p : ByteArray) (w : World) : Calls Tryd.prog 32 #[.string s, .string p] w fun e w' => e = .returned (.bool (Lib.hasPrefix (dat s) (dat p))) ∧ w = w' := by
  have h := Any.strings_HasPrefix Tryd.lays99 s p w
  have h2 : Calls Tryd.prog 32 #[.string s, .string p] w fun e w' => e = .returned (.bool (Lib.hasPrefix (dat s) (dat p))) ∧ w' = w := h
  exact h2.mono fun e w' ⟨a, b⟩ => ⟨a, b.symm⟩
theorem parts_any (s : ByteArray) (w : World) :
    Calls Tryd.prog 21 #[.string s] w fun e w' => ∃ A c ps, e = .returned (.slice A ps.length c) ∧ bytes ps = partsB (dat s) ∧ ps.length ≤ c ∧ c ≤ 33 ∧ (0 < ps.length → ∃ g, A = some ⟨g, 0, none⟩ ∧ Row w' g ps ∧ w.heap.size ≤ g) ∧ Below w.heap.size w w' := by
  go_enter Tryd.func21, Tryd.ntmps21
  go_wp2_with fail
  refine (good_any s w).mono ?_
  rintro e w1 ⟨rfl, b1⟩
  have B1 := Lib.hid b1
  clear b1
  cases hg : goodB (dat s) with
  | true =>
    have HG := Lib.hid hg
    have hsz : Hid (s.size ≤ 32) := by have := (good_iff.1 hg).1; rw [← Lib.size_eq] at this; exact this
    clear hg
    go_wp2_with fail
    refine (split_any s w1 (by have := hsz.out; omega)).mono ?_
    rintro e w2 ⟨g, ps, rfl, hb, hr, hgg, b2⟩
    have HR := Lib.hid hr; have HB := Lib.hid hb; have B2 := Lib.hid b2; have HGG := Lib.hid hgg
    clear hr hb b2 hgg
    go_wp2
    go_ret
    refine ⟨_, _, ps, rfl, by rw [HB.out]; unfold partsB; rw [if_pos HG.out], Nat.le_refl _, ?_, fun _ => ⟨g, rfl, HR.out, Nat.le_trans B1.out.size HGG.out⟩, B1.out.trans (B2.out.mono B1.out.size)⟩
    have := bytes_len HB.out
    have := hsz.out
    omega
  | false =>
    have HG := Lib.hid hg
    clear hg
    go_wp2
    go_ret
    exact ⟨none, 0, [], rfl, by unfold partsB; rw [HG.out]; rfl, Nat.le_refl _, by decide, fun h => by simp at h, B1.out⟩

set_option maxHeartbeats 1600000 in
theorem covers_any (a p : ByteArray) (w : World) :
    Calls Tryd.prog 15 #[.string a, .string p] w fun e w' => e = .returned (.bool (coversB (dat a) (dat p))) ∧ Below w.heap.size w w' := by
  have PA := place_any a w
  cases ha : placeB (dat a) with
  | false =>
    rw [show placeB a.data.toList = false from ha] at PA
    have HC := Lib.hid (covers_f1 (p := dat p) ha)
    have P1 := Lib.hid PA
    clear PA ha
    go_enter Tryd.func15, Tryd.ntmps15
    go_wp2_with fail
    refine P1.out.mono ?_
    rintro e w1 ⟨rfl, b1⟩
    have B1 := Lib.hid b1
    clear b1
    go_wp2
    go_ret
    exact ⟨by rw [HC.out]; rfl, B1.out⟩
  | true =>
    rw [show placeB a.data.toList = true from ha] at PA
    have P1 := Lib.hid PA
    have HA := Lib.hid ha
    clear PA ha
    go_enter Tryd.func15, Tryd.ntmps15
    go_wp2_with fail
    refine P1.out.mono ?_
    rintro e w1 ⟨rfl, b1⟩
    have B1 := Lib.hid b1
    clear b1
    go_wp2_with fail
    have PP := place_any p w1
    cases hp : placeB (dat p) with
    | false =>
      rw [show placeB p.data.toList = false from hp] at PP
      have HC := Lib.hid (covers_f2 (a := dat a) hp)
      clear hp
      refine PP.mono ?_
      rintro e w2 ⟨rfl, b2⟩
      have B2 : Hid (Below w.heap.size w w2) := B1.out.trans (b2.mono B1.out.size)
      clear b2 PP
      go_wp2
      go_ret
      exact ⟨by rw [HC.out]; rfl, B2.out⟩
    | true =>
      rw [show placeB p.data.toList = true from hp] at PP
      have HC := Lib.hid (covers_t (dat a) (dat p) HA.out hp)
      have HP := Lib.hid hp
      clear hp
      refine PP.mono ?_
      rintro e w2 ⟨rfl, b2⟩
      have B2 : Hid (Below w.heap.size w w2) := B1.out.trans (b2.mono B1.out.size)
      clear b2 PP
      cases q1 : (a.toList == []) with
      | true =>
        have hr : Hid (coversB (dat a) (dat p) = true) := by unfold Hid; rw [HC.out, show (dat a == []) = true by rw [← q1, Lib.toList_data]]; rfl
        go_wp2_with fail
        go_ret
        exact ⟨by rw [hr.out]; rfl, B2.out⟩
      | false =>
        have e1 : (dat a == []) = false := by rw [← q1, Lib.toList_data]
        cases q2 : (p.toList == a.toList) with
        | true =>
          have hr : Hid (coversB (dat a) (dat p) = true) := by unfold Hid; rw [HC.out, e1, show (dat p == dat a) = true by rw [← q2, beqD]]; rfl
          clear e1
          go_wp2_with fail
          go_ret
          exact ⟨by rw [hr.out]; rfl, B2.out⟩
        | false =>
          have hr : Hid (coversB (dat a) (dat p) = Lib.hasPrefix (dat p) (dat a ++ [47])) := by unfold Hid; rw [HC.out, e1, show (dat p == dat a) = false by rw [← q2, beqD]]; rfl
          clear e1
          have hno : ¬ 9223372036854775807 < a.size + 1 := by have := place_len HA.out; omega
          go_wp2_with fail
          refine (prefix_any _ _ _).mono ?_
          rintro e w3 ⟨rfl, rfl⟩
          go_wp2_with fail
          go_ret
          refine ⟨?_, B2.out⟩
          rw [hr.out, ← show dat (a ++ ⟨#[47]⟩) = dat a ++ [47] from dat_append a ⟨#[47]⟩]
          rfl

theorem meet_any (a b : ByteArray) (w : World) :
    Calls Tryd.prog 13 #[.string a, .string b] w fun e w' => ∃ m, e = .returned (.tuple #[.string m, .bool (meetB (dat a) (dat b)).2]) ∧ dat m = (meetB (dat a) (dat b)).1 ∧ Below w.heap.size w w' := by
  go_enter Tryd.func13, Tryd.ntmps13
  go_wp2_with fail
  refine (covers_any a b w).mono ?_
  rintro e w1 ⟨rfl, b1⟩
  have B1 := Lib.hid b1
  clear b1
  cases h1 : coversB (dat a) (dat b) with
  | true =>
    have H1 : Hid (meetB (dat a) (dat b) = (dat b, true)) := by unfold Hid meetB; rw [h1]; rfl
    clear h1
    go_wp2
    go_ret2
    exact ⟨b, by rw [H1.out]; rfl, by rw [H1.out], B1.out⟩
  | false =>
    have H1 := Lib.hid h1
    clear h1
    go_wp2_with fail
    refine (covers_any b a w1).mono ?_
    rintro e w2 ⟨rfl, b2⟩
    have B2 : Hid (Below w.heap.size w w2) := B1.out.trans (b2.mono B1.out.size)
    clear b2
    cases h2 : coversB (dat b) (dat a) with
    | true =>
      have H2 : Hid (meetB (dat a) (dat b) = (dat a, true)) := by unfold Hid meetB; rw [H1.out, h2]; rfl
      clear h2
      go_wp2
      go_ret2
      exact ⟨a, by rw [H2.out]; rfl, by rw [H2.out], B2.out⟩
    | false =>
      have H2 : Hid (meetB (dat a) (dat b) = ([], false)) := by unfold Hid meetB; rw [H1.out, h2]; rfl
      clear h2
      go_wp2
      go_ret2
      exact ⟨ByteArray.empty, by rw [H2.out]; rfl, by rw [H2.out]; rfl, B2.out⟩
end Go.Proofs.YtgagiafbhpipoaaDoor
