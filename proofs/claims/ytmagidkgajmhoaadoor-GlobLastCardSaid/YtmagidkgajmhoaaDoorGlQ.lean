/- GlQ: the chapter's examples. -/
import Derived.Test.YtmagidkgajmhoaaDoorGlO
set_option linter.unusedVariables false
set_option linter.unusedSimpArgs false
namespace Go.Proofs.YtmagidkgajmhoaaDoor
open Go.RowKit

theorem opt_true {o : Option PPat} {f : PPat → Bool} (h : o.map f = some true) : ∃ P, o = some P ∧ f P = true := by
  cases o with
  | none => cases h
  | some P => exact ⟨P, rfl, by simpa using h⟩
theorem live1 : ∃ P, parseP (dat ⟨#[42, 46, 111]⟩) = some P ∧ patMeets P (dat ⟨#[97, 47, 98, 46, 111]⟩) = true := opt_true (by kernel_rfl)
theorem live2 : ∃ P, parseP (dat ⟨#[47, 97, 47, 42]⟩) = some P ∧ (patMeets P (dat ⟨#[97, 47, 98]⟩) && !patMeets P (dat ⟨#[97, 47, 98, 47, 99]⟩)) = true := opt_true (f := fun P => patMeets P (dat ⟨#[97, 47, 98]⟩) && !patMeets P (dat ⟨#[97, 47, 98, 47, 99]⟩)) (by kernel_rfl)
theorem live3 : ∃ P, parseP (dat ⟨#[97, 47, 42, 42, 47, 99]⟩) = some P ∧ (patMeets P (dat ⟨#[97, 47, 99]⟩) && patMeets P (dat ⟨#[97, 47, 98, 47, 98, 47, 99]⟩)) = true := opt_true (f := fun P => patMeets P (dat ⟨#[97, 47, 99]⟩) && patMeets P (dat ⟨#[97, 47, 98, 47, 98, 47, 99]⟩)) (by kernel_rfl)
/-- Parse, where a text is a pattern. -/
theorem parse_some (w : World) (s : ByteArray) (P : PPat) (h : parseP (dat s) = some P) :
    Calls Tryd.prog 10 #[.string s] w fun e w' => ∃ (gp : Nat) (m : PatM), m.pat = P ∧ m.text = s ∧ e = .returned (.tuple #[.pointer (some ⟨gp, 0, none⟩), .int .i64 0]) ∧ RdPat w' gp m ∧ w.heap.size ≤ gp ∧ Below w.heap.size w w' := by
  refine (parse_any w s).mono ?_
  rintro e w' (⟨h1, _⟩ | ⟨gp, m, h1, h2, h3, h4, h5, h6⟩)
  · rw [h] at h1; cases h1
  · rw [h] at h1
    exact ⟨gp, m, (Option.some.inj h1).symm, h2, h3, h4, h5, h6⟩
theorem meets_pat (w : World) (gp : Nat) (m : PatM) (q : ByteArray) (P : PPat) (hm : m.pat = P) (h : RdPat w gp m) (b : Bool) (hb : patMeets P (dat q) = b) :
    Calls Tryd.prog 11 #[.pointer (some ⟨gp, 0, none⟩), .string q] w fun e w' => e = .returned (.bool b) ∧ Below w.heap.size w w' := by
  refine (meets_any w gp m q h).mono ?_
  rintro e w' ⟨rfl, h2⟩
  exact ⟨by rw [metP_pat, hm, hb], h2⟩
set_option maxHeartbeats 3200000 in
set_option maxRecDepth 100000 in
theorem glives_any (w : World) :
    Calls Tryd.prog 9 #[] w fun e w' => e = .returned (.bool true) ∧ Below w.heap.size w w' := by
  obtain ⟨P1, p1, m1⟩ := live1
  obtain ⟨P2, p2, m2⟩ := live2
  obtain ⟨P3, p3, m3⟩ := live3
  rw [Bool.and_eq_true, Bool.not_eq_true'] at m2
  rw [Bool.and_eq_true] at m3
  have Q1 := Lib.hid p1; have Q2 := Lib.hid p2; have Q3 := Lib.hid p3
  have M1 := Lib.hid m1; have M2 := Lib.hid m2; have M3 := Lib.hid m3
  clear p1 p2 p3 m1 m2 m3
  go_enter Tryd.func9, Tryd.ntmps9
  go_wp2_with fail
  refine (parse_some _ _ P1 Q1.out).mono ?_
  rintro e w1 ⟨g1, n1, hn1, ht1, rfl, r1, hg1, b1⟩
  have R1 := Lib.hid r1; have B1 := Lib.hid b1; have N1 := Lib.hid hn1
  clear r1 b1 hn1 ht1
  go_wp2_with fail
  refine (parse_some _ _ P2 Q2.out).mono ?_
  rintro e w2 ⟨g2, n2, hn2, ht2, rfl, r2, hg2, b2⟩
  have R2 := Lib.hid r2; have B2 : Hid (Below w.heap.size w w2) := B1.out.trans (b2.mono B1.out.size); have N2 := Lib.hid hn2
  have R1 := Lib.hid (R1.out.under b2)
  clear r2 b2 hn2 ht2
  go_wp2_with fail
  refine (parse_some _ _ P3 Q3.out).mono ?_
  rintro e w3 ⟨g3, n3, hn3, ht3, rfl, r3, hg3, b3⟩
  have R3 := Lib.hid r3; have B3 : Hid (Below w.heap.size w w3) := B2.out.trans (b3.mono B2.out.size); have N3 := Lib.hid hn3
  have R1 := Lib.hid (R1.out.under b3); have R2 := Lib.hid (R2.out.under b3)
  clear r3 b3 hn3 ht3
  go_wp2_with fail
  refine (meets_pat _ _ _ _ P1 N1.out R1.out true M1.out).mono ?_
  rintro e w4 ⟨rfl, b4⟩
  have B4 : Hid (Below w.heap.size w w4) := B3.out.trans (b4.mono B3.out.size)
  have R2 := Lib.hid (R2.out.under b4); have R3 := Lib.hid (R3.out.under b4)
  clear b4
  go_wp2_with fail
  refine (meets_pat _ _ _ _ P2 N2.out R2.out true M2.out.1).mono ?_
  rintro e w5 ⟨rfl, b5⟩
  have B5 : Hid (Below w.heap.size w w5) := B4.out.trans (b5.mono B4.out.size)
  have R2 := Lib.hid (R2.out.under b5); have R3 := Lib.hid (R3.out.under b5)
  clear b5
  go_wp2_with fail
  refine (meets_pat _ _ _ _ P2 N2.out R2.out false M2.out.2).mono ?_
  rintro e w6 ⟨rfl, b6⟩
  have B6 : Hid (Below w.heap.size w w6) := B5.out.trans (b6.mono B5.out.size)
  have R3 := Lib.hid (R3.out.under b6)
  clear b6
  go_wp2_with fail
  refine (meets_pat _ _ _ _ P3 N3.out R3.out true M3.out.1).mono ?_
  rintro e w7 ⟨rfl, b7⟩
  have B7 : Hid (Below w.heap.size w w7) := B6.out.trans (b7.mono B6.out.size)
  have R3 := Lib.hid (R3.out.under b7)
  clear b7
  go_wp2_with fail
  refine (meets_pat _ _ _ _ P3 N3.out R3.out true M3.out.2).mono ?_
  rintro e w8 ⟨rfl, b8⟩
  have B8 : Hid (Below w.heap.size w w8) := B7.out.trans (b8.mono B7.out.size)
  clear b8
  go_wp2
  go_ret
  exact ⟨rfl, B8.out⟩
end Go.Proofs.YtmagidkgajmhoaaDoor
