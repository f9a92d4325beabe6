/- GlT: GlobLiteral's walk. -/
import Derived.Test.YtmagidkgajmhoaaDoorGlS
set_option linter.unusedVariables false
set_option linter.unusedSimpArgs false
namespace Go.Proofs.YtmagidkgajmhoaaDoor
open Go.RowKit

set_option maxHeartbeats 6400000 in
set_option maxRecDepth 100000 in
theorem globLiteral_walk (w : World) (q : ByteArray) (_hq : q.size ≤ 140737488351232) (other : ByteArray) (_ho : other.size ≤ 140737488351232) :
    Calls Tryd.prog 3 #[.string q, .string other] w fun e w' => e = .returned (.bool true) ∧ Below w.heap.size w w' := by
  clear _hq _ho
  go_enter Tryd.func3, Tryd.ntmps3
  go_wp2_with fail
  refine (refgood_any q w).mono ?_
  rintro e w1 ⟨rfl, b1⟩
  have B1 := Lib.hid b1
  clear b1
  cases hg : goodB (dat q) with
  | false =>
    clear hg
    go_wp2_with fail
    refine (glives_any _).mono ?_
    rintro e w2 ⟨rfl, b2⟩
    have B2 : Hid (Below w.heap.size w w2) := B1.out.trans (b2.mono B1.out.size)
    clear b2
    go_wp2
    go_ret
    exact ⟨rfl, B2.out⟩
  | true =>
    have HG := Lib.hid hg
    have hsz : q.size ≤ 32 := by have := (good_iff.1 hg).1; rw [← Lib.size_eq] at this; exact this
    clear hg
    by_cases h200 : 200 < other.size
    · have hi : (200 : Int) < (other.size : Int) := by omega
      go_wp2_with fail
      refine (glives_any _).mono ?_
      rintro e w2 ⟨rfl, b2⟩
      have B2 : Hid (Below w.heap.size w w2) := B1.out.trans (b2.mono B1.out.size)
      clear b2
      go_wp2
      go_ret
      exact ⟨rfl, B2.out⟩
    have hi : ¬ (200 : Int) < (other.size : Int) := by omega
    go_wp2_with fail
    refine (literal_any q w1 (by omega)).mono ?_
    rintro e w2 ⟨t, rfl, ht, b2⟩
    have B2 : Hid (Below w.heap.size w w2) := B1.out.trans (b2.mono B1.out.size)
    have HT := Lib.hid ht
    clear b2 ht
    by_cases h63 : 63 < t.size
    · have h63i : (63 : Int) < (t.size : Int) := by omega
      go_wp2_with fail
      refine (glives_any _).mono ?_
      rintro e w3 ⟨rfl, b3⟩
      have B3 : Hid (Below w.heap.size w w3) := B2.out.trans (b3.mono B2.out.size)
      clear b3
      go_wp2
      go_ret
      exact ⟨rfl, B3.out⟩
    have h63i : ¬ (63 : Int) < (t.size : Int) := by omega
    have LL : Hid ((lit (dat q)).length ≤ 63) := by unfold Hid; rw [← HT.out, datsz]; omega
    go_wp2_with fail
    refine (literal_any q w2 (by omega)).mono ?_
    rintro e w3 ⟨t3, rfl, ht3, b3⟩
    have B3 : Hid (Below w.heap.size w w3) := B2.out.trans (b3.mono B2.out.size)
    have P3 : Hid (parseP (dat t3) = some ⟨litPs (dat q), false, false⟩) := by unfold Hid; rw [ht3]; exact parse_lit HG.out (by have := LL.out; omega)
    clear b3 ht3
    go_wp2_with fail
    refine (parse_some _ _ _ P3.out).mono ?_
    rintro e w4 ⟨g1, n1, hn1, ht1, rfl, r1, hg1, b4⟩
    have R1 := Lib.hid r1; have N1 := Lib.hid hn1
    have B4 : Hid (Below w.heap.size w w4) := B3.out.trans (b4.mono B3.out.size)
    clear r1 b4 hn1 ht1
    go_wp2_with fail
    refine (literal_any q w4 (by omega)).mono ?_
    rintro e w5 ⟨t5, rfl, ht5, b5⟩
    have R1 := Lib.hid (R1.out.under b5)
    have B5 : Hid (Below w.heap.size w w5) := B4.out.trans (b5.mono B4.out.size)
    have P5 : Hid (parseP (dat (t5 ++ ⟨#[47]⟩)) = some ⟨litPs (dat q), false, true⟩) := by unfold Hid; rw [dat_append, ht5]; exact parse_below HG.out LL.out
    have hs5 : t5.size ≤ 63 := by rw [← datsz, ht5]; exact LL.out
    have nb : ¬ 9223372036854775807 < t5.size + 1 := by omega
    clear b5 ht5
    go_wp2_with fail
    refine (parse_some _ _ _ P5.out).mono ?_
    rintro e w6 ⟨g2, n2, hn2, ht2, rfl, r2, hg2, b6⟩
    have R2 := Lib.hid r2; have N2 := Lib.hid hn2
    have R1 := Lib.hid (R1.out.under b6)
    have B6 : Hid (Below w.heap.size w w6) := B5.out.trans (b6.mono B5.out.size)
    clear r2 b6 hn2 ht2
    obtain ⟨xo, hxo⟩ : ∃ x, x = decide (dat other = dat q) := ⟨_, rfl⟩
    have EQ : (other.toList == q.toList) = xo := by
      rw [Lib.toList_data, Lib.toList_data, hxo, Bool.eq_iff_iff, beq_iff_eq, decide_eq_true_eq]
    have M1 : Hid (patMeets ⟨litPs (dat q), false, false⟩ (dat q) = true) := by unfold Hid; rw [meets_lit HG.out]; simp
    have M2 : Hid (patMeets ⟨litPs (dat q), false, false⟩ (dat other) = xo) := by unfold Hid; rw [meets_lit HG.out, hxo]
    have M3 : Hid (patMeets ⟨litPs (dat q), false, true⟩ (dat q) = false) := by unfold Hid; rw [meets_below HG.out]; simp
    have M4 : Hid (patMeets ⟨litPs (dat q), false, true⟩ (dat other) = (!xo && coversB (dat q) (dat other))) := by unfold Hid; rw [meets_below HG.out, hxo]
    have HXO := Lib.hid hxo
    clear hxo
    go_wp2_with fail
    refine (meets_pat _ _ _ _ _ N1.out R1.out true M1.out).mono ?_
    rintro e w7 ⟨rfl, b7⟩
    have B7 : Hid (Below w.heap.size w w7) := B6.out.trans (b7.mono B6.out.size)
    have R1 := Lib.hid (R1.out.under b7); have R2 := Lib.hid (R2.out.under b7)
    clear b7
    go_wp2_with fail
    refine (meets_pat _ _ _ _ _ N1.out R1.out xo M2.out).mono ?_
    rintro e w8 ⟨rfl, b8⟩
    have B8 : Hid (Below w.heap.size w w8) := B7.out.trans (b8.mono B7.out.size)
    have R2 := Lib.hid (R2.out.under b8)
    clear b8
    go_wp2_with fail
    refine (meets_pat _ _ _ _ _ N2.out R2.out false M3.out).mono ?_
    rintro e w9 ⟨rfl, b9⟩
    have B9 : Hid (Below w.heap.size w w9) := B8.out.trans (b9.mono B8.out.size)
    have R2 := Lib.hid (R2.out.under b9)
    clear b9
    go_wp2_with fail
    refine (meets_pat _ _ _ _ _ N2.out R2.out _ M4.out).mono ?_
    rintro e w10 ⟨rfl, b10⟩
    have B10 : Hid (Below w.heap.size w w10) := B9.out.trans (b10.mono B9.out.size)
    clear b10
    cases xo with
    | true =>
      go_wp2_with fail
      refine (glives_any _).mono ?_
      rintro e w11 ⟨rfl, b11⟩
      have B11 : Hid (Below w.heap.size w w11) := B10.out.trans (b11.mono B10.out.size)
      clear b11
      go_wp2
      go_ret
      exact ⟨rfl, B11.out⟩
    | false =>
      go_wp2_with fail
      refine (refcovers_any q other _).mono ?_
      rintro e w11 ⟨rfl, b11⟩
      have B11 : Hid (Below w.heap.size w w11) := B10.out.trans (b11.mono B10.out.size)
      clear b11
      generalize coversB (dat q) (dat other) = cv
      cases cv <;>
      · go_wp2_with fail
        refine (glives_any _).mono ?_
        rintro e w12 ⟨rfl, b12⟩
        have B12 : Hid (Below w.heap.size w w12) := B11.out.trans (b12.mono B11.out.size)
        clear b12
        go_wp2
        go_ret
        exact ⟨rfl, B12.out⟩
end Go.Proofs.YtmagidkgajmhoaaDoor
