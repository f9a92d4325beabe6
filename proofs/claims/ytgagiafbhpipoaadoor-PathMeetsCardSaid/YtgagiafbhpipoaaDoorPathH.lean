/- The walk of PathMeets (written by gen_path.py). -/
import Derived.Test.YtgagiafbhpipoaaDoorPathG
set_option linter.unusedVariables false
set_option linter.unusedSimpArgs false
namespace Go.Proofs.YtgagiafbhpipoaaDoor
open Go.RowKit

set_option maxHeartbeats 3200000 in
theorem pathMeets_walk (w : World) (a : ByteArray) (_ha : a.size ≤ 140737488351232) (b : ByteArray) (_hb : b.size ≤ 140737488351232) (c : ByteArray) (_hc : c.size ≤ 140737488351232) :
    Calls Tryd.prog 7 #[.string a, .string b, .string c] w fun e w' => e = .returned (.bool true) ∧ Below w.heap.size w w' := by
  have B0 : Hid (Below w.heap.size w (w.alloc (.cells #[.string a, .string b, .string c] 9))) := (Below.refl _ w).alloc (Nat.le_refl _) _
  go_enter Tryd.func7, Tryd.ntmps7
  go_wp2_with fail
  refine (short_any _ _ _ (rds3 _ a b c) (by simp)).mono ?_
  rintro e w0 ⟨b0, rfl, _, rfl⟩
  cases b0 with
  | false =>
    go_wp2_with fail
    refine (lives5 _).mono ?_
    rintro e w1 ⟨rfl, b1⟩
    have B1 : Hid (Below w.heap.size w w1) := B0.out.trans (b1.mono B0.out.size)
    clear b1
    go_wp2
    go_ret
    exact ⟨rfl, B1.out⟩
  | true =>
    go_wp2_with fail
    refine (meet_any _ _ _).mono ?_
    rintro e w2 ⟨m, rfl, hm, b2⟩
    have B2 : Hid (Below w.heap.size w w2) := B0.out.trans (b2.mono B0.out.size)
    clear b2
    go_wp2_with fail
    refine (meet_any _ _ _).mono ?_
    rintro e w3 ⟨n, rfl, hn, b3⟩
    have B3 : Hid (Below w.heap.size w w3) := B2.out.trans (b3.mono B2.out.size)
    clear b3
    rw [meet_comm (dat b) (dat a)] at hn ⊢
    have hnm : n = m := dat_inj (hn.trans hm.symm)
    subst hnm
    clear hn
    have HM := Lib.hid hm
    clear hm
    cases h1 : (meetB (dat a) (dat b)).2 with
    | false =>
      have H1 := Lib.hid h1
      clear h1
      go_wp2_with fail
      refine (covers_any _ _ _).mono ?_
      rintro e w4 ⟨rfl, b4⟩
      have B4 : Hid (Below w.heap.size w w4) := B3.out.trans (b4.mono B3.out.size)
      clear b4
      cases h2 : coversB (dat a) (dat c) with
      | false =>
        have H2 := Lib.hid h2
        clear h2
        go_wp2_with fail
        refine (lives5 _).mono ?_
        rintro e w5 ⟨rfl, b5⟩
        have B5 : Hid (Below w.heap.size w w5) := B4.out.trans (b5.mono B4.out.size)
        clear b5
        go_wp2
        go_ret
        exact ⟨rfl, B5.out⟩
      | true =>
        have H2 := Lib.hid h2
        clear h2
        go_wp2_with fail
        refine (covers_any _ _ _).mono ?_
        rintro e w6 ⟨rfl, b6⟩
        have B6 : Hid (Below w.heap.size w w6) := B4.out.trans (b6.mono B4.out.size)
        clear b6
        cases h3 : coversB (dat b) (dat c) with
        | false =>
          have H3 := Lib.hid h3
          clear h3
          go_wp2_with fail
          refine (lives5 _).mono ?_
          rintro e w7 ⟨rfl, b7⟩
          have B7 : Hid (Below w.heap.size w w7) := B6.out.trans (b7.mono B6.out.size)
          clear b7
          go_wp2
          go_ret
          exact ⟨rfl, B7.out⟩
        | true =>
          have H3 := Lib.hid h3
          clear h3
          exact absurd (meet_most H2.out H3.out).1 (by rw [H1.out]; decide)
    | true =>
      have H1 := Lib.hid h1
      clear h1
      have H4 : Hid (coversB (dat a) (dat n) = true) := by unfold Hid; rw [HM.out]; exact (meet_covered H1.out).1
      have H5 : Hid (coversB (dat b) (dat n) = true) := by unfold Hid; rw [HM.out]; exact (meet_covered H1.out).2
      go_wp2_with fail
      refine (covers_any _ _ _).mono ?_
      rintro e w8 ⟨rfl, b8⟩
      have B8 : Hid (Below w.heap.size w w8) := B3.out.trans (b8.mono B3.out.size)
      clear b8
      rw [show coversB (dat a) (dat n) = true from H4.out]
      go_wp2_with fail
      refine (covers_any _ _ _).mono ?_
      rintro e w9 ⟨rfl, b9⟩
      have B9 : Hid (Below w.heap.size w w9) := B8.out.trans (b9.mono B8.out.size)
      clear b9
      rw [show coversB (dat b) (dat n) = true from H5.out]
      go_wp2_with fail
      refine (covers_any _ _ _).mono ?_
      rintro e w10 ⟨rfl, b10⟩
      have B10 : Hid (Below w.heap.size w w10) := B9.out.trans (b10.mono B9.out.size)
      clear b10
      cases h6 : coversB (dat a) (dat c) with
      | false =>
        have H6 := Lib.hid h6
        clear h6
        go_wp2_with fail
        refine (lives5 _).mono ?_
        rintro e w11 ⟨rfl, b11⟩
        have B11 : Hid (Below w.heap.size w w11) := B10.out.trans (b11.mono B10.out.size)
        clear b11
        go_wp2
        go_ret
        exact ⟨rfl, B11.out⟩
      | true =>
        have H6 := Lib.hid h6
        clear h6
        go_wp2_with fail
        refine (covers_any _ _ _).mono ?_
        rintro e w12 ⟨rfl, b12⟩
        have B12 : Hid (Below w.heap.size w w12) := B10.out.trans (b12.mono B10.out.size)
        clear b12
        cases h7 : coversB (dat b) (dat c) with
        | false =>
          have H7 := Lib.hid h7
          clear h7
          go_wp2_with fail
          refine (lives5 _).mono ?_
          rintro e w13 ⟨rfl, b13⟩
          have B13 : Hid (Below w.heap.size w w13) := B12.out.trans (b13.mono B12.out.size)
          clear b13
          go_wp2
          go_ret
          exact ⟨rfl, B13.out⟩
        | true =>
          have H7 := Lib.hid h7
          clear h7
          have H8 : Hid (coversB (dat n) (dat c) = true) := by unfold Hid; rw [HM.out]; exact (meet_most H6.out H7.out).2
          go_wp2_with fail
          refine (covers_any _ _ _).mono ?_
          rintro e w14 ⟨rfl, b14⟩
          have B14 : Hid (Below w.heap.size w w14) := B12.out.trans (b14.mono B12.out.size)
          clear b14
          rw [show coversB (dat n) (dat c) = true from H8.out]
          go_wp2_with fail
          refine (lives5 _).mono ?_
          rintro e w15 ⟨rfl, b15⟩
          have B15 : Hid (Below w.heap.size w w15) := B14.out.trans (b15.mono B14.out.size)
          clear b15
          go_wp2
          go_ret
          exact ⟨rfl, B15.out⟩
end Go.Proofs.YtgagiafbhpipoaaDoor
