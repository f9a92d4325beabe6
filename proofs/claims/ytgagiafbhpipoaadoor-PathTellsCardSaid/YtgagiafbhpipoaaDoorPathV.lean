/- The walk of PathTells (written by gen_path.py). -/
import Derived.Test.YtgagiafbhpipoaaDoorPathG
import Derived.Test.YtgagiafbhpipoaaDoorPathS
set_option linter.unusedVariables false
set_option linter.unusedSimpArgs false
namespace Go.Proofs.YtgagiafbhpipoaaDoor
open Go.RowKit

set_option maxHeartbeats 3200000 in
theorem pathTells_walk (w : World) (s : ByteArray) (_hs : s.size ≤ 140737488351232) :
    Calls Tryd.prog 8 #[.string s] w fun e w' => e = .returned (.bool true) ∧ Below w.heap.size w w' := by
  have B0 : Hid (Below w.heap.size w (w.alloc (.cells #[.string s] 9))) := (Below.refl _ w).alloc (Nat.le_refl _) _
  go_enter Tryd.func8, Tryd.ntmps8
  go_wp2_with fail
  refine (short_any _ _ _ (rds1 _ s) (by simp)).mono ?_
  rintro e w0 ⟨b0, rfl, _, rfl⟩
  cases b0 with
  | false =>
    go_wp2_with fail
    refine (lives5 _).mono ?_
    rintro e w1 ⟨rfl, b1⟩
    have B1 : Hid (Below w.heap.size w w1) := B0.out.trans (b1.mono B0.out.size)
    clear b1
    go_wp2
    go_ret
    exact ⟨rfl, B1.out⟩
  | true =>
    go_wp2_with fail
    refine (name_any _ _).mono ?_
    rintro e w2 ⟨rfl, b2⟩
    have B2 : Hid (Below w.heap.size w w2) := B0.out.trans (b2.mono B0.out.size)
    clear b2
    go_wp2_with fail
    refine (refname_any _ _).mono ?_
    rintro e wx ⟨rfl, rfl⟩
    go_wp2_with fail
    refine (good_any _ _).mono ?_
    rintro e w3 ⟨rfl, b3⟩
    have B3 : Hid (Below w.heap.size w w3) := B2.out.trans (b3.mono B2.out.size)
    clear b3
    go_wp2_with fail
    refine (refgood_any _ _).mono ?_
    rintro e w4 ⟨rfl, b4⟩
    have B4 : Hid (Below w.heap.size w w4) := B3.out.trans (b4.mono B3.out.size)
    clear b4
    go_wp2_with fail
    refine (place_any _ _).mono ?_
    rintro e w5 ⟨rfl, b5⟩
    have B5 : Hid (Below w.heap.size w w5) := B4.out.trans (b5.mono B4.out.size)
    clear b5
    go_wp2_with fail
    refine (refplace_any _ _).mono ?_
    rintro e w6 ⟨rfl, b6⟩
    have B6 : Hid (Below w.heap.size w w6) := B5.out.trans (b6.mono B5.out.size)
    clear b6
    go_wp2_with fail
    refine (parts_any _ _).mono ?_
    rintro e w7 ⟨A1, c1, ps, rfl, hps, hc1, hd1, hr1, b7⟩
    have B7 : Hid (Below w.heap.size w w7) := B6.out.trans (b7.mono B6.out.size)
    clear b7
    have T1 := Lib.hid (rdt_of hc1 hr1)
    clear hr1
    go_wp2_with fail
    refine (refparts_any _ _).mono ?_
    rintro e wy ⟨A2, c2, qs, rfl, hqs, hc2, hl2, hr2, by_⟩
    have BY : Hid (Below w.heap.size w wy) := B7.out.trans (by_.mono B7.out.size)
    have T1 := Lib.hid (T1.out.below by_)
    have T2 := Lib.hid (rdt_of hc2 hr2)
    have hl : ps.length ≤ 33 := by
      have h := congrArg List.length (hps.trans hqs.symm)
      simp [bytes] at h
      omega
    clear hr2 by_
    go_wp2_with fail
    refine (refsame_any _ _ _ ps qs T1.out T2.out (hps.trans hqs.symm) hl).mono ?_
    rintro e w8 ⟨rfl, b8⟩
    have B8 : Hid (Below w.heap.size w w8) := BY.out.trans (b8.mono BY.out.size)
    clear b8
    go_wp2_with fail
    refine (above_any _ _).mono ?_
    rintro e w9 ⟨q, rfl, hq, b9⟩
    have B9 : Hid (Below w.heap.size w w9) := B8.out.trans (b9.mono B8.out.size)
    clear b9
    go_wp2_with fail
    refine (refabove_any _ _).mono ?_
    rintro e w10 ⟨r, rfl, hr, b10⟩
    have B10 : Hid (Below w.heap.size w w10) := B9.out.trans (b10.mono B9.out.size)
    clear b10
    have hqr : r = q := dat_inj (hr.trans hq.symm)
    subst hqr
    clear hq hr
    go_wp2_with fail
    refine (lives5 _).mono ?_
    rintro e w11 ⟨rfl, b11⟩
    have B11 : Hid (Below w.heap.size w w11) := B10.out.trans (b11.mono B10.out.size)
    clear b11
    go_wp2
    go_ret
    exact ⟨rfl, B11.out⟩
end Go.Proofs.YtgagiafbhpipoaaDoor
