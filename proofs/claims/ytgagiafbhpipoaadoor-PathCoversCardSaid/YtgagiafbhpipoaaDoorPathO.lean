/- The walk of PathCovers (written by gen_path.py). -/
import Derived.Test.YtgagiafbhpipoaaDoorPathG
import Derived.Test.YtgagiafbhpipoaaDoorPathN
set_option linter.unusedVariables false
set_option linter.unusedSimpArgs false
namespace Go.Proofs.YtgagiafbhpipoaaDoor
open Go.RowKit

set_option maxHeartbeats 3200000 in
theorem pathCovers_walk (w : World) (a : ByteArray) (_ha : a.size ≤ 140737488351232) (b : ByteArray) (_hb : b.size ≤ 140737488351232) :
    Calls Tryd.prog 3 #[.string a, .string b] w fun e w' => e = .returned (.bool true) ∧ Below w.heap.size w w' := by
  have B0 : Hid (Below w.heap.size w (w.alloc (.cells #[.string a, .string b] 9))) := (Below.refl _ w).alloc (Nat.le_refl _) _
  go_enter Tryd.func3, Tryd.ntmps3
  go_wp2_with fail
  refine (short_any _ _ _ (rds2 _ a b) (by simp)).mono ?_
  rintro e w0 ⟨b0, rfl, _, rfl⟩
  cases b0 with
  | false =>
    go_wp2_with fail
    refine (lives5 _).mono ?_
    rintro e w1 ⟨rfl, b1⟩
    have B1 : Hid (Below w.heap.size w w1) := B0.out.trans (b1.mono B0.out.size)
    clear b1
    go_wp2
    go_ret
    exact ⟨rfl, B1.out⟩
  | true =>
    go_wp2_with fail
    refine (meet_any _ _ _).mono ?_
    rintro e w2 ⟨m, rfl, hm, b2⟩
    have B2 : Hid (Below w.heap.size w w2) := B0.out.trans (b2.mono B0.out.size)
    clear b2
    go_wp2_with fail
    refine (refmeet_any _ _ _).mono ?_
    rintro e w3 ⟨n, rfl, hn, b3⟩
    have B3 : Hid (Below w.heap.size w w3) := B2.out.trans (b3.mono B2.out.size)
    clear b3
    have hnm : n = m := dat_inj (hn.trans hm.symm)
    subst hnm
    clear hn hm
    go_wp2_with fail
    refine (covers_any _ _ _).mono ?_
    rintro e w4 ⟨rfl, b4⟩
    have B4 : Hid (Below w.heap.size w w4) := B3.out.trans (b4.mono B3.out.size)
    clear b4
    go_wp2_with fail
    refine (refcovers_any _ _ _).mono ?_
    rintro e w5 ⟨rfl, b5⟩
    have B5 : Hid (Below w.heap.size w w5) := B4.out.trans (b5.mono B4.out.size)
    clear b5
    go_wp2_with fail
    refine (lives5 _).mono ?_
    rintro e w6 ⟨rfl, b6⟩
    have B6 : Hid (Below w.heap.size w w6) := B5.out.trans (b6.mono B5.out.size)
    clear b6
    go_wp2
    go_ret
    exact ⟨rfl, B6.out⟩
end Go.Proofs.YtgagiafbhpipoaaDoor
