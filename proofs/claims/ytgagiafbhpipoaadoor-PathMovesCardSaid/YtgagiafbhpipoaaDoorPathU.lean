/- The walk of PathMoves (written by gen_path.py). -/
import Derived.Test.YtgagiafbhpipoaaDoorPathG
import Derived.Test.YtgagiafbhpipoaaDoorPathR
set_option linter.unusedVariables false
set_option linter.unusedSimpArgs false
namespace Go.Proofs.YtgagiafbhpipoaaDoor
open Go.RowKit

set_option maxHeartbeats 3200000 in
theorem pathMoves_walk (w : World) (p : ByteArray) (_hp : p.size ≤ 140737488351232) (a : ByteArray) (_ha : a.size ≤ 140737488351232) (t : ByteArray) (_ht : t.size ≤ 140737488351232) :
    Calls Tryd.prog 4 #[.string p, .string a, .string t] w fun e w' => e = .returned (.bool true) ∧ Below w.heap.size w w' := by
  have B0 : Hid (Below w.heap.size w (w.alloc (.cells #[.string p, .string a, .string t] 9))) := (Below.refl _ w).alloc (Nat.le_refl _) _
  go_enter Tryd.func4, Tryd.ntmps4
  go_wp2_with fail
  refine (short_any _ _ _ (rds3 _ p a t) (by simp)).mono ?_
  rintro e w0 ⟨b0, rfl, _, rfl⟩
  cases b0 with
  | false =>
    go_wp2_with fail
    refine (lives5 _).mono ?_
    rintro e w1 ⟨rfl, b1⟩
    have B1 : Hid (Below w.heap.size w w1) := B0.out.trans (b1.mono B0.out.size)
    clear b1
    go_wp2
    go_ret
    exact ⟨rfl, B1.out⟩
  | true =>
    go_wp2_with fail
    refine (moved_any _ _ _ _).mono ?_
    rintro e w2 ⟨q, rfl, hq, b2⟩
    have B2 : Hid (Below w.heap.size w w2) := B0.out.trans (b2.mono B0.out.size)
    clear b2
    go_wp2_with fail
    refine (refmoved_any _ _ _ _).mono ?_
    rintro e w3 ⟨r, rfl, hr, b3⟩
    have B3 : Hid (Below w.heap.size w w3) := B2.out.trans (b3.mono B2.out.size)
    clear b3
    have hqr : r = q := dat_inj (hr.trans hq.symm)
    subst hqr
    clear hq hr
    go_wp2_with fail
    refine (lives5 _).mono ?_
    rintro e w4 ⟨rfl, b4⟩
    have B4 : Hid (Below w.heap.size w w4) := B3.out.trans (b4.mono B3.out.size)
    clear b4
    go_wp2
    go_ret
    exact ⟨rfl, B4.out⟩
end Go.Proofs.YtgagiafbhpipoaaDoor
