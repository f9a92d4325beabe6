/- OnceB: the walk of ExtentOnce, at all inputs. -/
import Derived.Test.YthloinmnojlleaaOnceA
set_option linter.unusedVariables false
set_option linter.unusedSimpArgs false
namespace Go.Proofs.Ythloinmnojlleaa
open Go.RowKit

set_option maxHeartbeats 800000 in
set_option maxRecDepth 100000 in
theorem extentOnce_walk (w : World) (n : Int) (_w : (Lit.int .i64 n).wf = true) (v : Value) (l : List OpE) (hv : RdE w v l) :
    Calls Try.prog 3 #[.int .i64 n, v] w fun e w' => e = .returned (.bool true) ∧ Below w.heap.size w w' := by
  by_cases hn : n < 1 ∨ 1048576 < n
  · obtain ⟨OA, oc, rfl, _, _, _, _⟩ := hv
    have HN := Lib.hid hn
    clear hn
    go_enter Try.func3, Try.ntmps3
    go_wp2_with fail
    refine (new_no w n HN.out).mono ?_
    rintro e w1 ⟨rfl, rfl⟩
    go_wp2_with fail
    refine (lives16 _).mono ?_
    rintro e w2 ⟨rfl, b2⟩
    have B2 := Lib.hid b2
    clear b2
    go_wp2
    go_ret
    exact ⟨rfl, B2.out⟩
  · obtain ⟨m, rfl⟩ := Int.eq_ofNat_of_zero_le (show 0 ≤ n by omega)
    exact once_yes w m v l (by omega) (by omega) hv
end Go.Proofs.Ythloinmnojlleaa
