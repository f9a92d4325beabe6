/- LawOne2: the walk of DiskOne, at all inputs. -/
import Derived.Test.YtfkonndbgmmckaaLawOne
set_option linter.unusedVariables false
set_option linter.unusedSimpArgs false
namespace Go.Proofs.Ytfkonndbgmmckaa
open Go.RowKit

set_option maxHeartbeats 800000 in
set_option maxRecDepth 100000 in
theorem diskOne_walk (w : World) (n : Int) (_w : (Lit.int .i64 n).wf = true) (v : Value) (l : List OpV) (hv : RdOps w v l) (pv : Value) (picks : List Bool) (hp : RdB w pv picks) :
    Calls Try.prog 3 #[.int .i64 n, v, pv] w fun e w' => e = .returned (.bool true) ∧ Below w.heap.size w w' := by
  have hp' := hp
  obtain ⟨_, A, pc, rfl, _, _, _⟩ := hp'
  by_cases hn : n < 1 ∨ 40 < n
  · obtain ⟨OA, oc, rfl, _, _, _⟩ := hv
    have HN := Lib.hid hn
    clear hn hp
    go_enter Try.func3, Try.ntmps3
    go_wp2_with fail
    refine (made_no w n (.slice none 0 0) HN.out _ _ _).mono ?_
    rintro e w1 ⟨rfl, b1⟩
    have B1 := Lib.hid b1
    clear b1
    go_wp2_with fail
    refine (lives6 _).mono ?_
    rintro e w2 ⟨rfl, b2⟩
    have B2 := Lib.hid b2
    clear b2
    go_wp2
    go_ret
    exact ⟨rfl, B1.out.trans (B2.out.mono B1.out.size)⟩
  · obtain ⟨m, rfl⟩ := Int.eq_ofNat_of_zero_le (show 0 ≤ n by omega)
    by_cases hpk : picks.length ≤ 300
    · exact one_yes w m v l (by omega) (by omega) hv A pc picks hp hpk
    · have hq : 300 < picks.length := by omega
      have hv' := Lib.hid hv
      obtain ⟨OA, oc, rfl, _, _, _⟩ := hv
      have HN := Lib.hid hn
      clear hn hp hpk
      go_enter Try.func3, Try.ntmps3
      go_wp2_with fail
      refine (made_yes w m _ l (by have := HN.out; omega) (by have := HN.out; omega) hv'.out).mono ?_
      rintro e w1 ⟨g, F, rfl, _, _, b1⟩
      have B1 := Lib.hid b1
      clear b1
      go_wp2_with fail
      refine (lives6 _).mono ?_
      rintro e w2 ⟨rfl, b2⟩
      have B2 := Lib.hid b2
      clear b2
      go_wp2
      go_ret
      exact ⟨rfl, B1.out.trans (B2.out.mono B1.out.size)⟩
end Go.Proofs.Ytfkonndbgmmckaa
