/- PtC: the walk of ExtentPlans, at all inputs. -/
import Derived.Test.YthloinmnojlleaaPtB
set_option linter.unusedVariables false
set_option linter.unusedSimpArgs false
namespace Go.Proofs.Ythloinmnojlleaa
open Go.RowKit

set_option maxHeartbeats 1600000 in
set_option maxRecDepth 100000 in
theorem extentPlans_walk (w : World) (n : Int) (_w : (Lit.int .i64 n).wf = true) (tv : Value) (tk : List OpE) (ht : RdE w tv tk) (lv : Value) (l : List Int) (hl : RdI w lv l) :
    Calls Try.prog 7 #[.int .i64 n, tv, lv] w fun e w' => e = .returned (.bool true) ∧ Below w.heap.size w w' := by
  by_cases hn : n < 1 ∨ 1048576 < n
  · obtain ⟨TA, tc, rfl, _, _, _, _⟩ := ht
    obtain ⟨LA, lc, rfl, _, _, _, _⟩ := hl
    have HN := Lib.hid hn
    clear hn
    go_enter Try.func7, Try.ntmps7
    go_wp2_with fail
    refine (new_no w n HN.out).mono ?_
    rintro e w1 ⟨rfl, rfl⟩
    go_wp2_with fail
    refine (lives16 _).mono ?_
    rintro e w2 ⟨rfl, b2⟩
    have B2 := Lib.hid b2
    clear b2
    go_wp2
    go_ret
    exact ⟨rfl, B2.out⟩
  · obtain ⟨m, rfl⟩ := Int.eq_ofNat_of_zero_le (show 0 ≤ n by omega)
    by_cases h3 : m ≤ 300
    · exact plans_go w m tv lv tk l (by omega) h3 ht hl
    · obtain ⟨TA, tc, rfl, _, _, _, _⟩ := ht
      obtain ⟨LA, lc, rfl, _, _, _, _⟩ := hl
      have HM : Hid (1 ≤ m ∧ m ≤ 1048576) := ⟨by omega, by omega⟩
      have d1 : decide ((300 : Int) < (m : Int)) = true := by simp; omega
      clear hn h3
      all_goals
        go_enter Try.func7, Try.ntmps7
        go_wp2_with fail
        refine (new_yes w m HM.out.1 HM.out.2).mono ?_
        rintro e w1 ⟨g, F, v1, rfl, hd, hF, b1⟩
        have B1 := Lib.hid b1
        clear hd hF b1
        go_wp2_with fail
        refine (lives16 _).mono ?_
        rintro e w3 ⟨rfl, b3⟩
        have B3 : Hid (Below w.heap.size w w3) := B1.out.trans (b3.mono B1.out.size)
        clear b3
        go_wp2
        go_ret
        exact ⟨rfl, B3.out⟩
end Go.Proofs.Ythloinmnojlleaa
