/- PlT: the walk of ExtentPlays, at all inputs. -/
import Derived.Test.YthloinmnojlleaaPlS
set_option linter.unusedVariables false
set_option linter.unusedSimpArgs false
namespace Go.Proofs.Ythloinmnojlleaa
open Go.RowKit

set_option maxHeartbeats 1600000 in
set_option maxRecDepth 100000 in
theorem extentPlays_walk (w : World) (n : Int) (_w : (Lit.int .i64 n).wf = true) (v : Value) (l : List OpE) (hv : RdE w v l) :
    Calls Try.prog 5 #[.int .i64 n, v] w fun e w' => e = .returned (.bool true) ∧ Below w.heap.size w w' := by
  by_cases hn : n < 1 ∨ 1048576 < n
  · obtain ⟨OA, oc, rfl, _, _, _, _⟩ := hv
    have HN := Lib.hid hn
    have hc : decide (n < 1) = true ∨ (decide (n < 1) = false ∧ decide (1048576 < n) = true) := by
      by_cases h : n < 1
      · exact .inl (by simpa using h)
      · exact .inr ⟨by simpa using h, by simp; omega⟩
    clear hn
    rcases hc with d1 | ⟨d1, d2⟩
    all_goals
      go_enter Try.func5, Try.ntmps5
      go_wp2_with fail
      refine (new_no w n HN.out).mono ?_
      rintro e w1 ⟨rfl, rfl⟩
      go_wp2_with fail
      refine (lives16 _).mono ?_
      rintro e w2 ⟨rfl, b2⟩
      have B2 := Lib.hid b2
      clear b2
      go_wp2
      go_ret
      exact ⟨rfl, B2.out⟩
  · obtain ⟨m, rfl⟩ := Int.eq_ofNat_of_zero_le (show 0 ≤ n by omega)
    by_cases h3 : m ≤ 300
    · exact plays_yes w m v l (by omega) h3 hv
    · obtain ⟨OA, oc, rfl, _, _, _, _⟩ := hv
      have HM : Hid (1 ≤ m ∧ m ≤ 1048576) := ⟨by omega, by omega⟩
      have d1 : decide ((m : Int) < 1) = false := by simp; omega
      have d2 : decide ((1048576 : Int) < (m : Int)) = false := by simp; omega
      have d3 : decide ((300 : Int) < (m : Int)) = true := by simp; omega
      clear hn h3
      go_enter Try.func5, Try.ntmps5
      go_wp2_with fail
      refine (new_yes w m HM.out.1 HM.out.2).mono ?_
      rintro e w1 ⟨g, F, v1, rfl, hd, hF, b1⟩
      have B1 := Lib.hid b1
      have FR := Lib.hid (free_any w1 F g (Ar.new m) v1 hd)
      have hfree : (Ar.new m).free = m := by simp [Ar.free, Ar.new]
      rw [hfree] at FR
      clear hd hF b1 hfree
      go_wp2_with fail
      refine FR.out.mono ?_
      rintro e w2 ⟨rfl, b2⟩
      have B2 : Hid (Below w.heap.size w w2) := B1.out.trans (b2.mono B1.out.size)
      clear b2 FR
      go_wp2_with fail
      refine (lives16 _).mono ?_
      rintro e w3 ⟨rfl, b3⟩
      have B3 : Hid (Below w.heap.size w w3) := B2.out.trans (b3.mono B2.out.size)
      clear b3
      go_wp2
      go_ret
      exact ⟨rfl, B3.out⟩
end Go.Proofs.Ythloinmnojlleaa
