/- LawPlays2: the walk of DiskPlays, at all inputs. -/
import Derived.Test.YtfkonndbgmmckaaLawPlays
set_option linter.unusedVariables false
set_option linter.unusedSimpArgs false
namespace Go.Proofs.Ytfkonndbgmmckaa
open Go.RowKit

set_option maxHeartbeats 800000 in
set_option maxRecDepth 100000 in
theorem diskPlays_walk (w : World) (n : Int) (_w : (Lit.int .i64 n).wf = true) (v : Value) (l : List OpV) (hv : RdOps3 w v l) :
    Calls Try.prog 7 #[.int .i64 n, v] w fun e w' => e = .returned (.bool true) ∧ Below w.heap.size w w' := by
  by_cases hok : 1 ≤ n ∧ n ≤ 40
  · obtain ⟨a, b⟩ := hok
    obtain ⟨m, rfl⟩ := Int.eq_ofNat_of_zero_le (show 0 ≤ n by omega)
    exact plays_yes w m v l (by omega) (by omega) hv
  · obtain ⟨⟨OA, oc, rfl, _, _, _⟩, _⟩ := hv
    have HN := Lib.hid hok
    clear hok
    by_cases hn : n < 1 ∨ 2048 < n
    · have HN2 := Lib.hid hn
      clear hn
      go_enter Try.func7, Try.ntmps7
      go_wp2_with fail
      refine (new_no _ n HN2.out).mono ?_
      rintro e w1 ⟨rfl, rfl⟩
      go_wp2_with fail
      refine (rnew_no _ n HN2.out).mono ?_
      rintro e w2 ⟨rfl, b2⟩
      have B2 := Lib.hid b2
      clear b2
      have BA : ∀ b, Hid (Below w.heap.size w (w2.alloc b)) := fun b => B2.out.alloc B2.out.size b
      go_wp2_with fail
      refine (lives6 _).mono ?_
      rintro e w3 ⟨rfl, b3⟩
      have B3 : Hid (Below w.heap.size w w3) := (BA _).out.trans (b3.mono (BA _).out.size)
      clear b3
      go_wp2
      go_ret
      exact ⟨rfl, B3.out⟩
    · obtain ⟨m, rfl⟩ := Int.eq_ofNat_of_zero_le (show 0 ≤ n by omega)
      have hm : 1 ≤ m ∧ m ≤ 2048 := by omega
      have d1 : decide ((40 : Int) < m) = true := by have := HN.out; simp; omega
      have HM := Lib.hid hm
      clear hn hm
      go_enter Try.func7, Try.ntmps7
      go_wp2_with fail
      refine (new_h _ m HM.out.1 HM.out.2).mono ?_
      rintro e w1 ⟨g1, F1, rfl, hd, hF, b1⟩
      have B1 := Lib.hid b1
      clear hd hF b1
      go_wp2_with fail
      refine (rnew_yes _ m HM.out.1 HM.out.2).mono ?_
      rintro e w2 ⟨R1, vl, rfl, hr, hR, b2⟩
      obtain ⟨A2, c2, rfl⟩ := own_slice hr.own
      have B2 : Hid (Below w.heap.size w w2) := B1.out.trans (b2.mono B1.out.size)
      clear b2 hr hR B1
      unfold refV
      have BA : ∀ b, Hid (Below w.heap.size w (w2.alloc b)) := fun b => B2.out.alloc B2.out.size b
      go_wp2_with fail
      refine (lives6 _).mono ?_
      rintro e w3 ⟨rfl, b3⟩
      have B3 : Hid (Below w.heap.size w w3) := (BA _).out.trans (b3.mono (BA _).out.size)
      clear b3
      go_wp2
      go_ret
      exact ⟨rfl, B3.out⟩
end Go.Proofs.Ytfkonndbgmmckaa
