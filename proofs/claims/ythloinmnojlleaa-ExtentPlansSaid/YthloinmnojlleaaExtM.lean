/- ExtM: the walk of lives. -/
import Derived.Test.YthloinmnojlleaaExtL
set_option linter.unusedVariables false
set_option linter.unusedSimpArgs false
namespace Go.Proofs.Ythloinmnojlleaa
open Go.RowKit

theorem Mine.allocAr {w0 w w' : World} {l2 : List Part} {F : Nat → Prop} {g n r : Nat} {a : Ar} {e : Ending} (h : Mine w0 w (ar F g a :: l2)) (ht : AllocTo w F g a n r e w') :
    (choose a.holes n (bet r a.next) a.holes.length = none ∧ e = .returned (.tuple #[.int .i64 0, .int .i64 5]) ∧ Mine w0 w' (ar F g a :: l2)) ∨
    ∃ j F', choose a.holes n (bet r a.next) a.holes.length = some j ∧ e = .returned (.tuple #[.int .i64 ((a.holes.getD j (0, 0)).1 : Nat), .int .i64 0]) ∧
      Mine w0 w' (ar F' g { size := a.size, holes := cutL a.holes j (a.holes.getD j (0, 0)) (a.holes.getD j (0, 0)).1 n, next := if r = 3 then (a.holes.getD j (0, 0)).1 + n else a.next } :: l2) := by
  unfold AllocTo at ht
  cases hc : choose a.holes n (bet r a.next) a.holes.length with
  | none =>
    rw [hc] at ht
    exact .inl ⟨rfl, ht.1, h.below ht.2⟩
  | some j =>
    rw [hc] at ht
    obtain ⟨he, F', ht⟩ := ht
    exact .inr ⟨j, F', rfl, he, h.arTo (l1 := []) ht⟩
set_option maxHeartbeats 1600000 in
theorem lives16 (w : World) : Calls Try.prog 10 #[] w fun e w' => e = .returned (.bool true) ∧ Below w.heap.size w w' := by
  go_enter Try.func10, Try.ntmps10
  go_wp2_with fail
  refine (new_yes _ 10 (by decide) (by decide)).mono ?_
  rintro e w1 ⟨g, F, v, rfl, h1, hF, b1⟩
  have M1 : Hid (Mine w w1 [ar F g ⟨10, [(0, 10)], 0⟩]) := (Mine.start w).newAr b1 ⟨v, h1⟩ hF
  clear h1 hF b1
  go_wp2_with fail
  obtain ⟨v1, a1⟩ := M1.out.area (l1 := [])
  refine (alloc_any _ F g _ v1 a1 4 0 (by decide) (by decide)).mono ?_
  rintro e w2 ht
  clear a1
  have ht : e = .returned (.tuple #[.int .i64 (0 : Nat), .int .i64 0]) ∧ ∃ F', ArTo w1 F g ⟨10, [(4, 6)], 0⟩ w2 F' := ht
  obtain ⟨rfl, F2, ht⟩ := ht
  have M2 : Hid (Mine w w2 [ar F2 g ⟨10, [(4, 6)], 0⟩]) := M1.out.arTo (l1 := []) ht
  clear ht M1
  go_wp2_with fail
  obtain ⟨v2, a2⟩ := M2.out.area (l1 := [])
  refine (alloc_any _ F2 g _ v2 a2 3 0 (by decide) (by decide)).mono ?_
  rintro e w3 ht
  clear a2
  have ht : e = .returned (.tuple #[.int .i64 (4 : Nat), .int .i64 0]) ∧ ∃ F', ArTo w2 F2 g ⟨10, [(7, 3)], 0⟩ w3 F' := ht
  obtain ⟨rfl, F3, ht⟩ := ht
  have M3 : Hid (Mine w w3 [ar F3 g ⟨10, [(7, 3)], 0⟩]) := M2.out.arTo (l1 := []) ht
  clear ht M2
  go_wp2_with fail
  obtain ⟨v3, a3⟩ := M3.out.area (l1 := [])
  refine (give_any _ F3 g _ v3 a3 0 4).mono ?_
  rintro e w4 ht
  clear a3
  have ht : e = .returned (.int .i64 0) ∧ ∃ F', ArTo w3 F3 g ⟨10, [(0, 4), (7, 3)], 0⟩ w4 F' := ht
  obtain ⟨rfl, F4, ht⟩ := ht
  have M4 : Hid (Mine w w4 [ar F4 g ⟨10, [(0, 4), (7, 3)], 0⟩]) := M3.out.arTo (l1 := []) ht
  clear ht M3
  go_wp2_with fail
  obtain ⟨v4, a4⟩ := M4.out.area (l1 := [])
  refine (alloc_any _ F4 g _ v4 a4 3 1 (by decide) (by decide)).mono ?_
  rintro e w5 ht
  clear a4
  have ht : e = .returned (.tuple #[.int .i64 (7 : Nat), .int .i64 0]) ∧ ∃ F', ArTo w4 F4 g ⟨10, [(0, 4)], 0⟩ w5 F' := ht
  obtain ⟨rfl, F5, ht⟩ := ht
  have M5 : Hid (Mine w w5 [ar F5 g ⟨10, [(0, 4)], 0⟩]) := M4.out.arTo (l1 := []) ht
  clear ht M4
  go_wp2
  go_ret
  exact ⟨rfl, M5.out.bel⟩
end Go.Proofs.Ythloinmnojlleaa
