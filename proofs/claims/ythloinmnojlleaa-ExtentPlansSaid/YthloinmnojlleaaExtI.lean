/- ExtI: the walk of Alloc, whatever is asked. -/
import Derived.Test.YthloinmnojlleaaExtH
set_option linter.unusedVariables false
set_option linter.unusedSimpArgs false
namespace Go.Proofs.Ythloinmnojlleaa
open Go.RowKit

theorem alloc_bad (w : World) (g : Nat) (n r : Int) (h : n < 1 ∨ r < 0 ∨ 4 ≤ r) :
    Calls Try.prog 11 #[.pointer (some ⟨g, 0, none⟩), .int .i64 n, .int .i64 r] w fun e w' => e = .returned (.tuple #[.int .i64 0, .int .i64 1]) ∧ w = w' := by
  by_cases h1 : n < 1
  · have d1 : decide (n < 1) = true := by simpa using h1
    go_enter Try.func11, Try.ntmps11
    go_wp2
    go_ret2
    exact ⟨rfl, rfl⟩
  · have d1 : decide (n < 1) = false := by simpa using h1
    by_cases h2 : r < 0
    · have d2 : decide (r < 0) = true := by simpa using h2
      go_enter Try.func11, Try.ntmps11
      go_wp2
      go_ret2
      exact ⟨rfl, rfl⟩
    · have d2 : decide (r < 0) = false := by simpa using h2
      have d3 : decide (4 ≤ r) = true := by simp; omega
      go_enter Try.func11, Try.ntmps11
      go_wp2
      go_ret2
      exact ⟨rfl, rfl⟩
theorem alloc_any (w : World) (F : Nat → Prop) (g : Nat) (a : Ar) (v : Value) (h : IsAr w F g a v) (n r : Nat) (hn : 1 ≤ n) (hr : r < 4) :
    Calls Try.prog 11 #[.pointer (some ⟨g, 0, none⟩), .int .i64 n, .int .i64 r] w fun e w' => AllocTo w F g a n r e w' := by
  match r, hr with
  | 0, _ => exact alloc_0 w F g a v h n hn
  | 1, _ => exact alloc_1 w F g a v h n hn
  | 2, _ => exact alloc_2 w F g a v h n hn
  | 3, _ => exact alloc_3 w F g a v h n hn
end Go.Proofs.Ythloinmnojlleaa
