/- JnE: rows of changes, and the compare that Commit sorts by. -/
import Derived.Test.YtpaabfadniakoaaJnD
import Derived.Laws.AppendOwnNone
import Derived.Deep.OwnRows
import Derived.Laws.OwnMore
import Derived.Lib.SliceRun
import Derived.Shelf.SlSortCmp.WholeK
set_option linter.unusedVariables false
set_option linter.unusedSimpArgs false
namespace Go.Proofs.Ytpaabfadniakoaa
open Go.RowKit

def chv : List (Nat × ByteArray) → List Value
  | [] => []
  | h :: l => .int .i64 (h.1 : Int) :: .string h.2 :: chv l
theorem chv_length : ∀ l, (chv l).length = l.length * 2
  | [] => rfl
  | h :: l => by simp [chv, chv_length l]; omega
theorem chv_append : ∀ a b, chv (a ++ b) = chv a ++ chv b
  | [], b => rfl
  | h :: a, b => by simp [chv, chv_append a b]
theorem chv_get : ∀ (l : List (Nat × ByteArray)) (k : Nat) (h : k < l.length), (chv l)[k * 2]? = some (.int .i64 (l[k].1 : Int)) ∧ (chv l)[k * 2 + 1]? = some (.string l[k].2)
  | x :: l, 0, h => ⟨rfl, rfl⟩
  | x :: l, k + 1, h => by
    have := chv_get l k (by simpa using h)
    rw [show (k + 1) * 2 = k * 2 + 2 by omega, show k * 2 + 2 + 1 = k * 2 + 1 + 2 by omega]
    simpa [chv] using this
theorem infoCh : (Try.prog.info? 44).map (fun i => (i.zero, i.size, i.bytes)) = some (some (.agg #[.int .i64 0, .string ByteArray.empty]), 2, 24) := by kernel_rfl
abbrev BCh := { x : Nat × ByteArray // x.1 ≤ 128 }
instance : Inhabited BCh := ⟨⟨(0, ByteArray.empty), by decide⟩⟩
def encCh (x : BCh) : List Value := [.int .i64 (x.1.1 : Int), .string x.1.2]
def cfCh (x y : BCh) : Int := (x.1.1 : Int) - y.1.1
open Go.Shelf Go.Lib Go.Sort in
theorem cmpCh_any (x y : BCh) (W : World) : Calls Try.prog 48 #[.agg #[.int .i64 (x.1.1 : Int), .string x.1.2], .agg #[.int .i64 (y.1.1 : Int), .string y.1.2]] W fun e w' => e = .returned (.int .i64 (cfCh x y)) ∧ ∃ q os', w' = grow (W.drewN q) os' := by
  have hx := x.2; have hy := y.2
  unfold cfCh
  generalize x.1 = a at hx ⊢
  generalize y.1 = b at hy ⊢
  go_enter Try.func48, Try.ntmps48
  go_wp2
  go_ret
  exact ⟨rfl, 0, _, by rw [alloc_eq_grow, alloc_eq_grow, grow_grow]; rfl⟩
open Go.Shelf Go.Lib Go.Sort in
theorem cmpCh_lays (blk off size : Nat) (w : World) : CmpLays Try.prog 48 #[] encCh 2 cfCh blk off size w := fun _ _ _ _ x y => cmpCh_any x y _
open Go.Sort in
theorem ltCh (x y : BCh) : ltOf cfCh x y = decide (x.1.1 < y.1.1) := by
  unfold ltOf cfCh
  by_cases h : x.1.1 < y.1.1
  · rw [decide_eq_true h, decide_eq_true (by omega)]
  · rw [decide_eq_false h, decide_eq_false (by omega)]
open Go.Sort in
theorem swoCh : SWO (ltOf cfCh) where
  irrefl x := by rw [ltCh]; simp
  trans x y z h1 h2 := by rw [ltCh] at *; simp at *; omega
  ntrans x y z h1 h2 := by rw [ltCh] at *; simp at *; omega
end Go.Proofs.Ytpaabfadniakoaa
