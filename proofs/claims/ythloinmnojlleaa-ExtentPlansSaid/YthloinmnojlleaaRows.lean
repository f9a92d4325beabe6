/-
  No cell of these rows narrows 'for every input' (looked for: loops, veiled, ifaces, maps, wideKeys, modest, calm, conditions, laid).
  DERIVED. THE GIVEN ROWS OF THIS SEAT. 6 by the template 'for every input the law returns true; each argument reads behind the call as it read before'; 0 by the template 'total and deterministic' (their statements: YthloinmnojlleaaTotals.lean).
  GIVEN WITH THE SEED: the statements are not yours to turn. If you find one false, say at which input.
  Laid BY PROGRAM, IN A SANDBOX (cutbox-rows.mjs): the forced cells as the released guide's own fill.sh prints them over the translation cac678a00198d765… (all of the seat's roots in one cut). By AI agents, Wed Nov 11 2026. No macro, syntax, notation, axiom, sorry.
-/
import Derived.Test.YthloinmnojlleaaChecked
import GoSem.Claim
import GoSem.ClaimJoined
import GoSem.ClaimMapViews
import Derived.JoinedTies
import Derived.KernelRfl
namespace Go.Proofs.Ythloinmnojlleaa
/- THE CELL 'sum', in the pinned program and in every row, IS THE sha256 OF THE DUMP (.gsa) THAT YthloinmnojlleaaProg.lean LOADS. Nothing in Lean hashes anything: it is a label: what it is worth is what the hold of that sum in a sandbox is worth. -/
noncomputable def Try.pinned : Pinned := { name := "ythloinmnojlleaa", sum := "cac678a00198d7654a09ef719e8cfd57a2ba94c334abd1c4658a3a82bee317fb", checked := Try.checked }
namespace Rows
def none {H : Type} : Left H := { results := [], args := [] }

/-- 'strongroomlaw16.ExtentOnce': WHATEVER THE INPUT: true; the input reads as it did. -/
def extentOnceSpec : ChangeSpec := { name := "extentOnce", fn := fun _ => fun
  | [d1, d2] => { results := [.lit (.bool true)], args := [d1, d2] }
  | _ => none }
def extentOnceRow : OpenClaim := { program := "ythloinmnojlleaa", sum := "cac678a00198d7654a09ef719e8cfd57a2ba94c334abd1c4658a3a82bee317fb", func := "strongroom/strongroomlaw16.ExtentOnce", spec := "extentOnce", unfollowed := true, recurses := true, apart := false }
def ExtentOnceSaid : Prop := extentOnceRow.holds Try.pinned (OpenSpec.ofChange extentOnceSpec)

/-- ITS FALSE NEIGHBOUR: 'it returns false'. Refute it at one input. -/
def extentOnceWrong : ChangeSpec := { name := "extentOnce", fn := fun _ => fun
  | [d1, d2] => { results := [.lit (.bool false)], args := [d1, d2] }
  | _ => none }
def ExtentOnceWrongFalsely : Prop := extentOnceRow.holds Try.pinned (OpenSpec.ofChange extentOnceWrong)

/-- 'strongroomlaw16.ExtentReads': WHATEVER THE INPUT: true; the input reads as it did. -/
def extentReadsSpec : ChangeSpec := { name := "extentReads", fn := fun _ => fun
  | [d] => { results := [.lit (.bool true)], args := [d] }
  | _ => none }
def extentReadsRow : OpenClaim := { program := "ythloinmnojlleaa", sum := "cac678a00198d7654a09ef719e8cfd57a2ba94c334abd1c4658a3a82bee317fb", func := "strongroom/strongroomlaw16.ExtentReads", spec := "extentReads", unfollowed := true, recurses := true, apart := false }
def ExtentReadsSaid : Prop := extentReadsRow.holds Try.pinned (OpenSpec.ofChange extentReadsSpec)

/-- ITS FALSE NEIGHBOUR: 'it returns false'. Refute it at one input. -/
def extentReadsWrong : ChangeSpec := { name := "extentReads", fn := fun _ => fun
  | [d] => { results := [.lit (.bool false)], args := [d] }
  | _ => none }
def ExtentReadsWrongFalsely : Prop := extentReadsRow.holds Try.pinned (OpenSpec.ofChange extentReadsWrong)

/-- 'strongroomlaw16.ExtentPlays': WHATEVER THE INPUT: true; the input reads as it did. -/
def extentPlaysSpec : ChangeSpec := { name := "extentPlays", fn := fun _ => fun
  | [d1, d2] => { results := [.lit (.bool true)], args := [d1, d2] }
  | _ => none }
def extentPlaysRow : OpenClaim := { program := "ythloinmnojlleaa", sum := "cac678a00198d7654a09ef719e8cfd57a2ba94c334abd1c4658a3a82bee317fb", func := "strongroom/strongroomlaw16.ExtentPlays", spec := "extentPlays", unfollowed := true, recurses := true, apart := false }
def ExtentPlaysSaid : Prop := extentPlaysRow.holds Try.pinned (OpenSpec.ofChange extentPlaysSpec)

/-- ITS FALSE NEIGHBOUR: 'it returns false'. Refute it at one input. -/
def extentPlaysWrong : ChangeSpec := { name := "extentPlays", fn := fun _ => fun
  | [d1, d2] => { results := [.lit (.bool false)], args := [d1, d2] }
  | _ => none }
def ExtentPlaysWrongFalsely : Prop := extentPlaysRow.holds Try.pinned (OpenSpec.ofChange extentPlaysWrong)

/-- 'strongroomlaw16.ExtentRefuses': WHATEVER THE INPUT: true; the input reads as it did. -/
def extentRefusesSpec : ChangeSpec := { name := "extentRefuses", fn := fun _ => fun
  | [d1, d2, d3] => { results := [.lit (.bool true)], args := [d1, d2, d3] }
  | _ => none }
def extentRefusesRow : OpenClaim := { program := "ythloinmnojlleaa", sum := "cac678a00198d7654a09ef719e8cfd57a2ba94c334abd1c4658a3a82bee317fb", func := "strongroom/strongroomlaw16.ExtentRefuses", spec := "extentRefuses", unfollowed := true, recurses := true, apart := false }
def ExtentRefusesSaid : Prop := extentRefusesRow.holds Try.pinned (OpenSpec.ofChange extentRefusesSpec)

/-- ITS FALSE NEIGHBOUR: 'it returns false'. Refute it at one input. -/
def extentRefusesWrong : ChangeSpec := { name := "extentRefuses", fn := fun _ => fun
  | [d1, d2, d3] => { results := [.lit (.bool false)], args := [d1, d2, d3] }
  | _ => none }
def ExtentRefusesWrongFalsely : Prop := extentRefusesRow.holds Try.pinned (OpenSpec.ofChange extentRefusesWrong)

/-- 'strongroomlaw16.ExtentPlans': WHATEVER THE INPUT: true; the input reads as it did. -/
def extentPlansSpec : ChangeSpec := { name := "extentPlans", fn := fun _ => fun
  | [d1, d2, d3] => { results := [.lit (.bool true)], args := [d1, d2, d3] }
  | _ => none }
def extentPlansRow : OpenClaim := { program := "ythloinmnojlleaa", sum := "cac678a00198d7654a09ef719e8cfd57a2ba94c334abd1c4658a3a82bee317fb", func := "strongroom/strongroomlaw16.ExtentPlans", spec := "extentPlans", unfollowed := true, recurses := true, apart := false }
def ExtentPlansSaid : Prop := extentPlansRow.holds Try.pinned (OpenSpec.ofChange extentPlansSpec)

/-- ITS FALSE NEIGHBOUR: 'it returns false'. Refute it at one input. -/
def extentPlansWrong : ChangeSpec := { name := "extentPlans", fn := fun _ => fun
  | [d1, d2, d3] => { results := [.lit (.bool false)], args := [d1, d2, d3] }
  | _ => none }
def ExtentPlansWrongFalsely : Prop := extentPlansRow.holds Try.pinned (OpenSpec.ofChange extentPlansWrong)

/-- 'strongroomlaw16.ExtentNils': WHATEVER THE INPUT: true; the input reads as it did. -/
def extentNilsSpec : ChangeSpec := { name := "extentNils", fn := fun _ => fun
  | [d1, d2, d3] => { results := [.lit (.bool true)], args := [d1, d2, d3] }
  | _ => none }
def extentNilsRow : OpenClaim := { program := "ythloinmnojlleaa", sum := "cac678a00198d7654a09ef719e8cfd57a2ba94c334abd1c4658a3a82bee317fb", func := "strongroom/strongroomlaw16.ExtentNils", spec := "extentNils", unfollowed := true, recurses := true, apart := false }
def ExtentNilsSaid : Prop := extentNilsRow.holds Try.pinned (OpenSpec.ofChange extentNilsSpec)

/-- ITS FALSE NEIGHBOUR: 'it returns false'. Refute it at one input. -/
def extentNilsWrong : ChangeSpec := { name := "extentNils", fn := fun _ => fun
  | [d1, d2, d3] => { results := [.lit (.bool false)], args := [d1, d2, d3] }
  | _ => none }
def ExtentNilsWrongFalsely : Prop := extentNilsRow.holds Try.pinned (OpenSpec.ofChange extentNilsWrong)

/- THE SECOND FORM. 'bulk': how many values and letters a reading holds, each counted each time it is reached (what is shared counts as often as it is met; a slice's spare places count too). A statement '..UptoSaid' is the law's where the arguments, and the package variables that the reading takes, are together of bulk at most 1048576: NARROWER than '..Said'. Prove '..Said' where nothing that the law and all that it calls make is longer than what came in: it says more and counts as full. Else prove '..UptoSaid'. A law counts once. -/
mutual
def uptoBulk {H : Type} : DataW H → Nat
  | .lit (.string bytes) => bytes.length + 1
  | .lit _ => 1
  | .nil => 1
  | .ptr d => uptoBulk d + 1
  | .slice elems spare => uptoBulkAll elems + uptoBulkAll spare + 1
  | .agg parts => uptoBulkAll parts + 1
  | .iface _ d => uptoBulk d + 1
  | .map entries => uptoBulkEntries entries + 1
  | .held _ => 1
def uptoBulkAll {H : Type} : List (DataW H) → Nat
  | [] => 0
  | d :: r => uptoBulk d + uptoBulkAll r
def uptoBulkEntries {H : Type} : List (Lit × DataW H) → Nat
  | [] => 0
  | x :: r => uptoBulkEntry x + uptoBulkEntries r
def uptoBulkEntry {H : Type} : Lit × DataW H → Nat
  | (.string bytes, d) => bytes.length + uptoBulk d + 1
  | (_, d) => uptoBulk d + 1
 end
def uptoSmall : (H : Type) → List (DataW H) → Bool := fun _ ds => decide (uptoBulkAll ds ≤ 1048576)
def OpenSpec.upto (s : _root_.Go.ChangeSpec) : _root_.Go.OpenSpec := { _root_.Go.OpenSpec.ofChange s with cond := some uptoSmall }

/-- 'strongroomlaw16.ExtentOnce', WHERE WHAT IT READS IS OF BULK AT MOST 1048576: true; the input reads as it did. -/
def extentOnceUptoRow : OpenClaim := { program := "ythloinmnojlleaa", sum := "cac678a00198d7654a09ef719e8cfd57a2ba94c334abd1c4658a3a82bee317fb", func := "strongroom/strongroomlaw16.ExtentOnce", spec := "extentOnce", unfollowed := true, recurses := true, apart := false, narrowed := true }
def ExtentOnceUptoSaid : Prop := extentOnceUptoRow.holds Try.pinned (OpenSpec.upto extentOnceSpec)

/-- 'strongroomlaw16.ExtentReads', WHERE WHAT IT READS IS OF BULK AT MOST 1048576: true; the input reads as it did. -/
def extentReadsUptoRow : OpenClaim := { program := "ythloinmnojlleaa", sum := "cac678a00198d7654a09ef719e8cfd57a2ba94c334abd1c4658a3a82bee317fb", func := "strongroom/strongroomlaw16.ExtentReads", spec := "extentReads", unfollowed := true, recurses := true, apart := false, narrowed := true }
def ExtentReadsUptoSaid : Prop := extentReadsUptoRow.holds Try.pinned (OpenSpec.upto extentReadsSpec)

/-- 'strongroomlaw16.ExtentPlays', WHERE WHAT IT READS IS OF BULK AT MOST 1048576: true; the input reads as it did. -/
def extentPlaysUptoRow : OpenClaim := { program := "ythloinmnojlleaa", sum := "cac678a00198d7654a09ef719e8cfd57a2ba94c334abd1c4658a3a82bee317fb", func := "strongroom/strongroomlaw16.ExtentPlays", spec := "extentPlays", unfollowed := true, recurses := true, apart := false, narrowed := true }
def ExtentPlaysUptoSaid : Prop := extentPlaysUptoRow.holds Try.pinned (OpenSpec.upto extentPlaysSpec)

/-- 'strongroomlaw16.ExtentRefuses', WHERE WHAT IT READS IS OF BULK AT MOST 1048576: true; the input reads as it did. -/
def extentRefusesUptoRow : OpenClaim := { program := "ythloinmnojlleaa", sum := "cac678a00198d7654a09ef719e8cfd57a2ba94c334abd1c4658a3a82bee317fb", func := "strongroom/strongroomlaw16.ExtentRefuses", spec := "extentRefuses", unfollowed := true, recurses := true, apart := false, narrowed := true }
def ExtentRefusesUptoSaid : Prop := extentRefusesUptoRow.holds Try.pinned (OpenSpec.upto extentRefusesSpec)

/-- 'strongroomlaw16.ExtentPlans', WHERE WHAT IT READS IS OF BULK AT MOST 1048576: true; the input reads as it did. -/
def extentPlansUptoRow : OpenClaim := { program := "ythloinmnojlleaa", sum := "cac678a00198d7654a09ef719e8cfd57a2ba94c334abd1c4658a3a82bee317fb", func := "strongroom/strongroomlaw16.ExtentPlans", spec := "extentPlans", unfollowed := true, recurses := true, apart := false, narrowed := true }
def ExtentPlansUptoSaid : Prop := extentPlansUptoRow.holds Try.pinned (OpenSpec.upto extentPlansSpec)

/-- 'strongroomlaw16.ExtentNils', WHERE WHAT IT READS IS OF BULK AT MOST 1048576: true; the input reads as it did. -/
def extentNilsUptoRow : OpenClaim := { program := "ythloinmnojlleaa", sum := "cac678a00198d7654a09ef719e8cfd57a2ba94c334abd1c4658a3a82bee317fb", func := "strongroom/strongroomlaw16.ExtentNils", spec := "extentNils", unfollowed := true, recurses := true, apart := false, narrowed := true }
def ExtentNilsUptoSaid : Prop := extentNilsUptoRow.holds Try.pinned (OpenSpec.upto extentNilsSpec)

end Rows
end Go.Proofs.Ythloinmnojlleaa
