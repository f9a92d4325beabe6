/-
  No cell of these rows narrows 'for every input' (looked for: loops, veiled, ifaces, maps, wideKeys, modest, calm, conditions, laid).
  DERIVED. THE GIVEN ROWS OF THIS SEAT. 6 by the template 'for every input the law returns true; each argument reads behind the call as it read before'; 0 by the template 'total and deterministic' (their statements: YtoolkamajlgcbaaTotals.lean).
  GIVEN WITH THE SEED: the statements are not yours to turn. If you find one false, say at which input.
  Laid BY PROGRAM, IN A SANDBOX (cutbox-rows.mjs): the forced cells as the released guide's own fill.sh prints them over the translation b495ad5caca79ca5… (all of the seat's roots in one cut). By AI agents, Wed Nov 11 2026. No macro, syntax, notation, axiom, sorry.
-/
import Derived.Test.YtoolkamajlgcbaaChecked
import GoSem.Claim
import GoSem.ClaimJoined
import GoSem.ClaimMapViews
import Derived.JoinedTies
import Derived.KernelRfl
namespace Go.Proofs.Ytoolkamajlgcbaa
/- THE CELL 'sum', in the pinned program and in every row, IS THE sha256 OF THE DUMP (.gsa) THAT YtoolkamajlgcbaaProg.lean LOADS. Nothing in Lean hashes anything: it is a label: what it is worth is what the hold of that sum in a sandbox is worth. -/
noncomputable def Try.pinned : Pinned := { name := "ytoolkamajlgcbaa", sum := "b495ad5caca79ca576b6fdb216f6b8672849f7fecfcd2c3a4ce1822c98dcf51d", checked := Try.checked }
namespace Rows
def none {H : Type} : Left H := { results := [], args := [] }

/-- 'strongroomlaw08.ShelfRoom': WHATEVER THE INPUT: true; the input reads as it did. -/
def shelfRoomSpec : ChangeSpec := { name := "shelfRoom", fn := fun _ => fun
  | [d1, d2, d3] => { results := [.lit (.bool true)], args := [d1, d2, d3] }
  | _ => none }
def shelfRoomRow : OpenClaim := { program := "ytoolkamajlgcbaa", sum := "b495ad5caca79ca576b6fdb216f6b8672849f7fecfcd2c3a4ce1822c98dcf51d", func := "strongroom/strongroomlaw08.ShelfRoom", spec := "shelfRoom", unfollowed := true, recurses := true, apart := false }
def ShelfRoomSaid : Prop := shelfRoomRow.holds Try.pinned (OpenSpec.ofChange shelfRoomSpec)

/-- ITS FALSE NEIGHBOUR: 'it returns false'. Refute it at one input. -/
def shelfRoomWrong : ChangeSpec := { name := "shelfRoom", fn := fun _ => fun
  | [d1, d2, d3] => { results := [.lit (.bool false)], args := [d1, d2, d3] }
  | _ => none }
def ShelfRoomWrongFalsely : Prop := shelfRoomRow.holds Try.pinned (OpenSpec.ofChange shelfRoomWrong)

/-- 'strongroomlaw08.ShelfRanges': WHATEVER THE INPUT: true; the input reads as it did. -/
def shelfRangesSpec : ChangeSpec := { name := "shelfRanges", fn := fun _ => fun
  | [d1, d2, d3] => { results := [.lit (.bool true)], args := [d1, d2, d3] }
  | _ => none }
def shelfRangesRow : OpenClaim := { program := "ytoolkamajlgcbaa", sum := "b495ad5caca79ca576b6fdb216f6b8672849f7fecfcd2c3a4ce1822c98dcf51d", func := "strongroom/strongroomlaw08.ShelfRanges", spec := "shelfRanges", unfollowed := true, recurses := true, apart := false }
def ShelfRangesSaid : Prop := shelfRangesRow.holds Try.pinned (OpenSpec.ofChange shelfRangesSpec)

/-- ITS FALSE NEIGHBOUR: 'it returns false'. Refute it at one input. -/
def shelfRangesWrong : ChangeSpec := { name := "shelfRanges", fn := fun _ => fun
  | [d1, d2, d3] => { results := [.lit (.bool false)], args := [d1, d2, d3] }
  | _ => none }
def ShelfRangesWrongFalsely : Prop := shelfRangesRow.holds Try.pinned (OpenSpec.ofChange shelfRangesWrong)

/-- 'strongroomlaw08.ShelfReads': WHATEVER THE INPUT: true; the input reads as it did. -/
def shelfReadsSpec : ChangeSpec := { name := "shelfReads", fn := fun _ => fun
  | [d1, d2] => { results := [.lit (.bool true)], args := [d1, d2] }
  | _ => none }
def shelfReadsRow : OpenClaim := { program := "ytoolkamajlgcbaa", sum := "b495ad5caca79ca576b6fdb216f6b8672849f7fecfcd2c3a4ce1822c98dcf51d", func := "strongroom/strongroomlaw08.ShelfReads", spec := "shelfReads", unfollowed := true, recurses := true, apart := false }
def ShelfReadsSaid : Prop := shelfReadsRow.holds Try.pinned (OpenSpec.ofChange shelfReadsSpec)

/-- ITS FALSE NEIGHBOUR: 'it returns false'. Refute it at one input. -/
def shelfReadsWrong : ChangeSpec := { name := "shelfReads", fn := fun _ => fun
  | [d1, d2] => { results := [.lit (.bool false)], args := [d1, d2] }
  | _ => none }
def ShelfReadsWrongFalsely : Prop := shelfReadsRow.holds Try.pinned (OpenSpec.ofChange shelfReadsWrong)

/-- 'strongroomlaw08.ShelfPlays': WHATEVER THE INPUT: true; the input reads as it did. -/
def shelfPlaysSpec : ChangeSpec := { name := "shelfPlays", fn := fun _ => fun
  | [d1, d2] => { results := [.lit (.bool true)], args := [d1, d2] }
  | _ => none }
def shelfPlaysRow : OpenClaim := { program := "ytoolkamajlgcbaa", sum := "b495ad5caca79ca576b6fdb216f6b8672849f7fecfcd2c3a4ce1822c98dcf51d", func := "strongroom/strongroomlaw08.ShelfPlays", spec := "shelfPlays", unfollowed := true, recurses := true, apart := false }
def ShelfPlaysSaid : Prop := shelfPlaysRow.holds Try.pinned (OpenSpec.ofChange shelfPlaysSpec)

/-- ITS FALSE NEIGHBOUR: 'it returns false'. Refute it at one input. -/
def shelfPlaysWrong : ChangeSpec := { name := "shelfPlays", fn := fun _ => fun
  | [d1, d2] => { results := [.lit (.bool false)], args := [d1, d2] }
  | _ => none }
def ShelfPlaysWrongFalsely : Prop := shelfPlaysRow.holds Try.pinned (OpenSpec.ofChange shelfPlaysWrong)

/-- 'strongroomlaw08.ShelfNils': WHATEVER THE INPUT: true; the input reads as it did. -/
def shelfNilsSpec : ChangeSpec := { name := "shelfNils", fn := fun _ => fun
  | [d] => { results := [.lit (.bool true)], args := [d] }
  | _ => none }
def shelfNilsRow : OpenClaim := { program := "ytoolkamajlgcbaa", sum := "b495ad5caca79ca576b6fdb216f6b8672849f7fecfcd2c3a4ce1822c98dcf51d", func := "strongroom/strongroomlaw08.ShelfNils", spec := "shelfNils", unfollowed := true, recurses := true, apart := false }
def ShelfNilsSaid : Prop := shelfNilsRow.holds Try.pinned (OpenSpec.ofChange shelfNilsSpec)

/-- ITS FALSE NEIGHBOUR: 'it returns false'. Refute it at one input. -/
def shelfNilsWrong : ChangeSpec := { name := "shelfNils", fn := fun _ => fun
  | [d] => { results := [.lit (.bool false)], args := [d] }
  | _ => none }
def ShelfNilsWrongFalsely : Prop := shelfNilsRow.holds Try.pinned (OpenSpec.ofChange shelfNilsWrong)

/-- 'strongroomlaw08.ShelfWhole': WHATEVER THE INPUT: true; the input reads as it did. -/
def shelfWholeSpec : ChangeSpec := { name := "shelfWhole", fn := fun _ => fun
  | [d] => { results := [.lit (.bool true)], args := [d] }
  | _ => none }
def shelfWholeRow : OpenClaim := { program := "ytoolkamajlgcbaa", sum := "b495ad5caca79ca576b6fdb216f6b8672849f7fecfcd2c3a4ce1822c98dcf51d", func := "strongroom/strongroomlaw08.ShelfWhole", spec := "shelfWhole", unfollowed := true, recurses := true, apart := false }
def ShelfWholeSaid : Prop := shelfWholeRow.holds Try.pinned (OpenSpec.ofChange shelfWholeSpec)

/-- ITS FALSE NEIGHBOUR: 'it returns false'. Refute it at one input. -/
def shelfWholeWrong : ChangeSpec := { name := "shelfWhole", fn := fun _ => fun
  | [d] => { results := [.lit (.bool false)], args := [d] }
  | _ => none }
def ShelfWholeWrongFalsely : Prop := shelfWholeRow.holds Try.pinned (OpenSpec.ofChange shelfWholeWrong)

/- THE SECOND FORM. 'bulk': how many values and letters a reading holds, each counted each time it is reached (what is shared counts as often as it is met; a slice's spare places count too). A statement '..UptoSaid' is the law's where the arguments, and the package variables that the reading takes, are together of bulk at most 1048576: NARROWER than '..Said'. Prove '..Said' where nothing that the law and all that it calls make is longer than what came in: it says more and counts as full. Else prove '..UptoSaid'. A law counts once. -/
mutual
def uptoBulk {H : Type} : DataW H → Nat
  | .lit (.string bytes) => bytes.length + 1
  | .lit _ => 1
  | .nil => 1
  | .ptr d => uptoBulk d + 1
  | .slice elems spare => uptoBulkAll elems + uptoBulkAll spare + 1
  | .agg parts => uptoBulkAll parts + 1
  | .iface _ d => uptoBulk d + 1
  | .map entries => uptoBulkEntries entries + 1
  | .held _ => 1
def uptoBulkAll {H : Type} : List (DataW H) → Nat
  | [] => 0
  | d :: r => uptoBulk d + uptoBulkAll r
def uptoBulkEntries {H : Type} : List (Lit × DataW H) → Nat
  | [] => 0
  | x :: r => uptoBulkEntry x + uptoBulkEntries r
def uptoBulkEntry {H : Type} : Lit × DataW H → Nat
  | (.string bytes, d) => bytes.length + uptoBulk d + 1
  | (_, d) => uptoBulk d + 1
 end
def uptoSmall : (H : Type) → List (DataW H) → Bool := fun _ ds => decide (uptoBulkAll ds ≤ 1048576)
def OpenSpec.upto (s : _root_.Go.ChangeSpec) : _root_.Go.OpenSpec := { _root_.Go.OpenSpec.ofChange s with cond := some uptoSmall }

/-- 'strongroomlaw08.ShelfRoom', WHERE WHAT IT READS IS OF BULK AT MOST 1048576: true; the input reads as it did. -/
def shelfRoomUptoRow : OpenClaim := { program := "ytoolkamajlgcbaa", sum := "b495ad5caca79ca576b6fdb216f6b8672849f7fecfcd2c3a4ce1822c98dcf51d", func := "strongroom/strongroomlaw08.ShelfRoom", spec := "shelfRoom", unfollowed := true, recurses := true, apart := false, narrowed := true }
def ShelfRoomUptoSaid : Prop := shelfRoomUptoRow.holds Try.pinned (OpenSpec.upto shelfRoomSpec)

/-- 'strongroomlaw08.ShelfRanges', WHERE WHAT IT READS IS OF BULK AT MOST 1048576: true; the input reads as it did. -/
def shelfRangesUptoRow : OpenClaim := { program := "ytoolkamajlgcbaa", sum := "b495ad5caca79ca576b6fdb216f6b8672849f7fecfcd2c3a4ce1822c98dcf51d", func := "strongroom/strongroomlaw08.ShelfRanges", spec := "shelfRanges", unfollowed := true, recurses := true, apart := false, narrowed := true }
def ShelfRangesUptoSaid : Prop := shelfRangesUptoRow.holds Try.pinned (OpenSpec.upto shelfRangesSpec)

/-- 'strongroomlaw08.ShelfReads', WHERE WHAT IT READS IS OF BULK AT MOST 1048576: true; the input reads as it did. -/
def shelfReadsUptoRow : OpenClaim := { program := "ytoolkamajlgcbaa", sum := "b495ad5caca79ca576b6fdb216f6b8672849f7fecfcd2c3a4ce1822c98dcf51d", func := "strongroom/strongroomlaw08.ShelfReads", spec := "shelfReads", unfollowed := true, recurses := true, apart := false, narrowed := true }
def ShelfReadsUptoSaid : Prop := shelfReadsUptoRow.holds Try.pinned (OpenSpec.upto shelfReadsSpec)

/-- 'strongroomlaw08.ShelfPlays', WHERE WHAT IT READS IS OF BULK AT MOST 1048576: true; the input reads as it did. -/
def shelfPlaysUptoRow : OpenClaim := { program := "ytoolkamajlgcbaa", sum := "b495ad5caca79ca576b6fdb216f6b8672849f7fecfcd2c3a4ce1822c98dcf51d", func := "strongroom/strongroomlaw08.ShelfPlays", spec := "shelfPlays", unfollowed := true, recurses := true, apart := false, narrowed := true }
def ShelfPlaysUptoSaid : Prop := shelfPlaysUptoRow.holds Try.pinned (OpenSpec.upto shelfPlaysSpec)

/-- 'strongroomlaw08.ShelfNils', WHERE WHAT IT READS IS OF BULK AT MOST 1048576: true; the input reads as it did. -/
def shelfNilsUptoRow : OpenClaim := { program := "ytoolkamajlgcbaa", sum := "b495ad5caca79ca576b6fdb216f6b8672849f7fecfcd2c3a4ce1822c98dcf51d", func := "strongroom/strongroomlaw08.ShelfNils", spec := "shelfNils", unfollowed := true, recurses := true, apart := false, narrowed := true }
def ShelfNilsUptoSaid : Prop := shelfNilsUptoRow.holds Try.pinned (OpenSpec.upto shelfNilsSpec)

/-- 'strongroomlaw08.ShelfWhole', WHERE WHAT IT READS IS OF BULK AT MOST 1048576: true; the input reads as it did. -/
def shelfWholeUptoRow : OpenClaim := { program := "ytoolkamajlgcbaa", sum := "b495ad5caca79ca576b6fdb216f6b8672849f7fecfcd2c3a4ce1822c98dcf51d", func := "strongroom/strongroomlaw08.ShelfWhole", spec := "shelfWhole", unfollowed := true, recurses := true, apart := false, narrowed := true }
def ShelfWholeUptoSaid : Prop := shelfWholeUptoRow.holds Try.pinned (OpenSpec.upto shelfWholeSpec)

end Rows
end Go.Proofs.Ytoolkamajlgcbaa
