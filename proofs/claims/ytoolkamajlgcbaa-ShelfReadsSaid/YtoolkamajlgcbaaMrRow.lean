/- The row of ShelfReads: for every input the law returns true, and each argument reads as it read. -/
import Derived.Test.YtoolkamajlgcbaaMr26
import Derived.Test.YtoolkamajlgcbaaRows
import Derived.WalkKit
import Derived.ProofKit
import Derived.OpenShut
import Derived.ShutString
import Derived.ChangeOld
import Derived.Below
import Derived.SizedLaws
set_option linter.unusedVariables false
set_option linter.unusedSimpArgs false
namespace Go.Proofs.Ytoolkamajlgcbaa.shelfReads
open Go.ChangeShapes Go.WideShapes Go.ChangeAt Go.RowKit
open Go.ChangeMaps (open_string shut_string)
theorem own : ownKnob Try.prog.godebug = none := by kernel_rfl
theorem laidOut : laidOutB Try.prog = true := by kernel_rfl
set_option maxRecDepth 100000 in
theorem lifted (os : Os) (started : os.Started) (H : Type) (enc : TypeId × Value → H) :
    ReturnsInHanded {} Try.checked os 5 .any (Rows.shelfReadsSpec.pre6 enc Try.prog Try.f5 Rows.shelfReadsRow.domain false) (Rows.shelfReadsSpec.post enc Try.prog Try.f5 false true false false) := by
  refine returnsInHanded_of_change_sized (C := Try.checked) own started (by kernel_rfl) Try.func5
    (ChangeSpec.witness6 (enc := enc) (C := Try.checked) false ⟨#[], #[.int .i64 0, .slice none 0 0], []⟩ 8 (by kernel_rfl) (by kernel_rfl) (by kernel_rfl) (by kernel_rfl)) ?_
  intro W base args ds gs before hval0 hW hcnd hsz0 _
  have hsz : (DataW.weightsEach Try.prog (Try.f5.params.toList ++ Rows.shelfReadsSpec.plain.varTypes Try.prog) (ds ++ gs)).all (· ≤ reachBytes) = true := hsz0
  have hval : ∀ (j : Nat) t v, Try.f5.params[j]? = some t → args[j]? = some v → Value.okWide Try.prog W .any base t v := hval0
  have hW' := hW
  obtain ⟨p, q, hA0, hV, rfl, hfz, hnd⟩ := hW
  have hA : DataW.TrodAll enc Try.prog W 0 (fun _ => true) true Try.f5.params.toList args.toList ds p := hA0
  rw [Try.params5] at hA hval hsz
  obtain ⟨v0, vs0, d0, ds0, p0, q0, hargs, rfl, rfl, h0, r0⟩ := trodAll_cons hA
  obtain ⟨v1, vs1, d1, ds1, p1, q1, rfl, rfl, rfl, h1, r1⟩ := trodAll_cons r0
  obtain ⟨rfl, rfl, rfl⟩ := trodAll_nil r1
  obtain rfl : args = #[v0, v1] := by cases args; simp_all
  obtain ⟨rfl, rfl⟩ := trodVars_none hV
  obtain ⟨a0, rfl, rfl, rfl, w0⟩ := open_int Try.underlying3 (hval 0 3 v0 rfl rfl) h0
  have k1 := h1
  have lt1 : ∀ x ∈ p1, x.block < W.heap.size := by obtain ⟨m, hm⟩ := k1; exact DataW.trod_lt m _ _ _ hm
  obtain ⟨z1, w1⟩ := open_bytess (hval 1 49 v1 rfl rfl) h1
  clear hA0 hval0 hsz0 hsz
  refine (shelfReads_w W a0 w0 _ z1 w1).mono fun e W' ⟨he, bel⟩ => ?_
  subst he
  exact ⟨_, rfl, _, _, _, [], _, [], hW', trodAll_mk1 (shut_bool Try.underlying4 _), (trodAll_cons_mk (shut_int Try.underlying3 w0) (trodAll_cons_mk (Below.trod laidOut (by kernel_rfl) (of_decide_eq_true (by kernel_rfl)) k1 bel lt1) trodAll_mk0)), rfl, bel.frame _, fun h => by cases h⟩
theorem fact0 : Rows.shelfReadsRow.wf (OpenSpec.ofChange Rows.shelfReadsSpec) = true := by kernel_rfl
theorem fact1 : laidOutB (Try.pinned.checked.prog) = true := by kernel_rfl
theorem fact2 : mapsRowed (Try.pinned.checked.prog) = true := by kernel_rfl
theorem fact3 : Try.f5.params.all ((Try.pinned.checked.prog).readableRec ·) = true := by kernel_rfl
theorem fact4 : namedTie (Try.pinned.checked.prog) Rows.shelfReadsRow.named Rows.shelfReadsSpec.vars = true := by kernel_rfl
theorem fact5 : (Rows.shelfReadsRow.stops == []) = true := by kernel_rfl
theorem fact6 : ((Try.pinned.checked.prog).stops == []) = true := by kernel_rfl
theorem fact7 : (Rows.shelfReadsRow.knobs == []) = true := by kernel_rfl
theorem fact8 : ((Try.pinned.checked.prog).stopKnobs == []) = true := by kernel_rfl
theorem fact9 : (Rows.shelfReadsRow.inPlace == (Try.pinned.checked.prog).inPlace 5) = true := by kernel_rfl
theorem fact10 : (Rows.shelfReadsRow.unfollowed == (Try.pinned.checked.prog).unfollowed 5) = true := by kernel_rfl
theorem fact11 : (Rows.shelfReadsRow.recurses == (Try.pinned.checked.prog).recurses 5) = true := by kernel_rfl
theorem fact12 : (Rows.shelfReadsRow.named == (Try.pinned.checked.prog).varsNamed 5) = true := by kernel_rfl
theorem fact13 : (Rows.shelfReadsRow.maps == (Try.f5.params.toList ++ Rows.shelfReadsSpec.plain.varTypes (Try.pinned.checked.prog)).any ((Try.pinned.checked.prog).mapsRec ·)) = true := by kernel_rfl
theorem fact14 : (Rows.shelfReadsRow.ifaces == (Try.f5.params.toList ++ Rows.shelfReadsSpec.plain.varTypes (Try.pinned.checked.prog)).any ((Try.pinned.checked.prog).ifacesRec ·)) = true := by kernel_rfl
theorem fact15 : (Rows.shelfReadsRow.mapsOut == (Try.pinned.checked.prog).mapsAmong Try.f5.resultTypes.toList) = true := by kernel_rfl
theorem fact16 : (Rows.shelfReadsRow.loops == (Try.f5.params.toList ++ Rows.shelfReadsSpec.plain.varTypes (Try.pinned.checked.prog)).any ((Try.pinned.checked.prog).loopsFrom ·)) = true := by kernel_rfl
theorem fact17 : (Rows.shelfReadsRow.wideKeys == (Try.f5.params.toList ++ Rows.shelfReadsSpec.plain.varTypes (Try.pinned.checked.prog) ++ Try.f5.resultTypes.toList).any ((Try.pinned.checked.prog).wideKeysFrom ·)) = true := by kernel_rfl
theorem fact18 : Rows.shelfReadsSpec.vars.all ((Try.pinned.checked.prog).varReadable ·) = true := by kernel_rfl
theorem fact19 : Try.f5.resultTypes.all (fun t => (Try.pinned.checked.prog).readableRec t && decide (t < (Try.pinned.checked.prog).types.size)) = true := by kernel_rfl
theorem fact20 : (Rows.shelfReadsRow.ifacesOut == Try.f5.resultTypes.toList.any ((Try.pinned.checked.prog).ifacesRec ·)) = true := by kernel_rfl
theorem fact21 : (Rows.shelfReadsRow.loopsOut == Try.f5.resultTypes.toList.any ((Try.pinned.checked.prog).loopsFrom ·)) = true := by kernel_rfl
theorem fact22 : (Rows.shelfReadsRow.plainKeys == (Try.pinned.checked.prog).plainKeys) = true := by kernel_rfl
theorem fact23 : Rows.shelfReadsRow.shortTexts.isNone = true := by kernel_rfl
theorem fact24 : (Try.pinned.checked.prog).stopsHeard = true := by kernel_rfl
theorem fact25 : (Try.pinned.checked.prog).mayEnter = true := by kernel_rfl
theorem fact26 : (Rows.shelfReadsRow.lifted == (Try.pinned.checked.prog).liftsFinal) = true := by kernel_rfl
theorem fact27 : ((Try.pinned.checked.prog).make == some Rows.shelfReadsRow.make) = true := by kernel_rfl
theorem fact28 : (Rows.shelfReadsRow.kinds == (if Rows.shelfReadsRow.domain.isEmpty then [] else Try.f5.params.toList.map fun t => match (Try.pinned.checked.prog).underlying t with | some (.int k) => some k | _ => none)) = true := by kernel_rfl
theorem fact29 : (Rows.shelfReadsRow.pinned == Rows.shelfReadsRow.pinnedBy) = true := by kernel_rfl
theorem fact30 : (Rows.shelfReadsRow.veiled == (Try.f5.params.toList ++ Rows.shelfReadsSpec.plain.varTypes (Try.pinned.checked.prog) ++ Try.f5.resultTypes.toList).any ((Try.pinned.checked.prog).veiledRec ·)) = true := by kernel_rfl
theorem fact31 : Rows.shelfReadsRow.veiledFits (Try.pinned.checked.prog) Try.f5.params.toList (Try.f5.params.toList ++ Rows.shelfReadsSpec.plain.varTypes (Try.pinned.checked.prog) ++ Try.f5.resultTypes.toList) = true := by kernel_rfl
set_option maxRecDepth 100000 in
theorem closed : joinedFacts Try.pinned.checked.prog 5 Try.f5 Rows.shelfReadsSpec Rows.shelfReadsRow = true := by
  unfold joinedFacts
  simp only [Bool.and_eq_true]
  exact ⟨⟨⟨⟨⟨⟨⟨⟨⟨⟨⟨⟨⟨⟨⟨⟨⟨⟨⟨⟨⟨⟨⟨⟨⟨⟨⟨⟨⟨⟨⟨fact0, fact1⟩, fact2⟩, fact3⟩, fact4⟩, fact5⟩, fact6⟩, fact7⟩, fact8⟩, fact9⟩, fact10⟩, fact11⟩, fact12⟩, fact13⟩, fact14⟩, fact15⟩, fact16⟩, fact17⟩, fact18⟩, fact19⟩, fact20⟩, fact21⟩, fact22⟩, fact23⟩, fact24⟩, fact25⟩, fact26⟩, fact27⟩, fact28⟩, fact29⟩, fact30⟩, fact31⟩
theorem named : Try.pinned.checked.prog.funcNamed Rows.shelfReadsRow.func = some 5 := by kernel_rfl
theorem instance_ : Try.f5.isInstance Try.pinned.checked.prog Rows.shelfReadsRow.origin Rows.shelfReadsRow.targs := of_decide_eq_true (by kernel_rfl)
set_option maxRecDepth 100000 in
theorem wrapper_ : Try.f5.isWrapper Try.pinned.checked.prog Rows.shelfReadsRow.wrapper Rows.shelfReadsRow.mainSum := by unfold Func.isWrapper; first | (rw [if_pos (by decide +kernel)]; kernel_rfl) | (rw [if_neg (by decide +kernel)]; exact ⟨rfl, rfl⟩)
theorem over : Rows.shelfReadsRow.holds Try.pinned (OpenSpec.ofChange Rows.shelfReadsSpec) :=
  OpenClaim.holds_of_wide 5 Try.f5 rfl rfl rfl rfl rfl rfl rfl ⟨rfl, rfl, rfl, rfl, rfl⟩ rfl rfl rfl rfl rfl named Try.func5 closed instance_ wrapper_
    (fun os started H enc _ => lifted os started H enc)
theorem proved : Rows.ShelfReadsSaid := over
#print axioms proved
end Go.Proofs.Ytoolkamajlgcbaa.shelfReads
namespace Go.Proofs.Ytoolkamajlgcbaa
/-- The row, under a short name, for the claim. -/
theorem shelfReads_holds : Rows.ShelfReadsSaid := shelfReads.proved
end Go.Proofs.Ytoolkamajlgcbaa
