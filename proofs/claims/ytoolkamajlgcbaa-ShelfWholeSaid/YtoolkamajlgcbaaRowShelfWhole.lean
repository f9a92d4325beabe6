/- The row of ShelfWhole: for every input the law returns true, and each argument reads as it read. -/
import Derived.Test.YtoolkamajlgcbaaRows
import Derived.Test.YtoolkamajlgcbaaCmU
import Derived.WalkKit
import Derived.ProofKit
import Derived.OpenShut
import Derived.ShutString
import Derived.ChangeOld
import Derived.Below
import Derived.SizedLaws
set_option linter.unusedVariables false
set_option linter.unusedSimpArgs false
namespace Go.Proofs.Ytoolkamajlgcbaa.shelfWhole
open Go.ChangeShapes Go.WideShapes Go.ChangeAt Go.RowKit
open Go.ChangeMaps (open_string shut_string)
theorem own : ownKnob Try.prog.godebug = none := by kernel_rfl
theorem laidOut : laidOutB Try.prog = true := by kernel_rfl
set_option maxRecDepth 100000 in
theorem lifted (os : Os) (started : os.Started) (H : Type) (enc : TypeId × Value → H) :
    ReturnsInHanded {} Try.checked os 8 .any (Rows.shelfWholeSpec.pre6 enc Try.prog Try.f8 Rows.shelfWholeRow.domain false) (Rows.shelfWholeSpec.post enc Try.prog Try.f8 false true false false) := by
  refine returnsInHanded_of_change_sized (C := Try.checked) own started (by kernel_rfl) Try.func8
    (ChangeSpec.witness6 (enc := enc) (C := Try.checked) false ⟨#[], #[.agg #[.int .i64 0, .slice none 0 0, .slice none 0 0, .int .i64 0, .slice none 0 0]], []⟩ 8 (by kernel_rfl) (by kernel_rfl) (by kernel_rfl) (by kernel_rfl)) ?_
  intro W base args ds gs before hval0 hW hcnd hsz0 _
  have hsz : (DataW.weightsEach Try.prog (Try.f8.params.toList ++ Rows.shelfWholeSpec.plain.varTypes Try.prog) (ds ++ gs)).all (· ≤ reachBytes) = true := hsz0
  have hval : ∀ (j : Nat) t v, Try.f8.params[j]? = some t → args[j]? = some v → Value.okWide Try.prog W .any base t v := hval0
  have hW' := hW
  obtain ⟨p, q, hA0, hV, rfl, hfz, hnd⟩ := hW
  have hA : DataW.TrodAll enc Try.prog W 0 (fun _ => true) true Try.f8.params.toList args.toList ds p := hA0
  rw [Try.params8] at hA hval hsz
  obtain ⟨v0, vs0, d0, ds0, p0, q0, hargs, rfl, rfl, h0, r0⟩ := trodAll_cons hA
  obtain ⟨rfl, rfl, rfl⟩ := trodAll_nil r0
  obtain rfl : args = #[v0] := by cases args; simp_all
  obtain ⟨rfl, rfl⟩ := trodVars_none hV
  have k0 := h0
  have lt0 : ∀ x ∈ p0, x.block < W.heap.size := by obtain ⟨m, hm⟩ := k0; exact DataW.trod_lt m _ _ _ hm
  obtain ⟨z0, w0⟩ := open_tornS (hval 0 74 v0 rfl rfl) h0
  clear hA0 hval0 hsz0 hsz
  refine (shelfWhole_walk W _ z0 w0).mono fun e W' ⟨he, bel⟩ => ?_
  subst he
  exact ⟨_, rfl, _, _, _, [], _, [], hW', trodAll_mk1 (shut_bool Try.underlying4 _), (trodAll_cons_mk (Below.trod laidOut (by kernel_rfl) (of_decide_eq_true (by kernel_rfl)) k0 bel lt0) trodAll_mk0), rfl, bel.frame _, fun h => by cases h⟩
theorem fact0 : Rows.shelfWholeRow.wf (OpenSpec.ofChange Rows.shelfWholeSpec) = true := by kernel_rfl
theorem fact1 : laidOutB (Try.pinned.checked.prog) = true := by kernel_rfl
theorem fact2 : mapsRowed (Try.pinned.checked.prog) = true := by kernel_rfl
theorem fact3 : Try.f8.params.all ((Try.pinned.checked.prog).readableRec ·) = true := by kernel_rfl
theorem fact4 : namedTie (Try.pinned.checked.prog) Rows.shelfWholeRow.named Rows.shelfWholeSpec.vars = true := by kernel_rfl
theorem fact5 : (Rows.shelfWholeRow.stops == []) = true := by kernel_rfl
theorem fact6 : ((Try.pinned.checked.prog).stops == []) = true := by kernel_rfl
theorem fact7 : (Rows.shelfWholeRow.knobs == []) = true := by kernel_rfl
theorem fact8 : ((Try.pinned.checked.prog).stopKnobs == []) = true := by kernel_rfl
theorem fact9 : (Rows.shelfWholeRow.inPlace == (Try.pinned.checked.prog).inPlace 8) = true := by kernel_rfl
theorem fact10 : (Rows.shelfWholeRow.unfollowed == (Try.pinned.checked.prog).unfollowed 8) = true := by kernel_rfl
theorem fact11 : (Rows.shelfWholeRow.recurses == (Try.pinned.checked.prog).recurses 8) = true := by kernel_rfl
theorem fact12 : (Rows.shelfWholeRow.named == (Try.pinned.checked.prog).varsNamed 8) = true := by kernel_rfl
theorem fact13 : (Rows.shelfWholeRow.maps == (Try.f8.params.toList ++ Rows.shelfWholeSpec.plain.varTypes (Try.pinned.checked.prog)).any ((Try.pinned.checked.prog).mapsRec ·)) = true := by kernel_rfl
theorem fact14 : (Rows.shelfWholeRow.ifaces == (Try.f8.params.toList ++ Rows.shelfWholeSpec.plain.varTypes (Try.pinned.checked.prog)).any ((Try.pinned.checked.prog).ifacesRec ·)) = true := by kernel_rfl
theorem fact15 : (Rows.shelfWholeRow.mapsOut == (Try.pinned.checked.prog).mapsAmong Try.f8.resultTypes.toList) = true := by kernel_rfl
theorem fact16 : (Rows.shelfWholeRow.loops == (Try.f8.params.toList ++ Rows.shelfWholeSpec.plain.varTypes (Try.pinned.checked.prog)).any ((Try.pinned.checked.prog).loopsFrom ·)) = true := by kernel_rfl
theorem fact17 : (Rows.shelfWholeRow.wideKeys == (Try.f8.params.toList ++ Rows.shelfWholeSpec.plain.varTypes (Try.pinned.checked.prog) ++ Try.f8.resultTypes.toList).any ((Try.pinned.checked.prog).wideKeysFrom ·)) = true := by kernel_rfl
theorem fact18 : Rows.shelfWholeSpec.vars.all ((Try.pinned.checked.prog).varReadable ·) = true := by kernel_rfl
theorem fact19 : Try.f8.resultTypes.all (fun t => (Try.pinned.checked.prog).readableRec t && decide (t < (Try.pinned.checked.prog).types.size)) = true := by kernel_rfl
theorem fact20 : (Rows.shelfWholeRow.ifacesOut == Try.f8.resultTypes.toList.any ((Try.pinned.checked.prog).ifacesRec ·)) = true := by kernel_rfl
theorem fact21 : (Rows.shelfWholeRow.loopsOut == Try.f8.resultTypes.toList.any ((Try.pinned.checked.prog).loopsFrom ·)) = true := by kernel_rfl
theorem fact22 : (Rows.shelfWholeRow.plainKeys == (Try.pinned.checked.prog).plainKeys) = true := by kernel_rfl
theorem fact23 : Rows.shelfWholeRow.shortTexts.isNone = true := by kernel_rfl
theorem fact24 : (Try.pinned.checked.prog).stopsHeard = true := by kernel_rfl
theorem fact25 : (Try.pinned.checked.prog).mayEnter = true := by kernel_rfl
theorem fact26 : (Rows.shelfWholeRow.lifted == (Try.pinned.checked.prog).liftsFinal) = true := by kernel_rfl
theorem fact27 : ((Try.pinned.checked.prog).make == some Rows.shelfWholeRow.make) = true := by kernel_rfl
theorem fact28 : (Rows.shelfWholeRow.kinds == (if Rows.shelfWholeRow.domain.isEmpty then [] else Try.f8.params.toList.map fun t => match (Try.pinned.checked.prog).underlying t with | some (.int k) => some k | _ => none)) = true := by kernel_rfl
theorem fact29 : (Rows.shelfWholeRow.pinned == Rows.shelfWholeRow.pinnedBy) = true := by kernel_rfl
theorem fact30 : (Rows.shelfWholeRow.veiled == (Try.f8.params.toList ++ Rows.shelfWholeSpec.plain.varTypes (Try.pinned.checked.prog) ++ Try.f8.resultTypes.toList).any ((Try.pinned.checked.prog).veiledRec ·)) = true := by kernel_rfl
theorem fact31 : Rows.shelfWholeRow.veiledFits (Try.pinned.checked.prog) Try.f8.params.toList (Try.f8.params.toList ++ Rows.shelfWholeSpec.plain.varTypes (Try.pinned.checked.prog) ++ Try.f8.resultTypes.toList) = true := by kernel_rfl
set_option maxRecDepth 100000 in
theorem closed : joinedFacts Try.pinned.checked.prog 8 Try.f8 Rows.shelfWholeSpec Rows.shelfWholeRow = true := by
  unfold joinedFacts
  simp only [Bool.and_eq_true]
  exact ⟨⟨⟨⟨⟨⟨⟨⟨⟨⟨⟨⟨⟨⟨⟨⟨⟨⟨⟨⟨⟨⟨⟨⟨⟨⟨⟨⟨⟨⟨⟨fact0, fact1⟩, fact2⟩, fact3⟩, fact4⟩, fact5⟩, fact6⟩, fact7⟩, fact8⟩, fact9⟩, fact10⟩, fact11⟩, fact12⟩, fact13⟩, fact14⟩, fact15⟩, fact16⟩, fact17⟩, fact18⟩, fact19⟩, fact20⟩, fact21⟩, fact22⟩, fact23⟩, fact24⟩, fact25⟩, fact26⟩, fact27⟩, fact28⟩, fact29⟩, fact30⟩, fact31⟩
theorem named : Try.pinned.checked.prog.funcNamed Rows.shelfWholeRow.func = some 8 := by kernel_rfl
theorem instance_ : Try.f8.isInstance Try.pinned.checked.prog Rows.shelfWholeRow.origin Rows.shelfWholeRow.targs := of_decide_eq_true (by kernel_rfl)
set_option maxRecDepth 100000 in
theorem wrapper_ : Try.f8.isWrapper Try.pinned.checked.prog Rows.shelfWholeRow.wrapper Rows.shelfWholeRow.mainSum := by unfold Func.isWrapper; first | (rw [if_pos (by decide +kernel)]; kernel_rfl) | (rw [if_neg (by decide +kernel)]; exact ⟨rfl, rfl⟩)
theorem over : Rows.shelfWholeRow.holds Try.pinned (OpenSpec.ofChange Rows.shelfWholeSpec) :=
  OpenClaim.holds_of_wide 8 Try.f8 rfl rfl rfl rfl rfl rfl rfl ⟨rfl, rfl, rfl, rfl, rfl⟩ rfl rfl rfl rfl rfl named Try.func8 closed instance_ wrapper_
    (fun os started H enc _ => lifted os started H enc)
theorem proved : Rows.ShelfWholeSaid := over
#print axioms proved
end Go.Proofs.Ytoolkamajlgcbaa.shelfWhole
namespace Go.Proofs.Ytoolkamajlgcbaa
/-- The row, under a short name, for the claim. -/
theorem shelfWhole_holds : Rows.ShelfWholeSaid := shelfWhole.proved
end Go.Proofs.Ytoolkamajlgcbaa
