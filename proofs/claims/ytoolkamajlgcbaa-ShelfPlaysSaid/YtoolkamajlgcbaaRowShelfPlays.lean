/- The row of ShelfPlays: for every input the law returns true, and each argument reads as it read. -/
import Derived.Test.YtoolkamajlgcbaaRows
import Derived.Test.YtoolkamajlgcbaaCmO
import Derived.WalkKit
import Derived.ProofKit
import Derived.OpenShut
import Derived.ShutString
import Derived.ChangeOld
import Derived.Below
import Derived.SizedLaws
set_option linter.unusedVariables false
set_option linter.unusedSimpArgs false
namespace Go.Proofs.Ytoolkamajlgcbaa.shelfPlays
open Go.ChangeShapes Go.WideShapes Go.ChangeAt Go.RowKit
open Go.ChangeMaps (open_string shut_string)
theorem own : ownKnob Try.prog.godebug = none := by kernel_rfl
theorem laidOut : laidOutB Try.prog = true := by kernel_rfl
set_option maxRecDepth 100000 in
theorem lifted (os : Os) (started : os.Started) (H : Type) (enc : TypeId × Value → H) :
    ReturnsInHanded {} Try.checked os 6 .any (Rows.shelfPlaysSpec.pre6 enc Try.prog Try.f6 Rows.shelfPlaysRow.domain false) (Rows.shelfPlaysSpec.post enc Try.prog Try.f6 false true false false) := by
  refine returnsInHanded_of_change_sized (C := Try.checked) own started (by kernel_rfl) Try.func6
    (ChangeSpec.witness6 (enc := enc) (C := Try.checked) false ⟨#[], #[.int .i64 0, .slice none 0 0], []⟩ 8 (by kernel_rfl) (by kernel_rfl) (by kernel_rfl) (by kernel_rfl)) ?_
  intro W base args ds gs before hval0 hW hcnd hsz0 _
  have hsz : (DataW.weightsEach Try.prog (Try.f6.params.toList ++ Rows.shelfPlaysSpec.plain.varTypes Try.prog) (ds ++ gs)).all (· ≤ reachBytes) = true := hsz0
  have hval : ∀ (j : Nat) t v, Try.f6.params[j]? = some t → args[j]? = some v → Value.okWide Try.prog W .any base t v := hval0
  have hW' := hW
  obtain ⟨p, q, hA0, hV, rfl, hfz, hnd⟩ := hW
  have hA : DataW.TrodAll enc Try.prog W 0 (fun _ => true) true Try.f6.params.toList args.toList ds p := hA0
  rw [Try.params6] at hA hval hsz
  obtain ⟨v0, vs0, d0, ds0, p0, q0, hargs, rfl, rfl, h0, r0⟩ := trodAll_cons hA
  obtain ⟨v1, vs1, d1, ds1, p1, q1, rfl, rfl, rfl, h1, r1⟩ := trodAll_cons r0
  obtain ⟨rfl, rfl, rfl⟩ := trodAll_nil r1
  obtain rfl : args = #[v0, v1] := by cases args; simp_all
  obtain ⟨rfl, rfl⟩ := trodVars_none hV
  obtain ⟨a0, rfl, rfl, rfl, w0⟩ := open_int Try.underlying3 (hval 0 3 v0 rfl rfl) h0
  have k1 := h1
  have lt1 : ∀ x ∈ p1, x.block < W.heap.size := by obtain ⟨m, hm⟩ := k1; exact DataW.trod_lt m _ _ _ hm
  obtain ⟨z1, w1⟩ := open_sops (hval 1 22 v1 rfl rfl) h1
  clear hA0 hval0 hsz0 hsz
  refine (shelfPlays_w W a0 w0 _ z1 w1).mono fun e W' ⟨he, bel⟩ => ?_
  subst he
  exact ⟨_, rfl, _, _, _, [], _, [], hW', trodAll_mk1 (shut_bool Try.underlying4 _), (trodAll_cons_mk (shut_int Try.underlying3 w0) (trodAll_cons_mk (Below.trod laidOut (by kernel_rfl) (of_decide_eq_true (by kernel_rfl)) k1 bel lt1) trodAll_mk0)), rfl, bel.frame _, fun h => by cases h⟩
theorem fact0 : Rows.shelfPlaysRow.wf (OpenSpec.ofChange Rows.shelfPlaysSpec) = true := by kernel_rfl
theorem fact1 : laidOutB (Try.pinned.checked.prog) = true := by kernel_rfl
theorem fact2 : mapsRowed (Try.pinned.checked.prog) = true := by kernel_rfl
theorem fact3 : Try.f6.params.all ((Try.pinned.checked.prog).readableRec ·) = true := by kernel_rfl
theorem fact4 : namedTie (Try.pinned.checked.prog) Rows.shelfPlaysRow.named Rows.shelfPlaysSpec.vars = true := by kernel_rfl
theorem fact5 : (Rows.shelfPlaysRow.stops == []) = true := by kernel_rfl
theorem fact6 : ((Try.pinned.checked.prog).stops == []) = true := by kernel_rfl
theorem fact7 : (Rows.shelfPlaysRow.knobs == []) = true := by kernel_rfl
theorem fact8 : ((Try.pinned.checked.prog).stopKnobs == []) = true := by kernel_rfl
theorem fact9 : (Rows.shelfPlaysRow.inPlace == (Try.pinned.checked.prog).inPlace 6) = true := by kernel_rfl
theorem fact10 : (Rows.shelfPlaysRow.unfollowed == (Try.pinned.checked.prog).unfollowed 6) = true := by kernel_rfl
theorem fact11 : (Rows.shelfPlaysRow.recurses == (Try.pinned.checked.prog).recurses 6) = true := by kernel_rfl
theorem fact12 : (Rows.shelfPlaysRow.named == (Try.pinned.checked.prog).varsNamed 6) = true := by kernel_rfl
theorem fact13 : (Rows.shelfPlaysRow.maps == (Try.f6.params.toList ++ Rows.shelfPlaysSpec.plain.varTypes (Try.pinned.checked.prog)).any ((Try.pinned.checked.prog).mapsRec ·)) = true := by kernel_rfl
theorem fact14 : (Rows.shelfPlaysRow.ifaces == (Try.f6.params.toList ++ Rows.shelfPlaysSpec.plain.varTypes (Try.pinned.checked.prog)).any ((Try.pinned.checked.prog).ifacesRec ·)) = true := by kernel_rfl
theorem fact15 : (Rows.shelfPlaysRow.mapsOut == (Try.pinned.checked.prog).mapsAmong Try.f6.resultTypes.toList) = true := by kernel_rfl
theorem fact16 : (Rows.shelfPlaysRow.loops == (Try.f6.params.toList ++ Rows.shelfPlaysSpec.plain.varTypes (Try.pinned.checked.prog)).any ((Try.pinned.checked.prog).loopsFrom ·)) = true := by kernel_rfl
theorem fact17 : (Rows.shelfPlaysRow.wideKeys == (Try.f6.params.toList ++ Rows.shelfPlaysSpec.plain.varTypes (Try.pinned.checked.prog) ++ Try.f6.resultTypes.toList).any ((Try.pinned.checked.prog).wideKeysFrom ·)) = true := by kernel_rfl
theorem fact18 : Rows.shelfPlaysSpec.vars.all ((Try.pinned.checked.prog).varReadable ·) = true := by kernel_rfl
theorem fact19 : Try.f6.resultTypes.all (fun t => (Try.pinned.checked.prog).readableRec t && decide (t < (Try.pinned.checked.prog).types.size)) = true := by kernel_rfl
theorem fact20 : (Rows.shelfPlaysRow.ifacesOut == Try.f6.resultTypes.toList.any ((Try.pinned.checked.prog).ifacesRec ·)) = true := by kernel_rfl
theorem fact21 : (Rows.shelfPlaysRow.loopsOut == Try.f6.resultTypes.toList.any ((Try.pinned.checked.prog).loopsFrom ·)) = true := by kernel_rfl
theorem fact22 : (Rows.shelfPlaysRow.plainKeys == (Try.pinned.checked.prog).plainKeys) = true := by kernel_rfl
theorem fact23 : Rows.shelfPlaysRow.shortTexts.isNone = true := by kernel_rfl
theorem fact24 : (Try.pinned.checked.prog).stopsHeard = true := by kernel_rfl
theorem fact25 : (Try.pinned.checked.prog).mayEnter = true := by kernel_rfl
theorem fact26 : (Rows.shelfPlaysRow.lifted == (Try.pinned.checked.prog).liftsFinal) = true := by kernel_rfl
theorem fact27 : ((Try.pinned.checked.prog).make == some Rows.shelfPlaysRow.make) = true := by kernel_rfl
theorem fact28 : (Rows.shelfPlaysRow.kinds == (if Rows.shelfPlaysRow.domain.isEmpty then [] else Try.f6.params.toList.map fun t => match (Try.pinned.checked.prog).underlying t with | some (.int k) => some k | _ => none)) = true := by kernel_rfl
theorem fact29 : (Rows.shelfPlaysRow.pinned == Rows.shelfPlaysRow.pinnedBy) = true := by kernel_rfl
theorem fact30 : (Rows.shelfPlaysRow.veiled == (Try.f6.params.toList ++ Rows.shelfPlaysSpec.plain.varTypes (Try.pinned.checked.prog) ++ Try.f6.resultTypes.toList).any ((Try.pinned.checked.prog).veiledRec ·)) = true := by kernel_rfl
theorem fact31 : Rows.shelfPlaysRow.veiledFits (Try.pinned.checked.prog) Try.f6.params.toList (Try.f6.params.toList ++ Rows.shelfPlaysSpec.plain.varTypes (Try.pinned.checked.prog) ++ Try.f6.resultTypes.toList) = true := by kernel_rfl
set_option maxRecDepth 100000 in
theorem closed : joinedFacts Try.pinned.checked.prog 6 Try.f6 Rows.shelfPlaysSpec Rows.shelfPlaysRow = true := by
  unfold joinedFacts
  simp only [Bool.and_eq_true]
  exact ⟨⟨⟨⟨⟨⟨⟨⟨⟨⟨⟨⟨⟨⟨⟨⟨⟨⟨⟨⟨⟨⟨⟨⟨⟨⟨⟨⟨⟨⟨⟨fact0, fact1⟩, fact2⟩, fact3⟩, fact4⟩, fact5⟩, fact6⟩, fact7⟩, fact8⟩, fact9⟩, fact10⟩, fact11⟩, fact12⟩, fact13⟩, fact14⟩, fact15⟩, fact16⟩, fact17⟩, fact18⟩, fact19⟩, fact20⟩, fact21⟩, fact22⟩, fact23⟩, fact24⟩, fact25⟩, fact26⟩, fact27⟩, fact28⟩, fact29⟩, fact30⟩, fact31⟩
theorem named : Try.pinned.checked.prog.funcNamed Rows.shelfPlaysRow.func = some 6 := by kernel_rfl
theorem instance_ : Try.f6.isInstance Try.pinned.checked.prog Rows.shelfPlaysRow.origin Rows.shelfPlaysRow.targs := of_decide_eq_true (by kernel_rfl)
set_option maxRecDepth 100000 in
theorem wrapper_ : Try.f6.isWrapper Try.pinned.checked.prog Rows.shelfPlaysRow.wrapper Rows.shelfPlaysRow.mainSum := by unfold Func.isWrapper; first | (rw [if_pos (by decide +kernel)]; kernel_rfl) | (rw [if_neg (by decide +kernel)]; exact ⟨rfl, rfl⟩)
theorem over : Rows.shelfPlaysRow.holds Try.pinned (OpenSpec.ofChange Rows.shelfPlaysSpec) :=
  OpenClaim.holds_of_wide 6 Try.f6 rfl rfl rfl rfl rfl rfl rfl ⟨rfl, rfl, rfl, rfl, rfl⟩ rfl rfl rfl rfl rfl named Try.func6 closed instance_ wrapper_
    (fun os started H enc _ => lifted os started H enc)
theorem proved : Rows.ShelfPlaysSaid := over
#print axioms proved
end Go.Proofs.Ytoolkamajlgcbaa.shelfPlays
namespace Go.Proofs.Ytoolkamajlgcbaa
/-- The row, under a short name, for the claim. -/
theorem shelfPlays_holds : Rows.ShelfPlaysSaid := shelfPlays.proved
end Go.Proofs.Ytoolkamajlgcbaa
