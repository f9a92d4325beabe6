/- The row of ShelfRanges: for every input the law returns true, and each argument reads as it read. -/
import Derived.Test.YtoolkamajlgcbaaRows
import Derived.Test.YtoolkamajlgcbaaSrD
import Derived.Test.YtoolkamajlgcbaaSrD
import Derived.WalkKit
import Derived.ProofKit
import Derived.OpenShut
import Derived.ShutString
import Derived.ChangeOld
import Derived.Below
import Derived.SizedLaws
set_option linter.unusedVariables false
set_option linter.unusedSimpArgs false
namespace Go.Proofs.Ytoolkamajlgcbaa.shelfRanges
open Go.ChangeShapes Go.WideShapes Go.ChangeAt Go.RowKit
open Go.ChangeMaps (open_string shut_string)
theorem own : ownKnob Try.prog.godebug = none := by kernel_rfl
theorem laidOut : laidOutB Try.prog = true := by kernel_rfl
set_option maxRecDepth 100000 in
theorem lifted (os : Os) (started : os.Started) (H : Type) (enc : TypeId × Value → H) :
    ReturnsInHanded {} Try.checked os 4 .any (Rows.shelfRangesSpec.pre6 enc Try.prog Try.f4 Rows.shelfRangesRow.domain false) (Rows.shelfRangesSpec.post enc Try.prog Try.f4 false true false false) := by
  refine returnsInHanded_of_change_sized (C := Try.checked) own started (by kernel_rfl) Try.func4
    (ChangeSpec.witness6 (enc := enc) (C := Try.checked) false ⟨#[], #[.slice none 0 0, .agg #[.string ByteArray.empty, .string ByteArray.empty, .string ByteArray.empty], .int .i64 0], []⟩ 8 (by kernel_rfl) (by kernel_rfl) (by kernel_rfl) (by kernel_rfl)) ?_
  intro W base args ds gs before hval0 hW hcnd hsz0 _
  have hsz : (DataW.weightsEach Try.prog (Try.f4.params.toList ++ Rows.shelfRangesSpec.plain.varTypes Try.prog) (ds ++ gs)).all (· ≤ reachBytes) = true := hsz0
  have hval : ∀ (j : Nat) t v, Try.f4.params[j]? = some t → args[j]? = some v → Value.okWide Try.prog W .any base t v := hval0
  have hW' := hW
  obtain ⟨p, q, hA0, hV, rfl, hfz, hnd⟩ := hW
  have hA : DataW.TrodAll enc Try.prog W 0 (fun _ => true) true Try.f4.params.toList args.toList ds p := hA0
  rw [Try.params4] at hA hval hsz
  obtain ⟨v0, vs0, d0, ds0, p0, q0, hargs, rfl, rfl, h0, r0⟩ := trodAll_cons hA
  obtain ⟨v1, vs1, d1, ds1, p1, q1, rfl, rfl, rfl, h1, r1⟩ := trodAll_cons r0
  obtain ⟨v2, vs2, d2, ds2, p2, q2, rfl, rfl, rfl, h2, r2⟩ := trodAll_cons r1
  obtain ⟨rfl, rfl, rfl⟩ := trodAll_nil r2
  obtain rfl : args = #[v0, v1, v2] := by cases args; simp_all
  obtain ⟨rfl, rfl⟩ := trodVars_none hV
  have k0 := h0
  have lt0 : ∀ x ∈ p0, x.block < W.heap.size := by obtain ⟨m, hm⟩ := k0; exact DataW.trod_lt m _ _ _ hm
  obtain ⟨z0, w0⟩ := open_sops (hval 0 22 v0 rfl rfl) h0
  have k1 := h1
  have lt1 : ∀ x ∈ p1, x.block < W.heap.size := by obtain ⟨m, hm⟩ := k1; exact DataW.trod_lt m _ _ _ hm
  obtain ⟨z1, w1⟩ := open_ends (hval 1 41 v1 rfl rfl) h1
  obtain ⟨a2, rfl, rfl, rfl, w2⟩ := open_int Try.underlying3 (hval 2 3 v2 rfl rfl) h2
  clear hA0 hval0 hsz0 hsz
  refine (shelfRanges_w W _ z0 w0 _ z1 w1 a2 w2).mono fun e W' ⟨he, bel⟩ => ?_
  subst he
  exact ⟨_, rfl, _, _, _, [], _, [], hW', trodAll_mk1 (shut_bool Try.underlying4 _), (trodAll_cons_mk (Below.trod laidOut (by kernel_rfl) (of_decide_eq_true (by kernel_rfl)) k0 bel lt0) (trodAll_cons_mk (Below.trod laidOut (by kernel_rfl) (of_decide_eq_true (by kernel_rfl)) k1 bel lt1) (trodAll_cons_mk (shut_int Try.underlying3 w2) trodAll_mk0))), rfl, bel.frame _, fun h => by cases h⟩
theorem fact0 : Rows.shelfRangesRow.wf (OpenSpec.ofChange Rows.shelfRangesSpec) = true := by kernel_rfl
theorem fact1 : laidOutB (Try.pinned.checked.prog) = true := by kernel_rfl
theorem fact2 : mapsRowed (Try.pinned.checked.prog) = true := by kernel_rfl
theorem fact3 : Try.f4.params.all ((Try.pinned.checked.prog).readableRec ·) = true := by kernel_rfl
theorem fact4 : namedTie (Try.pinned.checked.prog) Rows.shelfRangesRow.named Rows.shelfRangesSpec.vars = true := by kernel_rfl
theorem fact5 : (Rows.shelfRangesRow.stops == []) = true := by kernel_rfl
theorem fact6 : ((Try.pinned.checked.prog).stops == []) = true := by kernel_rfl
theorem fact7 : (Rows.shelfRangesRow.knobs == []) = true := by kernel_rfl
theorem fact8 : ((Try.pinned.checked.prog).stopKnobs == []) = true := by kernel_rfl
theorem fact9 : (Rows.shelfRangesRow.inPlace == (Try.pinned.checked.prog).inPlace 4) = true := by kernel_rfl
theorem fact10 : (Rows.shelfRangesRow.unfollowed == (Try.pinned.checked.prog).unfollowed 4) = true := by kernel_rfl
theorem fact11 : (Rows.shelfRangesRow.recurses == (Try.pinned.checked.prog).recurses 4) = true := by kernel_rfl
theorem fact12 : (Rows.shelfRangesRow.named == (Try.pinned.checked.prog).varsNamed 4) = true := by kernel_rfl
theorem fact13 : (Rows.shelfRangesRow.maps == (Try.f4.params.toList ++ Rows.shelfRangesSpec.plain.varTypes (Try.pinned.checked.prog)).any ((Try.pinned.checked.prog).mapsRec ·)) = true := by kernel_rfl
theorem fact14 : (Rows.shelfRangesRow.ifaces == (Try.f4.params.toList ++ Rows.shelfRangesSpec.plain.varTypes (Try.pinned.checked.prog)).any ((Try.pinned.checked.prog).ifacesRec ·)) = true := by kernel_rfl
theorem fact15 : (Rows.shelfRangesRow.mapsOut == (Try.pinned.checked.prog).mapsAmong Try.f4.resultTypes.toList) = true := by kernel_rfl
theorem fact16 : (Rows.shelfRangesRow.loops == (Try.f4.params.toList ++ Rows.shelfRangesSpec.plain.varTypes (Try.pinned.checked.prog)).any ((Try.pinned.checked.prog).loopsFrom ·)) = true := by kernel_rfl
theorem fact17 : (Rows.shelfRangesRow.wideKeys == (Try.f4.params.toList ++ Rows.shelfRangesSpec.plain.varTypes (Try.pinned.checked.prog) ++ Try.f4.resultTypes.toList).any ((Try.pinned.checked.prog).wideKeysFrom ·)) = true := by kernel_rfl
theorem fact18 : Rows.shelfRangesSpec.vars.all ((Try.pinned.checked.prog).varReadable ·) = true := by kernel_rfl
theorem fact19 : Try.f4.resultTypes.all (fun t => (Try.pinned.checked.prog).readableRec t && decide (t < (Try.pinned.checked.prog).types.size)) = true := by kernel_rfl
theorem fact20 : (Rows.shelfRangesRow.ifacesOut == Try.f4.resultTypes.toList.any ((Try.pinned.checked.prog).ifacesRec ·)) = true := by kernel_rfl
theorem fact21 : (Rows.shelfRangesRow.loopsOut == Try.f4.resultTypes.toList.any ((Try.pinned.checked.prog).loopsFrom ·)) = true := by kernel_rfl
theorem fact22 : (Rows.shelfRangesRow.plainKeys == (Try.pinned.checked.prog).plainKeys) = true := by kernel_rfl
theorem fact23 : Rows.shelfRangesRow.shortTexts.isNone = true := by kernel_rfl
theorem fact24 : (Try.pinned.checked.prog).stopsHeard = true := by kernel_rfl
theorem fact25 : (Try.pinned.checked.prog).mayEnter = true := by kernel_rfl
theorem fact26 : (Rows.shelfRangesRow.lifted == (Try.pinned.checked.prog).liftsFinal) = true := by kernel_rfl
theorem fact27 : ((Try.pinned.checked.prog).make == some Rows.shelfRangesRow.make) = true := by kernel_rfl
theorem fact28 : (Rows.shelfRangesRow.kinds == (if Rows.shelfRangesRow.domain.isEmpty then [] else Try.f4.params.toList.map fun t => match (Try.pinned.checked.prog).underlying t with | some (.int k) => some k | _ => none)) = true := by kernel_rfl
theorem fact29 : (Rows.shelfRangesRow.pinned == Rows.shelfRangesRow.pinnedBy) = true := by kernel_rfl
theorem fact30 : (Rows.shelfRangesRow.veiled == (Try.f4.params.toList ++ Rows.shelfRangesSpec.plain.varTypes (Try.pinned.checked.prog) ++ Try.f4.resultTypes.toList).any ((Try.pinned.checked.prog).veiledRec ·)) = true := by kernel_rfl
theorem fact31 : Rows.shelfRangesRow.veiledFits (Try.pinned.checked.prog) Try.f4.params.toList (Try.f4.params.toList ++ Rows.shelfRangesSpec.plain.varTypes (Try.pinned.checked.prog) ++ Try.f4.resultTypes.toList) = true := by kernel_rfl
set_option maxRecDepth 100000 in
theorem closed : joinedFacts Try.pinned.checked.prog 4 Try.f4 Rows.shelfRangesSpec Rows.shelfRangesRow = true := by
  unfold joinedFacts
  simp only [Bool.and_eq_true]
  exact ⟨⟨⟨⟨⟨⟨⟨⟨⟨⟨⟨⟨⟨⟨⟨⟨⟨⟨⟨⟨⟨⟨⟨⟨⟨⟨⟨⟨⟨⟨⟨fact0, fact1⟩, fact2⟩, fact3⟩, fact4⟩, fact5⟩, fact6⟩, fact7⟩, fact8⟩, fact9⟩, fact10⟩, fact11⟩, fact12⟩, fact13⟩, fact14⟩, fact15⟩, fact16⟩, fact17⟩, fact18⟩, fact19⟩, fact20⟩, fact21⟩, fact22⟩, fact23⟩, fact24⟩, fact25⟩, fact26⟩, fact27⟩, fact28⟩, fact29⟩, fact30⟩, fact31⟩
theorem named : Try.pinned.checked.prog.funcNamed Rows.shelfRangesRow.func = some 4 := by kernel_rfl
theorem instance_ : Try.f4.isInstance Try.pinned.checked.prog Rows.shelfRangesRow.origin Rows.shelfRangesRow.targs := of_decide_eq_true (by kernel_rfl)
set_option maxRecDepth 100000 in
theorem wrapper_ : Try.f4.isWrapper Try.pinned.checked.prog Rows.shelfRangesRow.wrapper Rows.shelfRangesRow.mainSum := by unfold Func.isWrapper; first | (rw [if_pos (by decide +kernel)]; kernel_rfl) | (rw [if_neg (by decide +kernel)]; exact ⟨rfl, rfl⟩)
theorem over : Rows.shelfRangesRow.holds Try.pinned (OpenSpec.ofChange Rows.shelfRangesSpec) :=
  OpenClaim.holds_of_wide 4 Try.f4 rfl rfl rfl rfl rfl rfl rfl ⟨rfl, rfl, rfl, rfl, rfl⟩ rfl rfl rfl rfl rfl named Try.func4 closed instance_ wrapper_
    (fun os started H enc _ => lifted os started H enc)
theorem proved : Rows.ShelfRangesSaid := over
#print axioms proved
end Go.Proofs.Ytoolkamajlgcbaa.shelfRanges
namespace Go.Proofs.Ytoolkamajlgcbaa
/-- The row, under a short name, for the claim. -/
theorem shelfRanges_holds : Rows.ShelfRangesSaid := shelfRanges.proved
end Go.Proofs.Ytoolkamajlgcbaa
