/- The row of GlobLiteral: for every input the law returns true, and each argument reads as it read. -/
import Derived.Test.YtmagidkgajmhoaaDoorRows
import Derived.Test.YtmagidkgajmhoaaDoorCards
import Derived.Test.YtmagidkgajmhoaaDoorTie
import Derived.Test.YtmagidkgajmhoaaDoorGlT
import Derived.WalkKit
import Derived.ProofKit
import Derived.OpenShut
import Derived.ShutString
import Derived.ChangeOld
import Derived.Below
import Derived.SizedLaws
import Derived.LaidMore
import Derived.Lay
import Derived.SevenTiedAt
import Derived.Stop.Joined
set_option linter.unusedVariables false
set_option linter.unusedSimpArgs false
namespace Go.Proofs.YtmagidkgajmhoaaDoor.globLiteral
open Go.ChangeShapes Go.WideShapes Go.ChangeAt Go.RowKit
open Go.ChangeMaps (open_string shut_string)
theorem own : ownKnob Tryd.prog.godebug = none := by kernel_rfl
set_option maxRecDepth 100000 in
theorem lifted (os : Os) (started : os.Started) (H : Type) (enc : TypeId × Value → H) :
    ReturnsInHanded {} Tryd.checked os 3 .any (fun w args => (Rows.globLiteralSpec.pre enc Tryd.prog Tryd.f3 Rows.globLiteralRow.domain false w args ∧ laidMetH Tryd.prog Rows.globLiteralRow.laid w) ∧ sizedMet enc Tryd.prog Tryd.f3 (OpenSpec.ofChange Rows.globLiteralSpec) false w args)
      (Rows.globLiteralSpec.post enc Tryd.prog Tryd.f3 false true false false) := by
  refine returnsInHanded_of_change_and (C := Tryd.checked) (X := fun w _ => laidMetH Tryd.prog Rows.globLiteralRow.laid w) (fun _ _ _ hh h => h.of_heap hh) own started (by kernel_rfl) Tryd.func3
    (ChangeSpec.witness_shaped (enc := enc) (C := Tryd.checked) (os := os) (X := fun w _ => laidMetH Tryd.prog Rows.globLiteralRow.laid w) false (World.laidAll Tryd.prog os Rows.globLiteralRow.laid) #[.string ByteArray.empty, .string ByteArray.empty] 8 (World.laidAll_os _ _ _)
      (World.shaped_of_ZipB (by kernel_rfl) (by kernel_rfl)) (by kernel_rfl) (by kernel_rfl) (by kernel_rfl)
      (by rw [MakeChecks.laidMetH_plain _ _ _ (by kernel_rfl)]; exact laidMet_laidAll _ (by kernel_rfl) (by kernel_rfl))) ?_
  intro W base args ds gs before hval0 hW hcnd hsz0 hL _
  have hsz : (DataW.weightsEach Tryd.prog (Tryd.f3.params.toList ++ Rows.globLiteralSpec.plain.varTypes Tryd.prog) (ds ++ gs)).all (· ≤ reachBytes) = true := hsz0
  have hval : ∀ (j : Nat) t v, Tryd.f3.params[j]? = some t → args[j]? = some v → Value.okWide Tryd.prog W .any base t v := hval0
  have hW' := hW
  obtain ⟨p, q, hA0, hV, rfl, hfz, hnd⟩ := hW
  have hA : DataW.TrodAll enc Tryd.prog W 0 (fun _ => true) true Tryd.f3.params.toList args.toList ds p := hA0
  rw [Tryd.params3] at hA hval hsz
  obtain ⟨v0, vs0, d0, ds0, p0, q0, hargs, rfl, rfl, h0, r0⟩ := trodAll_cons hA
  obtain ⟨v1, vs1, d1, ds1, p1, q1, rfl, rfl, rfl, h1, r1⟩ := trodAll_cons r0
  obtain ⟨rfl, rfl, rfl⟩ := trodAll_nil r1
  obtain rfl : args = #[v0, v1] := by cases args; simp_all
  obtain ⟨rfl, rfl⟩ := trodVars_none hV
  obtain ⟨a0, rfl, rfl, rfl, y0⟩ := open_string Tryd.underlying9 (hval 0 9 v0 rfl rfl) h0
  have w0 : a0.size ≤ 140737488351232 := by
    have z := sized_string hsz (j := 0) (t := 9) rfl rfl
    rw [Array.length_toList] at z
    exact z
  obtain ⟨a1, rfl, rfl, rfl, y1⟩ := open_string Tryd.underlying9 (hval 1 9 v1 rfl rfl) h1
  have w1 : a1.size ≤ 140737488351232 := by
    have z := sized_string hsz (j := 1) (t := 9) rfl rfl
    rw [Array.length_toList] at z
    exact z
  clear hA0 hval0 hsz0 hsz
  refine (globLiteral_walk W a0 w0 a1 w1).mono fun e W' ⟨he, bel⟩ => ?_
  subst he
  exact ⟨_, rfl, _, _, _, [], _, [], hW', trodAll_mk1 (shut_bool Tryd.underlying4 _), (trodAll_cons_mk (shut_string Tryd.underlying9 y0) (trodAll_cons_mk (shut_string Tryd.underlying9 y1) trodAll_mk0)), rfl, bel.frame _, fun h => by cases h⟩
theorem fact0 : Rows.globLiteralRow.wf (OpenSpec.ofChange Rows.globLiteralSpec) = true := by kernel_rfl
theorem fact1 : laidOutB (Tryd.pinned.checked.prog) = true := by kernel_rfl
theorem fact2 : mapsRowed (Tryd.pinned.checked.prog) = true := by kernel_rfl
theorem fact3 : Tryd.f3.params.all ((Tryd.pinned.checked.prog).readableRec ·) = true := by kernel_rfl
theorem fact4 : namedTie (Tryd.pinned.checked.prog) Rows.globLiteralRow.named Rows.globLiteralSpec.vars = true := by kernel_rfl
theorem fact5 : (Rows.globLiteralRow.stops == []) = true := by kernel_rfl
theorem fact6 : ((Tryd.pinned.checked.prog).stops == []) = true := by kernel_rfl
theorem fact7 : (Rows.globLiteralRow.knobs == []) = true := by kernel_rfl
theorem fact8 : ((Tryd.pinned.checked.prog).stopKnobs == []) = true := by kernel_rfl
theorem fact9 : (Rows.globLiteralRow.inPlace == (Tryd.pinned.checked.prog).inPlace 3) = true := by kernel_rfl
theorem fact10 : (Rows.globLiteralRow.unfollowed == (Tryd.pinned.checked.prog).unfollowed 3) = true := by kernel_rfl
theorem fact11 : (Rows.globLiteralRow.recurses == (Tryd.pinned.checked.prog).recurses 3) = true := by kernel_rfl
theorem fact12 : (Rows.globLiteralRow.named == (Tryd.pinned.checked.prog).varsNamed 3) = true := by kernel_rfl
theorem fact13 : (Rows.globLiteralRow.maps == (Tryd.f3.params.toList ++ Rows.globLiteralSpec.plain.varTypes (Tryd.pinned.checked.prog)).any ((Tryd.pinned.checked.prog).mapsRec ·)) = true := by kernel_rfl
theorem fact14 : (Rows.globLiteralRow.ifaces == (Tryd.f3.params.toList ++ Rows.globLiteralSpec.plain.varTypes (Tryd.pinned.checked.prog)).any ((Tryd.pinned.checked.prog).ifacesRec ·)) = true := by kernel_rfl
theorem fact15 : (Rows.globLiteralRow.mapsOut == (Tryd.pinned.checked.prog).mapsAmong Tryd.f3.resultTypes.toList) = true := by kernel_rfl
theorem fact16 : (Rows.globLiteralRow.loops == (Tryd.f3.params.toList ++ Rows.globLiteralSpec.plain.varTypes (Tryd.pinned.checked.prog)).any ((Tryd.pinned.checked.prog).loopsFrom ·)) = true := by kernel_rfl
theorem fact17 : (Rows.globLiteralRow.wideKeys == (Tryd.f3.params.toList ++ Rows.globLiteralSpec.plain.varTypes (Tryd.pinned.checked.prog) ++ Tryd.f3.resultTypes.toList).any ((Tryd.pinned.checked.prog).wideKeysFrom ·)) = true := by kernel_rfl
theorem fact18 : Rows.globLiteralSpec.vars.all ((Tryd.pinned.checked.prog).varReadable ·) = true := by kernel_rfl
theorem fact19 : Tryd.f3.resultTypes.all (fun t => (Tryd.pinned.checked.prog).readableRec t && decide (t < (Tryd.pinned.checked.prog).types.size)) = true := by kernel_rfl
theorem fact20 : (Rows.globLiteralRow.ifacesOut == Tryd.f3.resultTypes.toList.any ((Tryd.pinned.checked.prog).ifacesRec ·)) = true := by kernel_rfl
theorem fact21 : (Rows.globLiteralRow.loopsOut == Tryd.f3.resultTypes.toList.any ((Tryd.pinned.checked.prog).loopsFrom ·)) = true := by kernel_rfl
theorem fact22 : (Rows.globLiteralRow.plainKeys == (Tryd.pinned.checked.prog).plainKeys) = true := by kernel_rfl
theorem fact23 : Rows.globLiteralRow.shortTexts.isNone = true := by kernel_rfl
theorem fact24 : (Tryd.pinned.checked.prog).stopsHeard = true := by kernel_rfl
theorem fact25 : (Tryd.pinned.checked.prog).mayEnter = true := by kernel_rfl
theorem fact26 : (Rows.globLiteralRow.lifted == (Tryd.pinned.checked.prog).liftsFinal) = true := by kernel_rfl
theorem fact27 : ((Tryd.pinned.checked.prog).make == some Rows.globLiteralRow.make) = true := by kernel_rfl
theorem fact28 : (Rows.globLiteralRow.kinds == (if Rows.globLiteralRow.domain.isEmpty then [] else Tryd.f3.params.toList.map fun t => match (Tryd.pinned.checked.prog).underlying t with | some (.int k) => some k | _ => none)) = true := by kernel_rfl
theorem fact29 : (Rows.globLiteralRow.pinned == Rows.globLiteralRow.pinnedBy) = true := by kernel_rfl
theorem fact30 : (Rows.globLiteralRow.veiled == (Tryd.f3.params.toList ++ Rows.globLiteralSpec.plain.varTypes (Tryd.pinned.checked.prog) ++ Tryd.f3.resultTypes.toList).any ((Tryd.pinned.checked.prog).veiledRec ·)) = true := by kernel_rfl
theorem fact31 : Rows.globLiteralRow.veiledFits (Tryd.pinned.checked.prog) Tryd.f3.params.toList (Tryd.f3.params.toList ++ Rows.globLiteralSpec.plain.varTypes (Tryd.pinned.checked.prog) ++ Tryd.f3.resultTypes.toList) = true := by kernel_rfl
theorem closed : joinedFacts Tryd.pinned.checked.prog 3 Tryd.f3 Rows.globLiteralSpec Rows.globLiteralRow = true := by
  unfold joinedFacts
  simp only [Bool.and_eq_true]
  exact ⟨⟨⟨⟨⟨⟨⟨⟨⟨⟨⟨⟨⟨⟨⟨⟨⟨⟨⟨⟨⟨⟨⟨⟨⟨⟨⟨⟨⟨⟨⟨fact0, fact1⟩, fact2⟩, fact3⟩, fact4⟩, fact5⟩, fact6⟩, fact7⟩, fact8⟩, fact9⟩, fact10⟩, fact11⟩, fact12⟩, fact13⟩, fact14⟩, fact15⟩, fact16⟩, fact17⟩, fact18⟩, fact19⟩, fact20⟩, fact21⟩, fact22⟩, fact23⟩, fact24⟩, fact25⟩, fact26⟩, fact27⟩, fact28⟩, fact29⟩, fact30⟩, fact31⟩
theorem named : Tryd.pinned.checked.prog.funcNamed Rows.globLiteralRow.func = some 3 := by kernel_rfl
theorem instance_ : Tryd.f3.isInstance Tryd.pinned.checked.prog Rows.globLiteralRow.origin Rows.globLiteralRow.targs := of_decide_eq_true (by kernel_rfl)
set_option maxRecDepth 100000 in
theorem wrapper_ : Tryd.f3.isWrapper Tryd.pinned.checked.prog Rows.globLiteralRow.wrapper Rows.globLiteralRow.mainSum := by unfold Func.isWrapper; first | (rw [if_pos (by decide +kernel)]; kernel_rfl) | (rw [if_neg (by decide +kernel)]; exact ⟨rfl, rfl⟩)
theorem over : Rows.globLiteralRow.holds Tryd.pinned (OpenSpec.ofChange Rows.globLiteralSpec) :=
  OpenClaim.holds_of_wide 3 Tryd.f3 rfl rfl rfl rfl rfl rfl rfl ⟨rfl, rfl, rfl, rfl, rfl⟩ rfl rfl rfl rfl rfl named Tryd.func3 closed instance_ wrapper_
    (fun os started H enc _ => lifted os started H enc)
theorem proved : Rows.GlobLiteralSaid := over
def paramTypes : List TypeId := [9, 9]
theorem card_holds : Rows.GlobLiteralCardSaid :=
  Claim7.holds_tied_plain_at .later [] [.data, .pinned] true Rows.globLiteralCard.stood.harness false over (fun _ h => by cases h) (by kernel_rfl) (fun _ h => by cases h) globLiteral_row_tie rfl ⟨rfl, rfl⟩ (by kernel_rfl) rfl
    (fun f fn hf hfn => by
      obtain rfl : f = 3 := Option.some.inj ((show Tryd.prog.funcNamed Rows.globLiteralRow.func = some 3 by kernel_rfl).symm.trans hf) |>.symm
      obtain rfl : fn = Tryd.f3 := (Option.some.inj (Tryd.func3.symm.trans hfn)).symm
      exact ⟨by kernel_rfl, fun j t ht => by
        rw [Tryd.params3] at ht
        have hm : t ∈ paramTypes := by have := Array.mem_of_getElem? ht; simpa [paramTypes] using this
        have hall : (paramTypes.all fun u => !Tryd.prog.wantsStandIn u) = true := by kernel_rfl
        exact (show Tryd.prog.wantsStandIn t = false by simpa using List.all_eq_true.1 hall t hm)⟩)
    (by kernel_rfl)
#print axioms card_holds
end Go.Proofs.YtmagidkgajmhoaaDoor.globLiteral
namespace Go.Proofs.YtmagidkgajmhoaaDoor
/-- The tied card, under a short name, for the claim. -/
theorem globLiteral_holds : Rows.GlobLiteralCardSaid := globLiteral.card_holds
end Go.Proofs.YtmagidkgajmhoaaDoor
