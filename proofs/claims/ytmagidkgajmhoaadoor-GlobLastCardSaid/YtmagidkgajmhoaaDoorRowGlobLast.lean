/- The row of GlobLast: for every input the law returns true, and each argument reads as it read. -/
import Derived.Test.YtmagidkgajmhoaaDoorRows
import Derived.Test.YtmagidkgajmhoaaDoorCards
import Derived.Test.YtmagidkgajmhoaaDoorTie
import Derived.Test.YtmagidkgajmhoaaDoorGlZ
import Derived.WalkKit
import Derived.ProofKit
import Derived.OpenShut
import Derived.ShutString
import Derived.ChangeOld
import Derived.Below
import Derived.SizedLaws
import Derived.LaidMore
import Derived.Lay
import Derived.SevenTiedAt
import Derived.Stop.Joined
set_option linter.unusedVariables false
set_option linter.unusedSimpArgs false
namespace Go.Proofs.YtmagidkgajmhoaaDoor.globLast
open Go.ChangeShapes Go.WideShapes Go.ChangeAt Go.RowKit
open Go.ChangeMaps (open_string shut_string)
theorem own : ownKnob Tryd.prog.godebug = none := by kernel_rfl
theorem laidOut : laidOutB Tryd.prog = true := by kernel_rfl
set_option maxRecDepth 100000 in
theorem lifted (os : Os) (started : os.Started) (H : Type) (enc : TypeId × Value → H) :
    ReturnsInHanded {} Tryd.checked os 5 .any (fun w args => (Rows.globLastSpec.pre enc Tryd.prog Tryd.f5 Rows.globLastRow.domain false w args ∧ laidMetH Tryd.prog Rows.globLastRow.laid w) ∧ sizedMet enc Tryd.prog Tryd.f5 (OpenSpec.ofChange Rows.globLastSpec) false w args)
      (Rows.globLastSpec.post enc Tryd.prog Tryd.f5 false true false false) := by
  refine returnsInHanded_of_change_and (C := Tryd.checked) (X := fun w _ => laidMetH Tryd.prog Rows.globLastRow.laid w) (fun _ _ _ hh h => h.of_heap hh) own started (by kernel_rfl) Tryd.func5
    (ChangeSpec.witness_shaped (enc := enc) (C := Tryd.checked) (os := os) (X := fun w _ => laidMetH Tryd.prog Rows.globLastRow.laid w) false (World.laidAll Tryd.prog os Rows.globLastRow.laid) #[.agg #[.string ByteArray.empty, .string ByteArray.empty], .string ByteArray.empty, .bool false] 8 (World.laidAll_os _ _ _)
      (World.shaped_of_ZipB (by kernel_rfl) (by kernel_rfl)) (by kernel_rfl) (by kernel_rfl) (by kernel_rfl)
      (by rw [MakeChecks.laidMetH_plain _ _ _ (by kernel_rfl)]; exact laidMet_laidAll _ (by kernel_rfl) (by kernel_rfl))) ?_
  intro W base args ds gs before hval0 hW hcnd hsz0 hL _
  have hsz : (DataW.weightsEach Tryd.prog (Tryd.f5.params.toList ++ Rows.globLastSpec.plain.varTypes Tryd.prog) (ds ++ gs)).all (· ≤ reachBytes) = true := hsz0
  have hval : ∀ (j : Nat) t v, Tryd.f5.params[j]? = some t → args[j]? = some v → Value.okWide Tryd.prog W .any base t v := hval0
  have hW' := hW
  obtain ⟨p, q, hA0, hV, rfl, hfz, hnd⟩ := hW
  have hA : DataW.TrodAll enc Tryd.prog W 0 (fun _ => true) true Tryd.f5.params.toList args.toList ds p := hA0
  rw [Tryd.params5] at hA hval hsz
  obtain ⟨v0, vs0, d0, ds0, p0, q0, hargs, rfl, rfl, h0, r0⟩ := trodAll_cons hA
  obtain ⟨v1, vs1, d1, ds1, p1, q1, rfl, rfl, rfl, h1, r1⟩ := trodAll_cons r0
  obtain ⟨v2, vs2, d2, ds2, p2, q2, rfl, rfl, rfl, h2, r2⟩ := trodAll_cons r1
  obtain ⟨rfl, rfl, rfl⟩ := trodAll_nil r2
  obtain rfl : args = #[v0, v1, v2] := by cases args; simp_all
  obtain ⟨rfl, rfl⟩ := trodVars_none hV
  have k0 := h0
  have lt0 : ∀ x ∈ p0, x.block < W.heap.size := by obtain ⟨m, hm⟩ := k0; exact DataW.trod_lt m _ _ _ hm
  obtain ⟨z0, w0⟩ := open_two (hval 0 36 v0 rfl rfl) h0
  obtain ⟨a1, rfl, rfl, rfl, y1⟩ := open_string Tryd.underlying9 (hval 1 9 v1 rfl rfl) h1
  have w1 : a1.size ≤ 140737488351232 := by
    have z := sized_string hsz (j := 1) (t := 9) rfl rfl
    rw [Array.length_toList] at z
    exact z
  obtain ⟨a2, rfl, rfl, rfl⟩ := open_bool Tryd.underlying4 (hval 2 4 v2 rfl rfl) h2
  clear hA0 hval0 hsz0 hsz
  refine (globLast_walk W _ z0 w0 a1 w1 a2).mono fun e W' ⟨he, bel⟩ => ?_
  subst he
  exact ⟨_, rfl, _, _, _, [], _, [], hW', trodAll_mk1 (shut_bool Tryd.underlying4 _), (trodAll_cons_mk (Below.trod laidOut (by kernel_rfl) (of_decide_eq_true (by kernel_rfl)) k0 bel lt0) (trodAll_cons_mk (shut_string Tryd.underlying9 y1) (trodAll_cons_mk (shut_bool Tryd.underlying4 _) trodAll_mk0))), rfl, bel.frame _, fun h => by cases h⟩
theorem fact0 : Rows.globLastRow.wf (OpenSpec.ofChange Rows.globLastSpec) = true := by kernel_rfl
theorem fact1 : laidOutB (Tryd.pinned.checked.prog) = true := by kernel_rfl
theorem fact2 : mapsRowed (Tryd.pinned.checked.prog) = true := by kernel_rfl
theorem fact3 : Tryd.f5.params.all ((Tryd.pinned.checked.prog).readableRec ·) = true := by kernel_rfl
theorem fact4 : namedTie (Tryd.pinned.checked.prog) Rows.globLastRow.named Rows.globLastSpec.vars = true := by kernel_rfl
theorem fact5 : (Rows.globLastRow.stops == []) = true := by kernel_rfl
theorem fact6 : ((Tryd.pinned.checked.prog).stops == []) = true := by kernel_rfl
theorem fact7 : (Rows.globLastRow.knobs == []) = true := by kernel_rfl
theorem fact8 : ((Tryd.pinned.checked.prog).stopKnobs == []) = true := by kernel_rfl
theorem fact9 : (Rows.globLastRow.inPlace == (Tryd.pinned.checked.prog).inPlace 5) = true := by kernel_rfl
theorem fact10 : (Rows.globLastRow.unfollowed == (Tryd.pinned.checked.prog).unfollowed 5) = true := by kernel_rfl
theorem fact11 : (Rows.globLastRow.recurses == (Tryd.pinned.checked.prog).recurses 5) = true := by kernel_rfl
theorem fact12 : (Rows.globLastRow.named == (Tryd.pinned.checked.prog).varsNamed 5) = true := by kernel_rfl
theorem fact13 : (Rows.globLastRow.maps == (Tryd.f5.params.toList ++ Rows.globLastSpec.plain.varTypes (Tryd.pinned.checked.prog)).any ((Tryd.pinned.checked.prog).mapsRec ·)) = true := by kernel_rfl
theorem fact14 : (Rows.globLastRow.ifaces == (Tryd.f5.params.toList ++ Rows.globLastSpec.plain.varTypes (Tryd.pinned.checked.prog)).any ((Tryd.pinned.checked.prog).ifacesRec ·)) = true := by kernel_rfl
theorem fact15 : (Rows.globLastRow.mapsOut == (Tryd.pinned.checked.prog).mapsAmong Tryd.f5.resultTypes.toList) = true := by kernel_rfl
theorem fact16 : (Rows.globLastRow.loops == (Tryd.f5.params.toList ++ Rows.globLastSpec.plain.varTypes (Tryd.pinned.checked.prog)).any ((Tryd.pinned.checked.prog).loopsFrom ·)) = true := by kernel_rfl
theorem fact17 : (Rows.globLastRow.wideKeys == (Tryd.f5.params.toList ++ Rows.globLastSpec.plain.varTypes (Tryd.pinned.checked.prog) ++ Tryd.f5.resultTypes.toList).any ((Tryd.pinned.checked.prog).wideKeysFrom ·)) = true := by kernel_rfl
theorem fact18 : Rows.globLastSpec.vars.all ((Tryd.pinned.checked.prog).varReadable ·) = true := by kernel_rfl
theorem fact19 : Tryd.f5.resultTypes.all (fun t => (Tryd.pinned.checked.prog).readableRec t && decide (t < (Tryd.pinned.checked.prog).types.size)) = true := by kernel_rfl
theorem fact20 : (Rows.globLastRow.ifacesOut == Tryd.f5.resultTypes.toList.any ((Tryd.pinned.checked.prog).ifacesRec ·)) = true := by kernel_rfl
theorem fact21 : (Rows.globLastRow.loopsOut == Tryd.f5.resultTypes.toList.any ((Tryd.pinned.checked.prog).loopsFrom ·)) = true := by kernel_rfl
theorem fact22 : (Rows.globLastRow.plainKeys == (Tryd.pinned.checked.prog).plainKeys) = true := by kernel_rfl
theorem fact23 : Rows.globLastRow.shortTexts.isNone = true := by kernel_rfl
theorem fact24 : (Tryd.pinned.checked.prog).stopsHeard = true := by kernel_rfl
theorem fact25 : (Tryd.pinned.checked.prog).mayEnter = true := by kernel_rfl
theorem fact26 : (Rows.globLastRow.lifted == (Tryd.pinned.checked.prog).liftsFinal) = true := by kernel_rfl
theorem fact27 : ((Tryd.pinned.checked.prog).make == some Rows.globLastRow.make) = true := by kernel_rfl
theorem fact28 : (Rows.globLastRow.kinds == (if Rows.globLastRow.domain.isEmpty then [] else Tryd.f5.params.toList.map fun t => match (Tryd.pinned.checked.prog).underlying t with | some (.int k) => some k | _ => none)) = true := by kernel_rfl
theorem fact29 : (Rows.globLastRow.pinned == Rows.globLastRow.pinnedBy) = true := by kernel_rfl
theorem fact30 : (Rows.globLastRow.veiled == (Tryd.f5.params.toList ++ Rows.globLastSpec.plain.varTypes (Tryd.pinned.checked.prog) ++ Tryd.f5.resultTypes.toList).any ((Tryd.pinned.checked.prog).veiledRec ·)) = true := by kernel_rfl
theorem fact31 : Rows.globLastRow.veiledFits (Tryd.pinned.checked.prog) Tryd.f5.params.toList (Tryd.f5.params.toList ++ Rows.globLastSpec.plain.varTypes (Tryd.pinned.checked.prog) ++ Tryd.f5.resultTypes.toList) = true := by kernel_rfl
theorem closed : joinedFacts Tryd.pinned.checked.prog 5 Tryd.f5 Rows.globLastSpec Rows.globLastRow = true := by
  unfold joinedFacts
  simp only [Bool.and_eq_true]
  exact ⟨⟨⟨⟨⟨⟨⟨⟨⟨⟨⟨⟨⟨⟨⟨⟨⟨⟨⟨⟨⟨⟨⟨⟨⟨⟨⟨⟨⟨⟨⟨fact0, fact1⟩, fact2⟩, fact3⟩, fact4⟩, fact5⟩, fact6⟩, fact7⟩, fact8⟩, fact9⟩, fact10⟩, fact11⟩, fact12⟩, fact13⟩, fact14⟩, fact15⟩, fact16⟩, fact17⟩, fact18⟩, fact19⟩, fact20⟩, fact21⟩, fact22⟩, fact23⟩, fact24⟩, fact25⟩, fact26⟩, fact27⟩, fact28⟩, fact29⟩, fact30⟩, fact31⟩
theorem named : Tryd.pinned.checked.prog.funcNamed Rows.globLastRow.func = some 5 := by kernel_rfl
theorem instance_ : Tryd.f5.isInstance Tryd.pinned.checked.prog Rows.globLastRow.origin Rows.globLastRow.targs := of_decide_eq_true (by kernel_rfl)
set_option maxRecDepth 100000 in
theorem wrapper_ : Tryd.f5.isWrapper Tryd.pinned.checked.prog Rows.globLastRow.wrapper Rows.globLastRow.mainSum := by unfold Func.isWrapper; first | (rw [if_pos (by decide +kernel)]; kernel_rfl) | (rw [if_neg (by decide +kernel)]; exact ⟨rfl, rfl⟩)
theorem over : Rows.globLastRow.holds Tryd.pinned (OpenSpec.ofChange Rows.globLastSpec) :=
  OpenClaim.holds_of_wide 5 Tryd.f5 rfl rfl rfl rfl rfl rfl rfl ⟨rfl, rfl, rfl, rfl, rfl⟩ rfl rfl rfl rfl rfl named Tryd.func5 closed instance_ wrapper_
    (fun os started H enc _ => lifted os started H enc)
theorem proved : Rows.GlobLastSaid := over
def paramTypes : List TypeId := [36, 9, 4]
theorem card_holds : Rows.GlobLastCardSaid :=
  Claim7.holds_tied_plain_at .later [] [.data, .pinned] true Rows.globLastCard.stood.harness false over (fun _ h => by cases h) (by kernel_rfl) (fun _ h => by cases h) globLast_row_tie rfl ⟨rfl, rfl⟩ (by kernel_rfl) rfl
    (fun f fn hf hfn => by
      obtain rfl : f = 5 := Option.some.inj ((show Tryd.prog.funcNamed Rows.globLastRow.func = some 5 by kernel_rfl).symm.trans hf) |>.symm
      obtain rfl : fn = Tryd.f5 := (Option.some.inj (Tryd.func5.symm.trans hfn)).symm
      exact ⟨by kernel_rfl, fun j t ht => by
        rw [Tryd.params5] at ht
        have hm : t ∈ paramTypes := by have := Array.mem_of_getElem? ht; simpa [paramTypes] using this
        have hall : (paramTypes.all fun u => !Tryd.prog.wantsStandIn u) = true := by kernel_rfl
        exact (show Tryd.prog.wantsStandIn t = false by simpa using List.all_eq_true.1 hall t hm)⟩)
    (by kernel_rfl)
#print axioms card_holds
end Go.Proofs.YtmagidkgajmhoaaDoor.globLast
namespace Go.Proofs.YtmagidkgajmhoaaDoor
/-- The tied card, under a short name, for the claim. -/
theorem globLast_holds : Rows.GlobLastCardSaid := globLast.card_holds
end Go.Proofs.YtmagidkgajmhoaaDoor
