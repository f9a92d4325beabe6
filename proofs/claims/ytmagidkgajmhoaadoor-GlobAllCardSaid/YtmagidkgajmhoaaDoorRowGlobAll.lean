/- The row of GlobAll: for every input the law returns true, and each argument reads as it read. -/
import Derived.Test.YtmagidkgajmhoaaDoorRows
import Derived.Test.YtmagidkgajmhoaaDoorCards
import Derived.Test.YtmagidkgajmhoaaDoorTie
import Derived.Test.YtmagidkgajmhoaaDoorGlY
import Derived.Test.YtmagidkgajmhoaaDoorGlOt
import Derived.WalkKit
import Derived.ProofKit
import Derived.OpenShut
import Derived.ShutString
import Derived.ChangeOld
import Derived.Below
import Derived.SizedLaws
import Derived.LaidMore
import Derived.Lay
import Derived.SevenTiedAt
import Derived.Stop.Joined
set_option linter.unusedVariables false
set_option linter.unusedSimpArgs false
namespace Go.Proofs.YtmagidkgajmhoaaDoor.globAll
open Go.ChangeShapes Go.WideShapes Go.ChangeAt Go.RowKit
open Go.ChangeMaps (open_string shut_string)
theorem own : ownKnob Tryd.prog.godebug = none := by kernel_rfl
theorem laidOut : laidOutB Tryd.prog = true := by kernel_rfl
set_option maxRecDepth 100000 in
theorem lifted (os : Os) (started : os.Started) (H : Type) (enc : TypeId × Value → H) :
    ReturnsInHanded {} Tryd.checked os 6 .any (fun w args => (Rows.globAllSpec.pre enc Tryd.prog Tryd.f6 Rows.globAllRow.domain false w args ∧ laidMetH Tryd.prog Rows.globAllRow.laid w) ∧ sizedMet enc Tryd.prog Tryd.f6 (OpenSpec.ofChange Rows.globAllSpec) false w args)
      (Rows.globAllSpec.post enc Tryd.prog Tryd.f6 false true false false) := by
  refine returnsInHanded_of_change_and (C := Tryd.checked) (X := fun w _ => laidMetH Tryd.prog Rows.globAllRow.laid w) (fun _ _ _ hh h => h.of_heap hh) own started (by kernel_rfl) Tryd.func6
    (ChangeSpec.witness_shaped (enc := enc) (C := Tryd.checked) (os := os) (X := fun w _ => laidMetH Tryd.prog Rows.globAllRow.laid w) false (World.laidAll Tryd.prog os Rows.globAllRow.laid) #[.slice none 0 0, .string ByteArray.empty] 8 (World.laidAll_os _ _ _)
      (World.shaped_of_ZipB (by kernel_rfl) (by kernel_rfl)) (by kernel_rfl) (by kernel_rfl) (by kernel_rfl)
      (by rw [MakeChecks.laidMetH_plain _ _ _ (by kernel_rfl)]; exact laidMet_laidAll _ (by kernel_rfl) (by kernel_rfl))) ?_
  intro W base args ds gs before hval0 hW hcnd hsz0 hL _
  have hsz : (DataW.weightsEach Tryd.prog (Tryd.f6.params.toList ++ Rows.globAllSpec.plain.varTypes Tryd.prog) (ds ++ gs)).all (· ≤ reachBytes) = true := hsz0
  have hval : ∀ (j : Nat) t v, Tryd.f6.params[j]? = some t → args[j]? = some v → Value.okWide Tryd.prog W .any base t v := hval0
  have hW' := hW
  obtain ⟨p, q, hA0, hV, rfl, hfz, hnd⟩ := hW
  have hA : DataW.TrodAll enc Tryd.prog W 0 (fun _ => true) true Tryd.f6.params.toList args.toList ds p := hA0
  rw [Tryd.params6] at hA hval hsz
  obtain ⟨v0, vs0, d0, ds0, p0, q0, hargs, rfl, rfl, h0, r0⟩ := trodAll_cons hA
  obtain ⟨v1, vs1, d1, ds1, p1, q1, rfl, rfl, rfl, h1, r1⟩ := trodAll_cons r0
  obtain ⟨rfl, rfl, rfl⟩ := trodAll_nil r1
  obtain rfl : args = #[v0, v1] := by cases args; simp_all
  obtain ⟨rfl, rfl⟩ := trodVars_none hV
  have k0 := h0
  have lt0 : ∀ x ∈ p0, x.block < W.heap.size := by obtain ⟨m, hm⟩ := k0; exact DataW.trod_lt m _ _ _ hm
  obtain ⟨z0, w0⟩ := open_texts (hval 0 42 v0 rfl rfl) h0
  obtain ⟨a1, rfl, rfl, rfl, y1⟩ := open_string Tryd.underlying9 (hval 1 9 v1 rfl rfl) h1
  have w1 : a1.size ≤ 140737488351232 := by
    have z := sized_string hsz (j := 1) (t := 9) rfl rfl
    rw [Array.length_toList] at z
    exact z
  clear hA0 hval0 hsz0 hsz
  refine (globAll_walk W _ z0 w0 a1 w1).mono fun e W' ⟨he, bel⟩ => ?_
  subst he
  exact ⟨_, rfl, _, _, _, [], _, [], hW', trodAll_mk1 (shut_bool Tryd.underlying4 _), (trodAll_cons_mk (Below.trod laidOut (by kernel_rfl) (of_decide_eq_true (by kernel_rfl)) k0 bel lt0) (trodAll_cons_mk (shut_string Tryd.underlying9 y1) trodAll_mk0)), rfl, bel.frame _, fun h => by cases h⟩
theorem fact0 : Rows.globAllRow.wf (OpenSpec.ofChange Rows.globAllSpec) = true := by kernel_rfl
theorem fact1 : laidOutB (Tryd.pinned.checked.prog) = true := by kernel_rfl
theorem fact2 : mapsRowed (Tryd.pinned.checked.prog) = true := by kernel_rfl
theorem fact3 : Tryd.f6.params.all ((Tryd.pinned.checked.prog).readableRec ·) = true := by kernel_rfl
theorem fact4 : namedTie (Tryd.pinned.checked.prog) Rows.globAllRow.named Rows.globAllSpec.vars = true := by kernel_rfl
theorem fact5 : (Rows.globAllRow.stops == []) = true := by kernel_rfl
theorem fact6 : ((Tryd.pinned.checked.prog).stops == []) = true := by kernel_rfl
theorem fact7 : (Rows.globAllRow.knobs == []) = true := by kernel_rfl
theorem fact8 : ((Tryd.pinned.checked.prog).stopKnobs == []) = true := by kernel_rfl
theorem fact9 : (Rows.globAllRow.inPlace == (Tryd.pinned.checked.prog).inPlace 6) = true := by kernel_rfl
theorem fact10 : (Rows.globAllRow.unfollowed == (Tryd.pinned.checked.prog).unfollowed 6) = true := by kernel_rfl
theorem fact11 : (Rows.globAllRow.recurses == (Tryd.pinned.checked.prog).recurses 6) = true := by kernel_rfl
theorem fact12 : (Rows.globAllRow.named == (Tryd.pinned.checked.prog).varsNamed 6) = true := by kernel_rfl
theorem fact13 : (Rows.globAllRow.maps == (Tryd.f6.params.toList ++ Rows.globAllSpec.plain.varTypes (Tryd.pinned.checked.prog)).any ((Tryd.pinned.checked.prog).mapsRec ·)) = true := by kernel_rfl
theorem fact14 : (Rows.globAllRow.ifaces == (Tryd.f6.params.toList ++ Rows.globAllSpec.plain.varTypes (Tryd.pinned.checked.prog)).any ((Tryd.pinned.checked.prog).ifacesRec ·)) = true := by kernel_rfl
theorem fact15 : (Rows.globAllRow.mapsOut == (Tryd.pinned.checked.prog).mapsAmong Tryd.f6.resultTypes.toList) = true := by kernel_rfl
theorem fact16 : (Rows.globAllRow.loops == (Tryd.f6.params.toList ++ Rows.globAllSpec.plain.varTypes (Tryd.pinned.checked.prog)).any ((Tryd.pinned.checked.prog).loopsFrom ·)) = true := by kernel_rfl
theorem fact17 : (Rows.globAllRow.wideKeys == (Tryd.f6.params.toList ++ Rows.globAllSpec.plain.varTypes (Tryd.pinned.checked.prog) ++ Tryd.f6.resultTypes.toList).any ((Tryd.pinned.checked.prog).wideKeysFrom ·)) = true := by kernel_rfl
theorem fact18 : Rows.globAllSpec.vars.all ((Tryd.pinned.checked.prog).varReadable ·) = true := by kernel_rfl
theorem fact19 : Tryd.f6.resultTypes.all (fun t => (Tryd.pinned.checked.prog).readableRec t && decide (t < (Tryd.pinned.checked.prog).types.size)) = true := by kernel_rfl
theorem fact20 : (Rows.globAllRow.ifacesOut == Tryd.f6.resultTypes.toList.any ((Tryd.pinned.checked.prog).ifacesRec ·)) = true := by kernel_rfl
theorem fact21 : (Rows.globAllRow.loopsOut == Tryd.f6.resultTypes.toList.any ((Tryd.pinned.checked.prog).loopsFrom ·)) = true := by kernel_rfl
theorem fact22 : (Rows.globAllRow.plainKeys == (Tryd.pinned.checked.prog).plainKeys) = true := by kernel_rfl
theorem fact23 : Rows.globAllRow.shortTexts.isNone = true := by kernel_rfl
theorem fact24 : (Tryd.pinned.checked.prog).stopsHeard = true := by kernel_rfl
theorem fact25 : (Tryd.pinned.checked.prog).mayEnter = true := by kernel_rfl
theorem fact26 : (Rows.globAllRow.lifted == (Tryd.pinned.checked.prog).liftsFinal) = true := by kernel_rfl
theorem fact27 : ((Tryd.pinned.checked.prog).make == some Rows.globAllRow.make) = true := by kernel_rfl
theorem fact28 : (Rows.globAllRow.kinds == (if Rows.globAllRow.domain.isEmpty then [] else Tryd.f6.params.toList.map fun t => match (Tryd.pinned.checked.prog).underlying t with | some (.int k) => some k | _ => none)) = true := by kernel_rfl
theorem fact29 : (Rows.globAllRow.pinned == Rows.globAllRow.pinnedBy) = true := by kernel_rfl
theorem fact30 : (Rows.globAllRow.veiled == (Tryd.f6.params.toList ++ Rows.globAllSpec.plain.varTypes (Tryd.pinned.checked.prog) ++ Tryd.f6.resultTypes.toList).any ((Tryd.pinned.checked.prog).veiledRec ·)) = true := by kernel_rfl
theorem fact31 : Rows.globAllRow.veiledFits (Tryd.pinned.checked.prog) Tryd.f6.params.toList (Tryd.f6.params.toList ++ Rows.globAllSpec.plain.varTypes (Tryd.pinned.checked.prog) ++ Tryd.f6.resultTypes.toList) = true := by kernel_rfl
theorem closed : joinedFacts Tryd.pinned.checked.prog 6 Tryd.f6 Rows.globAllSpec Rows.globAllRow = true := by
  unfold joinedFacts
  simp only [Bool.and_eq_true]
  exact ⟨⟨⟨⟨⟨⟨⟨⟨⟨⟨⟨⟨⟨⟨⟨⟨⟨⟨⟨⟨⟨⟨⟨⟨⟨⟨⟨⟨⟨⟨⟨fact0, fact1⟩, fact2⟩, fact3⟩, fact4⟩, fact5⟩, fact6⟩, fact7⟩, fact8⟩, fact9⟩, fact10⟩, fact11⟩, fact12⟩, fact13⟩, fact14⟩, fact15⟩, fact16⟩, fact17⟩, fact18⟩, fact19⟩, fact20⟩, fact21⟩, fact22⟩, fact23⟩, fact24⟩, fact25⟩, fact26⟩, fact27⟩, fact28⟩, fact29⟩, fact30⟩, fact31⟩
theorem named : Tryd.pinned.checked.prog.funcNamed Rows.globAllRow.func = some 6 := by kernel_rfl
theorem instance_ : Tryd.f6.isInstance Tryd.pinned.checked.prog Rows.globAllRow.origin Rows.globAllRow.targs := of_decide_eq_true (by kernel_rfl)
set_option maxRecDepth 100000 in
theorem wrapper_ : Tryd.f6.isWrapper Tryd.pinned.checked.prog Rows.globAllRow.wrapper Rows.globAllRow.mainSum := by unfold Func.isWrapper; first | (rw [if_pos (by decide +kernel)]; kernel_rfl) | (rw [if_neg (by decide +kernel)]; exact ⟨rfl, rfl⟩)
theorem over : Rows.globAllRow.holds Tryd.pinned (OpenSpec.ofChange Rows.globAllSpec) :=
  OpenClaim.holds_of_wide 6 Tryd.f6 rfl rfl rfl rfl rfl rfl rfl ⟨rfl, rfl, rfl, rfl, rfl⟩ rfl rfl rfl rfl rfl named Tryd.func6 closed instance_ wrapper_
    (fun os started H enc _ => lifted os started H enc)
theorem proved : Rows.GlobAllSaid := over
def paramTypes : List TypeId := [42, 9]
theorem card_holds : Rows.GlobAllCardSaid :=
  Claim7.holds_tied_plain_at .later [] [.data, .pinned] true Rows.globAllCard.stood.harness false over (fun _ h => by cases h) (by kernel_rfl) (fun _ h => by cases h) globAll_row_tie rfl ⟨rfl, rfl⟩ (by kernel_rfl) rfl
    (fun f fn hf hfn => by
      obtain rfl : f = 6 := Option.some.inj ((show Tryd.prog.funcNamed Rows.globAllRow.func = some 6 by kernel_rfl).symm.trans hf) |>.symm
      obtain rfl : fn = Tryd.f6 := (Option.some.inj (Tryd.func6.symm.trans hfn)).symm
      exact ⟨by kernel_rfl, fun j t ht => by
        rw [Tryd.params6] at ht
        have hm : t ∈ paramTypes := by have := Array.mem_of_getElem? ht; simpa [paramTypes] using this
        have hall : (paramTypes.all fun u => !Tryd.prog.wantsStandIn u) = true := by kernel_rfl
        exact (show Tryd.prog.wantsStandIn t = false by simpa using List.all_eq_true.1 hall t hm)⟩)
    (by kernel_rfl)
#print axioms card_holds
end Go.Proofs.YtmagidkgajmhoaaDoor.globAll
namespace Go.Proofs.YtmagidkgajmhoaaDoor
/-- The tied card, under a short name, for the claim. -/
theorem globAll_holds : Rows.GlobAllCardSaid := globAll.card_holds
end Go.Proofs.YtmagidkgajmhoaaDoor
