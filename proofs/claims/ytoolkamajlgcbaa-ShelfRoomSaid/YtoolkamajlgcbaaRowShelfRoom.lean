/- The row of ShelfRoom: for every input the law returns true, and each argument reads as it read. -/
import Derived.Test.YtoolkamajlgcbaaRows
import Derived.Test.YtoolkamajlgcbaaShZ
import Derived.Test.YtoolkamajlgcbaaShZ
import Derived.WalkKit
import Derived.ProofKit
import Derived.OpenShut
import Derived.ShutString
import Derived.ChangeOld
import Derived.Below
import Derived.SizedLaws
set_option linter.unusedVariables false
set_option linter.unusedSimpArgs false
namespace Go.Proofs.Ytoolkamajlgcbaa.shelfRoom
open Go.ChangeShapes Go.WideShapes Go.ChangeAt Go.RowKit
open Go.ChangeMaps (open_string shut_string)
theorem own : ownKnob Try.prog.godebug = none := by kernel_rfl
theorem laidOut : laidOutB Try.prog = true := by kernel_rfl
set_option maxRecDepth 100000 in
theorem lifted (os : Os) (started : os.Started) (H : Type) (enc : TypeId × Value → H) :
    ReturnsInHanded {} Try.checked os 3 .any (Rows.shelfRoomSpec.pre6 enc Try.prog Try.f3 Rows.shelfRoomRow.domain false) (Rows.shelfRoomSpec.post enc Try.prog Try.f3 false true false false) := by
  refine returnsInHanded_of_change_sized (C := Try.checked) own started (by kernel_rfl) Try.func3
    (ChangeSpec.witness6 (enc := enc) (C := Try.checked) false ⟨#[], #[.int .i64 0, .slice none 0 0, .slice none 0 0], []⟩ 8 (by kernel_rfl) (by kernel_rfl) (by kernel_rfl) (by kernel_rfl)) ?_
  intro W base args ds gs before hval0 hW hcnd hsz0 _
  have hsz : (DataW.weightsEach Try.prog (Try.f3.params.toList ++ Rows.shelfRoomSpec.plain.varTypes Try.prog) (ds ++ gs)).all (· ≤ reachBytes) = true := hsz0
  have hval : ∀ (j : Nat) t v, Try.f3.params[j]? = some t → args[j]? = some v → Value.okWide Try.prog W .any base t v := hval0
  have hW' := hW
  obtain ⟨p, q, hA0, hV, rfl, hfz, hnd⟩ := hW
  have hA : DataW.TrodAll enc Try.prog W 0 (fun _ => true) true Try.f3.params.toList args.toList ds p := hA0
  rw [Try.params3] at hA hval hsz
  obtain ⟨v0, vs0, d0, ds0, p0, q0, hargs, rfl, rfl, h0, r0⟩ := trodAll_cons hA
  obtain ⟨v1, vs1, d1, ds1, p1, q1, rfl, rfl, rfl, h1, r1⟩ := trodAll_cons r0
  obtain ⟨v2, vs2, d2, ds2, p2, q2, rfl, rfl, rfl, h2, r2⟩ := trodAll_cons r1
  obtain ⟨rfl, rfl, rfl⟩ := trodAll_nil r2
  obtain rfl : args = #[v0, v1, v2] := by cases args; simp_all
  obtain ⟨rfl, rfl⟩ := trodVars_none hV
  obtain ⟨a0, rfl, rfl, rfl, w0⟩ := open_int Try.underlying3 (hval 0 3 v0 rfl rfl) h0
  have k1 := h1
  have lt1 : ∀ x ∈ p1, x.block < W.heap.size := by obtain ⟨m, hm⟩ := k1; exact DataW.trod_lt m _ _ _ hm
  obtain ⟨z1, w1⟩ := open_sops (hval 1 22 v1 rfl rfl) h1
  have k2 := h2
  have lt2 : ∀ x ∈ p2, x.block < W.heap.size := by obtain ⟨m, hm⟩ := k2; exact DataW.trod_lt m _ _ _ hm
  obtain ⟨z2, w2⟩ := open_sops (hval 2 22 v2 rfl rfl) h2
  clear hA0 hval0 hsz0 hsz
  refine (shelfRoom_w W a0 w0 _ z1 w1 _ z2 w2).mono fun e W' ⟨he, bel⟩ => ?_
  subst he
  exact ⟨_, rfl, _, _, _, [], _, [], hW', trodAll_mk1 (shut_bool Try.underlying4 _), (trodAll_cons_mk (shut_int Try.underlying3 w0) (trodAll_cons_mk (Below.trod laidOut (by kernel_rfl) (of_decide_eq_true (by kernel_rfl)) k1 bel lt1) (trodAll_cons_mk (Below.trod laidOut (by kernel_rfl) (of_decide_eq_true (by kernel_rfl)) k2 bel lt2) trodAll_mk0))), rfl, bel.frame _, fun h => by cases h⟩
theorem fact0 : Rows.shelfRoomRow.wf (OpenSpec.ofChange Rows.shelfRoomSpec) = true := by kernel_rfl
theorem fact1 : laidOutB (Try.pinned.checked.prog) = true := by kernel_rfl
theorem fact2 : mapsRowed (Try.pinned.checked.prog) = true := by kernel_rfl
theorem fact3 : Try.f3.params.all ((Try.pinned.checked.prog).readableRec ·) = true := by kernel_rfl
theorem fact4 : namedTie (Try.pinned.checked.prog) Rows.shelfRoomRow.named Rows.shelfRoomSpec.vars = true := by kernel_rfl
theorem fact5 : (Rows.shelfRoomRow.stops == []) = true := by kernel_rfl
theorem fact6 : ((Try.pinned.checked.prog).stops == []) = true := by kernel_rfl
theorem fact7 : (Rows.shelfRoomRow.knobs == []) = true := by kernel_rfl
theorem fact8 : ((Try.pinned.checked.prog).stopKnobs == []) = true := by kernel_rfl
theorem fact9 : (Rows.shelfRoomRow.inPlace == (Try.pinned.checked.prog).inPlace 3) = true := by kernel_rfl
theorem fact10 : (Rows.shelfRoomRow.unfollowed == (Try.pinned.checked.prog).unfollowed 3) = true := by kernel_rfl
theorem fact11 : (Rows.shelfRoomRow.recurses == (Try.pinned.checked.prog).recurses 3) = true := by kernel_rfl
theorem fact12 : (Rows.shelfRoomRow.named == (Try.pinned.checked.prog).varsNamed 3) = true := by kernel_rfl
theorem fact13 : (Rows.shelfRoomRow.maps == (Try.f3.params.toList ++ Rows.shelfRoomSpec.plain.varTypes (Try.pinned.checked.prog)).any ((Try.pinned.checked.prog).mapsRec ·)) = true := by kernel_rfl
theorem fact14 : (Rows.shelfRoomRow.ifaces == (Try.f3.params.toList ++ Rows.shelfRoomSpec.plain.varTypes (Try.pinned.checked.prog)).any ((Try.pinned.checked.prog).ifacesRec ·)) = true := by kernel_rfl
theorem fact15 : (Rows.shelfRoomRow.mapsOut == (Try.pinned.checked.prog).mapsAmong Try.f3.resultTypes.toList) = true := by kernel_rfl
theorem fact16 : (Rows.shelfRoomRow.loops == (Try.f3.params.toList ++ Rows.shelfRoomSpec.plain.varTypes (Try.pinned.checked.prog)).any ((Try.pinned.checked.prog).loopsFrom ·)) = true := by kernel_rfl
theorem fact17 : (Rows.shelfRoomRow.wideKeys == (Try.f3.params.toList ++ Rows.shelfRoomSpec.plain.varTypes (Try.pinned.checked.prog) ++ Try.f3.resultTypes.toList).any ((Try.pinned.checked.prog).wideKeysFrom ·)) = true := by kernel_rfl
theorem fact18 : Rows.shelfRoomSpec.vars.all ((Try.pinned.checked.prog).varReadable ·) = true := by kernel_rfl
theorem fact19 : Try.f3.resultTypes.all (fun t => (Try.pinned.checked.prog).readableRec t && decide (t < (Try.pinned.checked.prog).types.size)) = true := by kernel_rfl
theorem fact20 : (Rows.shelfRoomRow.ifacesOut == Try.f3.resultTypes.toList.any ((Try.pinned.checked.prog).ifacesRec ·)) = true := by kernel_rfl
theorem fact21 : (Rows.shelfRoomRow.loopsOut == Try.f3.resultTypes.toList.any ((Try.pinned.checked.prog).loopsFrom ·)) = true := by kernel_rfl
theorem fact22 : (Rows.shelfRoomRow.plainKeys == (Try.pinned.checked.prog).plainKeys) = true := by kernel_rfl
theorem fact23 : Rows.shelfRoomRow.shortTexts.isNone = true := by kernel_rfl
theorem fact24 : (Try.pinned.checked.prog).stopsHeard = true := by kernel_rfl
theorem fact25 : (Try.pinned.checked.prog).mayEnter = true := by kernel_rfl
theorem fact26 : (Rows.shelfRoomRow.lifted == (Try.pinned.checked.prog).liftsFinal) = true := by kernel_rfl
theorem fact27 : ((Try.pinned.checked.prog).make == some Rows.shelfRoomRow.make) = true := by kernel_rfl
theorem fact28 : (Rows.shelfRoomRow.kinds == (if Rows.shelfRoomRow.domain.isEmpty then [] else Try.f3.params.toList.map fun t => match (Try.pinned.checked.prog).underlying t with | some (.int k) => some k | _ => none)) = true := by kernel_rfl
theorem fact29 : (Rows.shelfRoomRow.pinned == Rows.shelfRoomRow.pinnedBy) = true := by kernel_rfl
theorem fact30 : (Rows.shelfRoomRow.veiled == (Try.f3.params.toList ++ Rows.shelfRoomSpec.plain.varTypes (Try.pinned.checked.prog) ++ Try.f3.resultTypes.toList).any ((Try.pinned.checked.prog).veiledRec ·)) = true := by kernel_rfl
theorem fact31 : Rows.shelfRoomRow.veiledFits (Try.pinned.checked.prog) Try.f3.params.toList (Try.f3.params.toList ++ Rows.shelfRoomSpec.plain.varTypes (Try.pinned.checked.prog) ++ Try.f3.resultTypes.toList) = true := by kernel_rfl
set_option maxRecDepth 100000 in
theorem closed : joinedFacts Try.pinned.checked.prog 3 Try.f3 Rows.shelfRoomSpec Rows.shelfRoomRow = true := by
  unfold joinedFacts
  simp only [Bool.and_eq_true]
  exact ⟨⟨⟨⟨⟨⟨⟨⟨⟨⟨⟨⟨⟨⟨⟨⟨⟨⟨⟨⟨⟨⟨⟨⟨⟨⟨⟨⟨⟨⟨⟨fact0, fact1⟩, fact2⟩, fact3⟩, fact4⟩, fact5⟩, fact6⟩, fact7⟩, fact8⟩, fact9⟩, fact10⟩, fact11⟩, fact12⟩, fact13⟩, fact14⟩, fact15⟩, fact16⟩, fact17⟩, fact18⟩, fact19⟩, fact20⟩, fact21⟩, fact22⟩, fact23⟩, fact24⟩, fact25⟩, fact26⟩, fact27⟩, fact28⟩, fact29⟩, fact30⟩, fact31⟩
theorem named : Try.pinned.checked.prog.funcNamed Rows.shelfRoomRow.func = some 3 := by kernel_rfl
theorem instance_ : Try.f3.isInstance Try.pinned.checked.prog Rows.shelfRoomRow.origin Rows.shelfRoomRow.targs := of_decide_eq_true (by kernel_rfl)
set_option maxRecDepth 100000 in
theorem wrapper_ : Try.f3.isWrapper Try.pinned.checked.prog Rows.shelfRoomRow.wrapper Rows.shelfRoomRow.mainSum := by unfold Func.isWrapper; first | (rw [if_pos (by decide +kernel)]; kernel_rfl) | (rw [if_neg (by decide +kernel)]; exact ⟨rfl, rfl⟩)
theorem over : Rows.shelfRoomRow.holds Try.pinned (OpenSpec.ofChange Rows.shelfRoomSpec) :=
  OpenClaim.holds_of_wide 3 Try.f3 rfl rfl rfl rfl rfl rfl rfl ⟨rfl, rfl, rfl, rfl, rfl⟩ rfl rfl rfl rfl rfl named Try.func3 closed instance_ wrapper_
    (fun os started H enc _ => lifted os started H enc)
theorem proved : Rows.ShelfRoomSaid := over
#print axioms proved
end Go.Proofs.Ytoolkamajlgcbaa.shelfRoom
namespace Go.Proofs.Ytoolkamajlgcbaa
/-- The row, under a short name, for the claim. -/
theorem shelfRoom_holds : Rows.ShelfRoomSaid := shelfRoom.proved
end Go.Proofs.Ytoolkamajlgcbaa
