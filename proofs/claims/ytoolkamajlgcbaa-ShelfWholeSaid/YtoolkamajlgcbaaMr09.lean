/- Reg6: as Reg, in a round of a range over a function. -/
import Derived.Test.YtoolkamajlgcbaaMr08
import Derived.RangeFuncCalls
import Derived.OrdersIn
set_option linter.unusedVariables false
set_option linter.unusedSimpArgs false
namespace Go.Proofs.Ytoolkamajlgcbaa
open Go.RowKit

theorem upon_in {P : Program} {o : Oper} {a : Act} {K : Act → World → Prop} {Q : Exit → Act → World → Prop} {l n : Nat} {r : Result Next} (h : o.upon P a K Q r) : o.uponIn (Fence.wide.inRound l) n P a K Q r := by
  cases r with
  | ok x w' =>
    cases x <;> simp only [Oper.upon, Oper.uponIn] at h ⊢
    case value v => exact h
    case skip => exact h
    case defer d => exact h
    case enter f args => exact ⟨fun hh => by simp [Fence.wide] at hh, CallsIn.inRound l (callsIn_wide.2 h)⟩
    case row row args =>
      refine ⟨fun hh => by simp [Fence.wide] at hh, fun c cs _ => ?_⟩
      obtain ⟨v, w', r, s⟩ := h c cs
      exact ⟨v, w', r, stepsIn_wide.2 s⟩
  | halt x w' => cases x <;> simp only [Oper.upon, Oper.uponIn] at h ⊢ <;> exact h
def noDefer (o : Oper) : Bool := match o.op with
  | .defer _ => false
  | _ => true
theorem noDefer_spec {o : Oper} (h : noDefer o = true) : ∀ c, o.op ≠ .defer c := by
  intro c e
  unfold noDefer at h
  rw [e] at h
  cases h
theorem wpOp_in {P : Program} {ops : Array Oper} {K K' : Act → World → Prop} {Q : Exit → Act → World → Prop} {l n i : Nat} {a : Act} {w : World} (hd : ops.all noDefer = true) (hQ : ∀ a w, ¬ Q .outgrown a w) (hK : ∀ a w, K a w → K' a w)
    (h : wpOp P ops Q i K a w) : wpOpIn (Fence.wide.inRound l) n P ops Q i K' a w := by
  have h := wpOp_mono hK h
  unfold wpOp at h
  unfold wpOpIn
  cases ho : ops[i]? with
  | none => rw [ho] at h; exact h
  | some o =>
    rw [ho] at h
    simp only at h ⊢
    have hno : noDefer o = true := by
      obtain ⟨hi, rfl⟩ := Array.getElem?_eq_some_iff.1 ho
      exact Array.all_eq_true.1 hd i hi
    split
    · rename_i hw
      rw [if_pos hw] at h
      rcases h with h | ⟨_, a0, w0, h⟩
      · refine ⟨fun _ _ => trivial, ?_⟩
        rw [Oper.semAt_eq _ _ _ (noDefer_spec hno)]
        exact upon_in h
      · exact absurd h (hQ _ _)
    · rename_i hw
      rw [if_neg hw] at h
      exact ⟨fun _ _ => trivial, h⟩
theorem wpAny_in {P : Program} {md : Region.Mode} {ops : Array Oper} {Q : Exit → Act → World → Prop} {l n : Nat} (hd : ops.all noDefer = true) (hQ : ∀ a w, ¬ Q .outgrown a w) : ∀ (fuel : Nat) (listed : Array Bool) (a : Act) (w : World),
    wpAny P md ops Q fuel listed a w → wpAnyIn (Fence.wide.inRound l) n P md ops Q fuel listed a w
  | 0, _, _, _, h => h
  | fuel + 1, _, _, _, h => ⟨h.1, fun i hi => wpOp_in hd hQ (fun a' w' h' => wpAny_in hd hQ fuel _ a' w' h') (h.2 i hi)⟩
theorem wpIn_region_flag {P : Program} {id : Nat} {Q : Exit → Act → World → Prop} {a : Act} {w : World} {l : List Oper} {rl n : Nat} (hQ : ∀ a w, ¬ Q .outgrown a w) (S : World → Prop) (order : List (Nat × Nat)) (hm : P.follows .mixedOrders = true)
    (hB : (l.toArray.all noDefer && (Region.noSelect l.toArray && order.all (fun x => decide (x.1 < l.length)) && (order.length == l.length) && flagB l.toArray order (Array.replicate l.length false))) = true) (hS : S w.drew)
    (h : wpF P l.toArray S Q (ordered l order) a w.drew) : (Code.region id l.toArray true).wpIn (Fence.wide.inRound rl) n P Q a w := by
  rw [Bool.and_eq_true] at hB
  obtain ⟨hd, hB⟩ := hB
  simp only [Bool.and_eq_true, List.all_eq_true, decide_eq_true_eq, beq_iff_eq] at hB
  obtain ⟨⟨⟨h1, h2⟩, h3⟩, h4⟩ := hB
  refine wpIn_mono (Q := Exit.then (fun a w => Q .normal a w) (OnlyOut Q)) ?_ ?_
  · refine wpIn_region_any hm (wpAny_in hd ?_ _ _ _ _ (wpAny_of_held (S := S) _ _ _ _ ?_))
    · intro a w hh
      exact hQ a w hh
    · have := wpAny_flag l h1 order (Array.replicate l.length false) a w.drew h4 h2 hS h
      rw [h3] at this
      simpa using this
  · intro e a w q
    cases e with
    | normal => exact q
    | outgrown => exact q
    | _ => exact q.elim
end Go.Proofs.Ytoolkamajlgcbaa
/- JnM: the walk of Open (written by gen_open.py). -/
set_option linter.unusedVariables false
set_option linter.unusedSimpArgs false
namespace Go.Proofs.Ytoolkamajlgcbaa
open Go.RowKit Go.Shelf

/-- A journal that was opened. -/
def OpenTo (w : World) (F : Nat → Prop) (g P : Nat) (r : Dk × Int) (e : Ending) (w' : World) : Prop :=
  ∃ v F', e = .returned (.tuple #[v, .int .i64 r.2]) ∧ DTo w F g r.1 w' F' ∧ (if r.2 = 0 then ∃ gj, v = .pointer (some ⟨gj, 0, none⟩) ∧ Jb w' gj g P ∧ ¬ F' gj ∧ w.heap.size ≤ gj else v = .pointer none)
theorem run_laid_down {D : Dk} (hd : D.down = true) (q : Nat) (s : ByteArray) : run D (laid (q : Int) s) = (D, 10) := by
  have hu : ∀ i, D.use i = 10 := fun i => by unfold Dk.use; rw [if_pos hd]
  have e : ∃ l, laid (q : Int) s = ((q : Int) + ((0 : Nat) : Int), cut4 s 0) :: l := ⟨_, rfl⟩
  obtain ⟨l, hl⟩ := e
  have hE : stepE D ((q : Int) + ((0 : Nat) : Int), cut4 s 0) = 10 := by
    unfold stepE Dk.writeE
    rw [if_neg (by simp only; omega), hu, if_neg (by decide)]
  rw [hl, run_cons, hE, if_neg (by decide)]
  unfold step Dk.write Dk.writeE
  rw [if_neg (by simp only; omega), hu, if_neg (by simp)]
theorem load_pj {w : World} {x : Nat} {v : Value} (h : w.cell? ⟨x, 0, none⟩ = some v) : (loadVar 24 ⟨x, 0, none⟩).run Try.prog w = .ok v w := by
  go_simp
theorem load_en {w : World} {x : Nat} {v : Value} (h : w.cell? ⟨x, 0, none⟩ = some v) : (loadVar 38 ⟨x, 0, none⟩).run Try.prog w = .ok v w := by
  go_simp
theorem asAddr_some2 (x : Addr) (w : World) : (asAddr (.pointer (some x))).run Try.prog w = .ok x w := by simp [asAddr, go_sem]
theorem results_cells2 {fn : Func} {p u : Tmp} {t1 t2 : TypeId} (h : fn.results = #[.cell p t1, .cell u t2]) (tmps : Array Value) {w : World} {a b : Addr} {v1 v2 : Value} (hp : tmps.getD p undef = .pointer (some a)) (hu : tmps.getD u undef = .pointer (some b))
    (h1 : (loadVar t1 a).run Try.prog w = .ok v1 w) (h2 : (loadVar t2 b).run Try.prog w = .ok v2 w) : (results fn tmps).run Try.prog w = .ok (.tuple #[v1, v2]) w := by
  have : (results fn tmps).run Try.prog w = ((asAddr (tmps.getD p undef)).run Try.prog w).andThen fun a w₁ => ((loadVar t1 a).run Try.prog w₁).andThen fun v w₂ => ((asAddr (tmps.getD u undef)).run Try.prog w₂).andThen fun b w₃ => ((loadVar t2 b).run Try.prog w₃).andThen fun v2 w₄ => .ok (.tuple #[v, v2]) w₄ := by
    simp only [results, h]
    simp [Sem.run_bind, Result.andThen]
  rw [this, hp, asAddr_some2]
  simp only [Result.andThen]
  rw [h1]
  simp only
  rw [hu, asAddr_some2]
  simp only
  rw [h2]
set_option maxHeartbeats 3200000 in
set_option maxRecDepth 100000 in
theorem open_any (w : World) (F : Nat → Prop) (g P : Nat) (d : Dk) (h : HasDisk w F g d) (hs : Sto P d) (hP1 : 1 ≤ P) (hP : P ≤ 128) (hf : Fw 600 d) :
    Calls Try.prog 34 #[.pointer (some ⟨g, 0, none⟩), .int .i64 (P : Int)] w fun e w' => OpenTo w F g P (run d (openK P d (d.read 0).1)) e w' := by
  have HD := Lib.hid h; have HS := Lib.hid hs; have FW := Lib.hid hf
  have NE1 : needN (P : Int) = ((8 * P + 1 : Nat) : Int) := by unfold needN; rw [if_neg (by omega)]; omega
  have dn : (((8 * P + 1 : Nat) : Int) == 0) = false := by rw [beq_eq_false_iff_ne]; omega
  have dl : decide ((d.l.length : Int) < ((8 * P + 1 : Nat) : Int)) = false := by have := hs.big; simp; omega
  have dl2 : decide (d.l.length < 8 * P + 1) = false := by have := hs.big; simp; omega
  have NEED := fun W => Lib.hid (need_any W (P : Int))
  have SIZE := fun W hW => Lib.hid (size_h (w := W) (F := F) (g := g) (d := d) hW)
  rw [NE1] at NEED
  generalize hnn : 8 * P + 1 = nn at NEED dn dl dl2
  have M2 : (d.read 0).2 = 0 := by unfold Dk.read; rw [if_pos (by unfold Dk.use; rw [if_neg (by rw [hs.up]; decide), if_neg (by have := hs.big; omega)])]
  have MS : Hid ((d.read 0).1.size = 256) := read_size hs.sz (by unfold Dk.use; rw [if_neg (by rw [hs.up]; decide), if_neg (by have := hs.big; omega)])
  have RDW := fun (W : World) (hW : HasDisk W F g d) => Lib.hid (read_h hW 0 (by have := hf.w; omega))
  rw [M2] at RDW
  generalize hm : (d.read 0).1 = m at RDW MS ⊢
  clear h hs hf NE1 hnn M2 hm
  refine (callsIn_wide (n := 3)).1 (callsIn_of_wp_marks Try.func34 rfl trivial ?_ rfl)
  refine wpIn_wide.2 ?_
  simp only [Try.ntmps34, List.size_toArray, List.length_cons, List.length_nil, Nat.reduceAdd, Nat.reduceSub, Array.replicate_succ, Array.replicate_zero, List.push_toArray, List.append_toArray, List.nil_append, List.cons_append]
  go_wp2_with fail
  obtain ⟨W3, hW3⟩ : ∃ W3, W3 = ((w.alloc (.cells #[.int .i64 (P : Int)] 3)).alloc (.cells #[.pointer none] 24)).alloc (.cells #[.int .i64 0] 38) := ⟨_, rfl⟩
  rw [← hW3]
  have B3 : Hid (Below w.heap.size w W3) := by unfold Hid; rw [hW3]; exact (((Below.refl _ w).alloc (Nat.le_refl _) _).alloc (by simp) _).alloc (by simp; omega) _
  have p3 : Hid (W3.heap[w.heap.size]? = some (.cells #[.int .i64 (P : Int)] 3 (0, 0))) := by unfold Hid; rw [hW3]; exact blk_alloc (blk_alloc (blk_new w _) _) _
  have p4 : Hid (W3.heap[w.heap.size + 1]? = some (.cells #[.pointer none] 24 (0, 0))) := by unfold Hid; rw [hW3]; exact blk_alloc (heap_alloc2_new w _ _) _
  have p5 : Hid (W3.heap[w.heap.size + 1 + 1]? = some (.cells #[.int .i64 0] 38 (0, 0))) := by unfold Hid; rw [hW3]; have := blk_new ((w.alloc (.cells #[.int .i64 (P : Int)] 3)).alloc (.cells #[.pointer none] 24)) (.cells #[.int .i64 0] 38); simpa using this
  clear hW3
  have c3 := blk_cell p3.out 0
  simp only [List.getElem?_toArray, List.getElem?_cons_zero] at c3
  have HD3 : Hid (HasDisk W3.drew F g d) := (HD.out.below B3.out).drew
  refine wp_region_flag (fun w' => w'.cell? ⟨w.heap.size, 0, none⟩ = some (.int .i64 (P : Int))) [(0, 0), (1, 0), (2, 1), (3, 1), (4, 1), (6, 2), (5, 0), (7, 0), (8, 1), (9, 1)] (by kernel_rfl) (by kernel_rfl) c3 ?_
  simp only [ordered, List.map_cons, List.map_nil, List.getD_cons_zero, List.getD_cons_succ]
  refine wpF_do ?_
  go_wp2_with fail
  refine ⟨c3, ?_⟩
  refine wpF_do ?_
  go_wp2_with fail
  refine (NEED _).out.mono ?_
  rintro e w4 ⟨rfl, rfl⟩
  go_wp2_with fail
  refine ⟨c3, ?_⟩
  repeat (refine wpF_dry (fun K hK => ?_); go_simp; refine hK _ ?_; clear hK K)
  refine wpF_read (.int .i64 (P : Int)) rfl (fun w' hS => by obtain s1 := hS; go_simp) (fun K hK => ?_)
  go_simp
  refine hK _ ?_
  clear hK K
  refine wpF_do ?_
  go_wp2_with fail
  refine (SIZE _ HD3.out).out.mono ?_
  rintro e w5 ⟨rfl, rfl⟩
  go_wp2_with fail
  refine ⟨c3, ?_⟩
  refine wpF_do ?_
  go_wp2_with fail
  refine (NEED _).out.mono ?_
  rintro e w6 ⟨rfl, rfl⟩
  go_wp2_with fail
  refine ⟨c3, ?_⟩
  repeat (refine wpF_dry (fun K hK => ?_); go_simp; refine hK _ ?_; clear hK K)
  refine wpF_nil ?_
  clear dn dl dl2 NEED SIZE
  have RD := RDW _ HD3.out
  clear RDW
  go_wp2_with fail
  refine RD.out.mono ?_
  rintro e w4 ⟨rfl, b4⟩
  have B4 : Hid (Below w.heap.size w w4) := B3.out.drew.trans (b4.mono B3.out.size)
  have q3 := Lib.hid ((b4.block _ (lt_of_block p3.out)).trans p3.out)
  have q4 := Lib.hid ((b4.block _ (lt_of_block p4.out)).trans p4.out)
  have q5 := Lib.hid ((b4.block _ (lt_of_block p5.out)).trans p5.out)
  replace c3 := blk_cell q3.out 0
  simp only [List.getElem?_toArray, List.getElem?_cons_zero] at c3
  clear b4 p3 p4 p5 B3 RD
  go_wp2_with fail
  obtain ⟨W5, hW5⟩ : ∃ W5, W5 = ((w4.alloc (.cells #[.pointer (some ⟨g, 0, none⟩), .int .i64 (P : Int)] 89)).alloc (.cells #[.pointer (some ⟨w4.heap.size, 0, none⟩)] 24)).alloc (.cells #[.bool false] 4) := ⟨_, rfl⟩
  rw [← hW5]
  obtain ⟨gj, hgj⟩ : ∃ gj, gj = w4.heap.size := ⟨_, rfl⟩
  have B5 : Hid (Below w4.heap.size w4 W5) := by unfold Hid; rw [hW5]; exact (((Below.refl _ w4).alloc (Nat.le_refl _) _).alloc (by simp) _).alloc (by simp; omega) _
  have pj : Hid (Jb W5 gj g P) := by unfold Hid Jb; rw [hW5, hgj]; exact blk_alloc (blk_alloc (blk_new w4 _) _) _
  have p8 : Hid (W5.heap[w4.heap.size + 1]? = some (.cells #[.pointer (some ⟨gj, 0, none⟩)] 24 (0, 0))) := by unfold Hid; rw [hW5, hgj]; exact blk_alloc (heap_alloc2_new w4 _ _) _
  have p9 : Hid (W5.heap[w4.heap.size + 1 + 1]? = some (.cells #[.bool false] 4 (0, 0))) := by unfold Hid; rw [hW5]; have := blk_new ((w4.alloc (.cells #[.pointer (some ⟨g, 0, none⟩), .int .i64 (P : Int)] 89)).alloc (.cells #[.pointer (some ⟨w4.heap.size, 0, none⟩)] 24)) (.cells #[.bool false] 4); simpa using this
  clear hW5
  refine (told_make W5 m).mono ?_
  rintro e w6 ⟨Bc, rfl, hbox, hb1, hb2, b6⟩
  have B6 : Hid (Below w4.heap.size w4 w6) := B5.out.trans (b6.mono B5.out.size)
  have B7 : Hid (Below w.heap.size w w6) := B4.out.trans (B6.out.mono B4.out.size)
  have r3 := Lib.hid ((B6.out.block _ (lt_of_block q3.out)).trans q3.out)
  have r4 := Lib.hid ((B6.out.block _ (lt_of_block q4.out)).trans q4.out)
  have r5 := Lib.hid ((B6.out.block _ (lt_of_block q5.out)).trans q5.out)
  have rj : Hid (Jb w6 gj g P) := pj.out.below b6
  have r8 := Lib.hid ((b6.block _ (lt_of_block p8.out)).trans p8.out)
  have r9 := Lib.hid ((b6.block _ (lt_of_block p9.out)).trans p9.out)
  have BX := Lib.hid hbox
  obtain ⟨x3, hx3⟩ : ∃ x, x = w.heap.size := ⟨_, rfl⟩
  obtain ⟨x4, hx4⟩ : ∃ x, x = w.heap.size + 1 := ⟨_, rfl⟩
  obtain ⟨x5, hx5⟩ : ∃ x, x = w.heap.size + 1 + 1 := ⟨_, rfl⟩
  obtain ⟨x8, hx8⟩ : ∃ x, x = w4.heap.size + 1 := ⟨_, rfl⟩
  obtain ⟨x9, hx9⟩ : ∃ x, x = w4.heap.size + 1 + 1 := ⟨_, rfl⟩
  have FLT : Hid (∀ j, F j → j < x3) := fun j hj => by rw [hx3]; exact HD.out.lt j hj
  have ORD : Hid (x3 < x4 ∧ x4 < x5 ∧ x5 < gj ∧ gj < x8 ∧ x8 < x9 ∧ x9 < Bc ∧ Bc < w6.heap.size) := by
    have h5 := lt_of_block q5.out
    have h9 := lt_of_block p9.out
    unfold Hid; omega
  have WX : Hid (w.heap.size = x3) := hx3.symm
  rw [← hx5] at r5 ⊢
  rw [← hx4] at r4 ⊢
  rw [← hx9] at r9 ⊢
  rw [← hx8] at r8 ⊢
  rw [← hx3] at r3 ⊢
  rw [← hgj]
  clear hx3 hx4 hx5 hx8 hx9 hgj pj p8 p9 q3 q4 q5 hbox hb1 hb2 b6 B5 c3
  have HD6 : Hid (HasDisk w6 F g d) := HD.out.below B7.out
  go_wp2_with fail
  have LTF : Hid (∀ j, F j → j < x3 ∧ j < w6.heap.size) := fun j hj => by have := FLT.out j hj; have := ORD.out; omega
  have FINISH : Hid (∀ (W : World) (Fx : Nat → Prop) (r : Dk × Int) (v : Value) (tmps : Array Value), HasDisk W Fx g r.1 → (∀ j, Fx j → F j ∨ w6.heap.size + 2 ≤ j) → Touch (fun j => F j ∨ j = x9 ∨ j = x4 ∨ j = x5) w6 W → W.heap[w6.heap.size]? = some (.deferred (some [])) →
      W.heap[x4]? = some (.cells #[v] 24 (0, 0)) → W.heap[x5]? = some (.cells #[.int .i64 r.2] 38 (0, 0)) → r = run d (openK P d m) → (r.2 = 0 ∧ v = .pointer (some ⟨gj, 0, none⟩) ∨ r.2 ≠ 0 ∧ v = .pointer none) → tmps.getD 4 undef = .pointer (some ⟨x4, 0, none⟩) → tmps.getD 5 undef = .pointer (some ⟨x5, 0, none⟩) →
      LeavesInM Fence.wide 3 Try.prog Try.f34 tmps (fun e w' => OpenTo w F g P (run d (openK P d m)) e w') [{ target := .collected w6.heap.size, args := #[] }] .returning W) := fun W Fx r v tmps A nw T hK h4 h5 hr hv t4 t5 => by
    have o := ORD.out
    have nl : ∀ j, w6.heap.size ≤ j → j < w6.heap.size + 2 → ¬ Fx j := fun j h1 h2 h => by
      rcases nw j h with h | h
      · have := LTF.out j h; omega
      · omega
    have ngj : ¬ Fx gj := fun h => by
      rcases nw _ h with h | h
      · have := LTF.out _ h; omega
      · omega
    have ngj2 : ¬ (F gj ∨ gj = x9 ∨ gj = x4 ∨ gj = x5) := fun h => by
      rcases h with h | h | h | h
      · have := LTF.out _ h; omega
      · omega
      · omega
      · omega
    have P1 : W.grownBy (W.putObj w6.heap.size (.deferred none)) (some w6.heap.size) := grown_put _ _ _
    have c4 := blk_cell ((World.putObj_heap_other (w := W) (r := w6.heap.size) (o := .deferred none) (by omega)).trans h4) 0
    have c5 := blk_cell ((World.putObj_heap_other (w := W) (r := w6.heap.size) (o := .deferred none) (by omega)).trans h5) 0
    simp only [List.getElem?_toArray, List.getElem?_cons_zero] at c4 c5
    have T2 : Touch (fun j => F j ∨ j = x9 ∨ j = x4 ∨ j = x5) w6 (W.putObj w6.heap.size (.deferred none)) := T.grown P1 (fun k e => by cases e; exact .inr (Nat.le_refl _))
    refine ⟨by simp, .inl ⟨_, _, rfl, run_takeDeferred hK, ?_⟩⟩
    refine ⟨_, results_cells2 rfl _ t4 t5 (load_pj c4) (load_en c5), v, Fx, by rw [hr], ?_, ?_⟩
    · refine ⟨by rw [← hr]; exact A.keep (S := fun j => j = w6.heap.size) ((Touch.refl (fun j => j = w6.heap.size) W).grown P1 (fun k e => by cases e; exact .inl rfl)) (fun j hj e => by subst e; exact nl _ (Nat.le_refl _) (by omega) hj), fun j hj => ?_, ?_⟩
      · rcases nw j hj with h | h
        · exact .inl h
        · have := B7.out.size; exact .inr (by omega)
      · refine (Touch.of_below B7.out : Touch F w w6).trans T2 (fun j hj h => ?_)
        have := WX.out
        rcases h with h | h | h | h
        · exact h
        · omega
        · omega
        · omega
    · rw [← hr]
      rcases hv with ⟨h0, rfl⟩ | ⟨h0, rfl⟩
      · rw [if_pos h0]
        exact ⟨gj, rfl, rj.out.touch T2 ngj2, ngj, by have := WX.out; omega⟩
      · rw [if_neg h0]
  have n4 : Hid (¬ (F x4 ∨ x4 = x9)) := fun h => by
    have o := ORD.out
    rcases h with h | h
    · have := LTF.out _ h; omega
    · omega
  have n5 : Hid (¬ (F x5 ∨ x5 = x9)) := fun h => by
    have o := ORD.out
    rcases h with h | h
    · have := LTF.out _ h; omega
    · omega
  have n45 : ¬ x4 = x5 := by have := ORD.out; omega
  have n54 : ¬ x5 = x4 := by have := ORD.out; omega
  have FINISH2 : Hid (∀ (W : World) (Fx : Nat → Prop) (r : Dk × Int) (v : Value) (tmps : Array Value), HasDisk W Fx g r.1 → (∀ j, Fx j → F j ∨ w6.heap.size + 2 ≤ j) → Touch (fun j => F j ∨ j = x9) w6 W → W.heap[w6.heap.size]? = some (.deferred (some [])) →
      r = run d (openK P d m) → (r.2 = 0 ∧ v = .pointer (some ⟨gj, 0, none⟩) ∨ r.2 ≠ 0 ∧ v = .pointer none) → tmps.getD 4 undef = .pointer (some ⟨x4, 0, none⟩) → tmps.getD 5 undef = .pointer (some ⟨x5, 0, none⟩) →
      LeavesInM Fence.wide 3 Try.prog Try.f34 tmps (fun e w' => OpenTo w F g P (run d (openK P d m)) e w') [{ target := .collected w6.heap.size, args := #[] }] .returning ((W.setCell ⟨x4, 0, none⟩ v).setCell ⟨x5, 0, none⟩ (.int .i64 r.2))) := fun W Fx r v tmps A nw T hK hr hv t4 t5 => by
    have o := ORD.out
    have k4b := blk_touch T r4.out n4.out
    have k5b := blk_touch T r5.out n5.out
    have h5 : (W.setCell ⟨x4, 0, none⟩ v).heap[x5]? = some (.cells #[.int .i64 0] 38 (0, 0)) := (Below.heap_setCell _ _ _ x5 n54).trans k5b
    have X4 : ((W.setCell ⟨x4, 0, none⟩ v).setCell ⟨x5, 0, none⟩ (.int .i64 r.2)).heap[x4]? = some (.cells #[v] 24 (0, 0)) := (Below.heap_setCell _ _ _ x4 n45).trans (blk_set k4b 0 v)
    have X5 : ((W.setCell ⟨x4, 0, none⟩ v).setCell ⟨x5, 0, none⟩ (.int .i64 r.2)).heap[x5]? = some (.cells #[.int .i64 r.2] 38 (0, 0)) := blk_set h5 0 _
    have nF : ∀ j, j < w6.heap.size → ¬ F j → ¬ Fx j := fun j h1 h2 h => by
      rcases nw j h with h | h
      · exact h2 h
      · omega
    refine FINISH.out _ Fx r v tmps (A.keep (S := fun j => j = x4 ∨ j = x5) (((Touch.refl (fun j => j = x4 ∨ j = x5) _).setCell (p := ⟨x4, 0, none⟩) (.inl (.inl rfl)) _).setCell (p := ⟨x5, 0, none⟩) (.inl (.inr rfl)) _) (fun j hj e => ?_)) nw (((T.mono (fun j _ h => h.imp id .inl)).setCell (p := ⟨x4, 0, none⟩) (.inl (.inr (.inr (.inl rfl)))) _).setCell (p := ⟨x5, 0, none⟩) (.inl (.inr (.inr (.inr rfl)))) _) ?_ X4 X5 hr hv t4 t5
    · rcases e with rfl | rfl
      · exact nF _ (by omega) (fun h => n4.out (.inl h)) hj
      · exact nF _ (by omega) (fun h => n5.out (.inl h)) hj
    · exact (Below.heap_setCell _ _ _ _ (show w6.heap.size ≠ x5 by omega)).trans ((Below.heap_setCell _ _ _ _ (show w6.heap.size ≠ x4 by omega)).trans hK)
  refine wpIn_wide.1 (range_told Bc m MS.out rfl rfl
      (fun k W => ∃ F' : Nat → Prop, Hid (HasDisk W F' g (run d (opk P d m k)).1) ∧ Hid (∀ j, F' j → F j ∨ w6.heap.size + 2 ≤ j) ∧ Hid (Touch (fun j => F j ∨ j = x9) w6 W) ∧ Hid ((run d (opk P d m k)).2 = 0) ∧ Hid (W.heap[x9]? = some (.cells #[.bool (!(opL P m k).isEmpty)] 4 (0, 0))))
      (fun W => ∃ F' : Nat → Prop, Hid (HasDisk W F' g (run d (openK P d m)).1) ∧ Hid (∀ j, F' j → F j ∨ w6.heap.size + 2 ≤ j) ∧ Hid (Touch (fun j => F j ∨ j = x9 ∨ j = x4 ∨ j = x5) w6 W) ∧ Hid ((run d (openK P d m)).2 ≠ 0) ∧ Hid (W.heap[x4]? = some (.cells #[.pointer none] 24 (0, 0))) ∧ Hid (W.heap[x5]? = some (.cells #[.int .i64 (run d (openK P d m)).2] 38 (0, 0))))
      ?hbox ?hno ?hput ?hputX ?h0 ?hround ?hdone ?hstop)
  case hbox =>
    rintro k W ⟨F', a, b, c, e, f⟩
    exact cell_keep c.out BX.out (show ¬ (F Bc ∨ Bc = x9) from fun h => by
      have o := ORD.out
      rcases h with h | h
      · have := LTF.out _ h; omega
      · omega)
  case hno =>
    rintro k W hk ht ⟨F', a, b, c, e, f⟩
    rw [opk_no (.inl ht), opL_no (.inl ht)]
    exact ⟨F', a, b, c, e, f⟩
  case hput =>
    rintro k W l o h1 h2 ⟨F', a, b, c, e, f⟩
    refine ⟨F', a.out.keep (S := fun j => j = l) ((Touch.refl _ W).grown (grown_put W l o) (fun k e => by cases e; exact .inl rfl)) (fun j hj e => ?_), b, c.out.grown (grown_put W l o) (fun k e => by cases e; exact .inr (by omega)), e, (World.putObj_heap_other (by have := ORD.out; omega)).trans f.out⟩
    rcases b.out j hj with h | h
    · have := LTF.out j h; omega
    · omega
  case hputX =>
    rintro W l o h1 h2 ⟨F', a, b, c, e, f, f2⟩
    refine ⟨F', a.out.keep (S := fun j => j = l) ((Touch.refl _ W).grown (grown_put W l o) (fun k e => by cases e; exact .inl rfl)) (fun j hj e => ?_), b, c.out.grown (grown_put W l o) (fun k e => by cases e; exact .inr (by omega)), e, (World.putObj_heap_other (by have := ORD.out; omega)).trans f.out, (World.putObj_heap_other (by have := ORD.out; omega)).trans f2.out⟩
    rcases b.out j hj with h | h
    · have := LTF.out j h; omega
    · omega
  case h0 =>
    intro o1 o2
    exact ⟨F, HD6.out.below (((Below.refl _ w6).alloc (Nat.le_refl _) _).alloc (by simp) _), fun j hj => .inl hj, ((Touch.refl _ w6).alloc _).alloc _, rfl, blk_alloc (blk_alloc r9.out _) _⟩
  case hround =>
    rintro l k W W2 hk ht ⟨F', a, b, c, e, f⟩ hsz
    gi_wp2_with ((rw [Oper.semAt_eq _ _ _ (fun c h => by cases h)]; go_simp; try go_bits))
    refine ⟨trivial, ?_⟩
    have nF : Hid (∀ j, j < w6.heap.size → ¬ F j → ¬ F' j) := fun j h1 h2 h => by
      rcases b.out j h with h | h
      · exact h2 h
      · omega
    have o := Lib.hid ORD.out
    have n3 : Hid (¬ (F x3 ∨ x3 = x9)) := fun h => by
      have o := ORD.out
      rcases h with h | h
      · have := LTF.out _ h; omega
      · omega
    have n8 : Hid (¬ (F x8 ∨ x8 = x9)) := fun h => by
      have o := ORD.out
      rcases h with h | h
      · have := LTF.out _ h; omega
      · omega
    have nj : Hid (¬ (F gj ∨ gj = x9)) := fun h => by
      have o := ORD.out
      rcases h with h | h
      · have := LTF.out _ h; omega
      · omega
    have n9 : Hid (¬ F' x9) := nF.out _ (by have := ORD.out; omega) (fun h => by have := LTF.out _ h; have := ORD.out; omega)
    have njF : Hid (¬ F' gj) := nF.out _ (by have := ORD.out; omega) (fun h => nj.out (.inl h))
    have d3 := blk_cell (blk_touch c.out r3.out n3.out) 0
    simp only [List.getElem?_toArray, List.getElem?_cons_zero] at d3
    by_cases hkP : k < P
    · have dk : decide ((P : Int) ≤ (k : Int)) = false := by simp; omega
      obtain ⟨D, hD⟩ : ∃ D, D = (run d (opk P d m k)).1 := ⟨_, rfl⟩
      rw [← hD] at a
      have HDD := Lib.hid hD
      have OKK : Hid (run d (opk P d m (k + 1)) = run D (laid ((1 + 4 * (P + k) : Nat) : Int) (pageB d ((1 + 4 * k : Nat) : Int)))) := by unfold Hid; rw [opk_yes ht hkP, run_go e.out, hD]
      have DL : Hid (D.l.length = d.l.length) := by unfold Hid; rw [hD]; exact run_len HS.out.ok (fun x hx => (opk_mem HS.out hx).1)
      have DF : Hid (Fw 88 D) := by unfold Hid; rw [hD]; exact fw_run _ (FW.out.mono (by have := opk_len P d m k; omega))
      have DZ : Hid (Sz D) := by unfold Hid; rw [hD]; exact sz_run _ HS.out.sz
      have DPG : Hid (D.down = false → pageB D ((1 + 4 * k : Nat) : Int) = pageB d ((1 + 4 * k : Nat) : Int)) := fun hd => by rw [hD] at hd ⊢; exact opk_page HS.out e.out hd k hkP
      clear hD
      have f9 := blk_free f.out 0
      have k9 := blk_cell f.out 0
      simp only [List.getElem?_toArray, List.getElem?_cons_zero] at k9
      have s9 := blk_set f.out 0 (.bool true)
      obtain ⟨q, hq⟩ : ∃ q : Nat, q = 1 + 4 * k := ⟨_, rfl⟩
      have eq1 : 1 + 4 * (k : Int) = (q : Int) := by omega
      have hq4 : q ≤ 4096 := by omega
      have hq8 : q + 4 ≤ d.l.length := by have := HS.out.big; omega
      have PGS : Hid ((pageB d (q : Int)).size = 1024) := HS.out.page q hq8
      obtain ⟨q2, hq2⟩ : ∃ q2 : Nat, q2 = 1 + 4 * (P + k) := ⟨_, rfl⟩
      have eq2 : 1 + 4 * ((P : Int) + (k : Int)) = (q2 : Int) := by omega
      have hq24 : q2 ≤ 4096 := by omega
      rw [← hq] at DPG OKK
      rw [← hq2] at OKK
      have HQ := Lib.hid hq
      have HQ2 := Lib.hid hq2
      clear hq hq2
      have T3 : Hid (Touch (fun j => F j ∨ j = x9) w6 (W2.setCell ⟨x9, 0, none⟩ (.bool true))) := c.out.setCell (p := ⟨x9, 0, none⟩) (.inl (.inr rfl)) _
      have A3 : Hid (HasDisk (W2.setCell ⟨x9, 0, none⟩ (.bool true)) F' g D) := a.out.keep (S := fun j => j = x9) ((Touch.refl (fun j => j = x9) W2).setCell (p := ⟨x9, 0, none⟩) (.inl rfl) _) (fun j hj e => by subst e; exact n9.out hj)
      have J3 : Hid (Jb (W2.setCell ⟨x9, 0, none⟩ (.bool true)) gj g P) := rj.out.touch T3.out nj.out
      have n89 : ¬ x8 = x9 := by have := ORD.out; omega
      have n98 : ¬ x9 = x8 := by have := ORD.out; omega
      have d8w := blk_cell (blk_touch c.out r8.out n8.out) 0
      simp only [List.getElem?_toArray, List.getElem?_cons_zero] at d8w
      have d8 := blk_cell (blk_touch T3.out r8.out n8.out) 0
      simp only [List.getElem?_toArray, List.getElem?_cons_zero] at d8
      have SZ3 : Hid (w6.heap.size + 2 ≤ (W2.setCell ⟨x9, 0, none⟩ (.bool true)).heap.size) := Nat.le_trans hsz ((Touch.refl (fun _ => True) W2).setCell (p := ⟨x9, 0, none⟩) (.inl trivial) (.bool true)).size
      have TW : Hid (Touch (fun j => F' j ∨ j = x9 ∨ j = x4 ∨ j = x5) W2 (W2.setCell ⟨x9, 0, none⟩ (.bool true))) := (Touch.refl (fun j => F' j ∨ j = x9 ∨ j = x4 ∨ j = x5) W2).setCell (p := ⟨x9, 0, none⟩) (.inl (.inr (.inl rfl))) _
      have SAME : Hid (∀ W', Touch (fun j => F' j ∨ j = x9 ∨ j = x4 ∨ j = x5) W2 W' → (W'.heap[w6.heap.size]? = W2.heap[w6.heap.size]? ∧ W'.heap[w6.heap.size + 1]? = W2.heap[w6.heap.size + 1]?)) := fun W' hT => by
        have o := ORD.out
        have nn : ∀ j, w6.heap.size ≤ j → j < w6.heap.size + 2 → ¬ (F' j ∨ j = x9 ∨ j = x4 ∨ j = x5) := fun j h1 h2 h => by
          rcases h with h | h | h | h
          · rcases b.out j h with h | h
            · have := LTF.out j h; omega
            · omega
          · omega
          · omega
          · omega
        exact ⟨hT.block _ (by omega) (nn _ (Nat.le_refl _) (by omega)), hT.block _ (by omega) (nn _ (by omega) (by omega))⟩
      clear a e
      have LK : Hid (Calls Try.prog 67 #[.pointer (some ⟨gj, 0, none⟩), .int .i64 (q : Int)] (W2.setCell ⟨x9, 0, none⟩ (.bool true)) fun e w' => e = .returned (.tuple #[.string (if D.down = true then (ByteArray.empty, (10 : Int)) else (pageB d (q : Int), 0)).1, .int .i64 (if D.down = true then (ByteArray.empty, (10 : Int)) else (pageB d (q : Int), 0)).2]) ∧ Below (W2.setCell ⟨x9, 0, none⟩ (.bool true)).heap.size (W2.setCell ⟨x9, 0, none⟩ (.bool true)) w') := by
        by_cases hd : D.down = true
        · rw [if_pos hd]; exact look_down _ F' gj g P D A3.out J3.out hd (by have := DF.out.w; omega) q hq4
        · rw [if_neg hd, ← DPG.out (by simpa using hd)]; exact look_up _ F' gj g P D A3.out J3.out (by simpa using hd) DZ.out (by have := DF.out.w; omega) q (by rw [DL.out]; omega) hq4
      gi_wp2_with ((rw [Oper.semAt_eq _ _ _ (fun c h => by cases h)]; go_simp; try go_bits))
      refine ⟨trivial, (CallsIn.inRound l (callsIn_wide.2 LK.out)).mono ?_⟩
      rintro e w7 ⟨rfl, b7⟩
      have T7 : Hid (Touch (fun j => F j ∨ j = x9) w6 w7) := T3.out.trans (Touch.of_below b7 : Touch (fun _ => False) _ w7) (fun _ _ x => x.elim)
      have TW7 : Hid (Touch (fun j => F' j ∨ j = x9 ∨ j = x4 ∨ j = x5) W2 w7) := TW.out.trans (Touch.of_below b7 : Touch (fun _ => False) _ w7) (fun _ _ x => x.elim)
      have A7 : Hid (HasDisk w7 F' g D) := A3.out.below b7
      have J7 : Hid (Jb w7 gj g P) := J3.out.below b7
      have d87 := cell_below b7 d8
      have b9 : Hid (w7.heap[x9]? = some (.cells #[.bool true] 4 (0, 0))) := (b7.block _ (lt_of_block s9)).trans s9
      have n4F : Hid (¬ F' x4) := nF.out _ (by have := ORD.out; omega) (fun h => n4.out (.inl h))
      have n5F : Hid (¬ F' x5) := nF.out _ (by have := ORD.out; omega) (fun h => n5.out (.inl h))
      have n94 : Hid (x4 < x9 ∧ x5 < x9) := by have := ORD.out; exact ⟨by omega, by omega⟩
      clear d3 d8 d8w b7 s9 k9 f9 LK
      cases hd : D.down with
      | true =>
        have E : Hid (run d (opk P d m (k + 1)) = (D, 10)) := by unfold Hid; rw [OKK.out]; exact run_laid_down hd q2 _
        have E0 : Hid ((D, (10 : Int)).2 ≠ 0) := show (10 : Int) ≠ 0 by decide
        have k4b := Lib.hid (blk_touch T7.out r4.out n4.out)
        have k5b := Lib.hid (blk_touch T7.out r5.out n5.out)
        have k4 := blk_cell k4b.out 0
        have k5 := blk_cell k5b.out 0
        have f4 := blk_free k4b.out 0
        have f5 := blk_free k5b.out 0
        simp only [List.getElem?_toArray, List.getElem?_cons_zero] at k4 k5
        have n4G := n4F
        have n5G := n5F
        have RR := Lib.hid (open_stop hk ht hkP (by rw [E.out]; exact E0.out))
        rw [E.out] at RR
        have X4 : Hid (((w7.setCell ⟨x4, 0, none⟩ (.pointer none)).setCell ⟨x5, 0, none⟩ (.int .i64 10)).heap[x4]? = some (.cells #[.pointer none] 24 (0, 0))) := by
          have := blk_set k4b.out 0 (.pointer none)
          exact (Below.heap_setCell _ _ _ x4 n45).trans this
        have X5 : Hid (((w7.setCell ⟨x4, 0, none⟩ (.pointer none)).setCell ⟨x5, 0, none⟩ (.int .i64 10)).heap[x5]? = some (.cells #[.int .i64 10] 38 (0, 0))) := by
          have h5 : (w7.setCell ⟨x4, 0, none⟩ (.pointer none)).heap[x5]? = some (.cells #[.int .i64 0] 38 (0, 0)) := (Below.heap_setCell _ _ _ x5 n54).trans k5b.out
          have := blk_set h5 0 (.int .i64 10)
          exact this
        clear hd
        gi_wp2_with ((rw [Oper.semAt_eq _ _ _ (fun c h => by cases h)]; go_simp; try go_bits))
        refine ⟨SAME.out _ ?_, F', ?_, b, ?_, ?_, X4, ?_⟩
        · exact (TW7.out.setCell (p := ⟨x4, 0, none⟩) (.inl (.inr (.inr (.inl rfl)))) _).setCell (p := ⟨x5, 0, none⟩) (.inl (.inr (.inr (.inr rfl)))) _
        · rw [RR.out]; exact A7.out.keep (S := fun j => j = x4 ∨ j = x5) (((Touch.refl (fun j => j = x4 ∨ j = x5) _).setCell (p := ⟨x4, 0, none⟩) (.inl (.inl rfl)) _).setCell (p := ⟨x5, 0, none⟩) (.inl (.inr rfl)) _) (fun j hj e => by rcases e with rfl | rfl; exact n4G.out hj; exact n5G.out hj)
        · exact ((T7.out.mono (fun j _ h => h.imp id .inl)).setCell (p := ⟨x4, 0, none⟩) (.inl (.inr (.inr (.inl rfl)))) _).setCell (p := ⟨x5, 0, none⟩) (.inl (.inr (.inr (.inr rfl)))) _
        · rw [RR.out]; exact E0.out
        · rw [RR.out]; exact X5.out
      | false =>
        have J7d : Hid (Jb w7.drew gj g P) := J7.out.below (Below.refl _ w7).drew
        have d87d := cell_below (Below.refl _ w7).drew d87
        have OWN := fun W hW => Lib.hid (own_any W gj g P hW hP k (by omega))
        rw [eq2] at OWN
        have LY := Lib.hid (lay_any w7.drew F' gj g P D A7.out.drew J7d.out njF.out (DF.out.mono (by decide)) q2 hq24 (pageB d (q : Int)) PGS.out)
        unfold JTo at LY
        obtain ⟨r, hr⟩ : ∃ r, r = run D (laid (q2 : Int) (pageB d (q : Int))) := ⟨_, rfl⟩
        rw [← hr] at LY OKK
        clear hr
        generalize hpg : pageB d (q : Int) = pg at LY ⊢
        clear hpg PGS DPG
        gi_wp2_with ((rw [Oper.semAt_eq _ _ _ (fun c h => by cases h)]; go_simp; try go_bits))
        have n8F : Hid (¬ F' x8) := nF.out _ (by have := ORD.out; omega) (fun h => n8.out (.inl h))
        refine wpIn_region_flag (fun _ _ h => h) (fun w' => w'.cell? ⟨x8, 0, none⟩ = some (.pointer (some ⟨gj, 0, none⟩))) [(2, 1), (4, 1), (0, 2), (1, 0), (3, 0), (5, 0), (6, 1)] (by kernel_rfl) (by kernel_rfl) d87d ?_
        simp only [ordered, List.map_cons, List.map_nil, List.getD_cons_zero, List.getD_cons_succ]
        repeat (refine wpF_dry (fun K hK => ?_); go_simp; refine hK _ ?_; clear hK K)
        refine wpF_read (.pointer (some ⟨gj, 0, none⟩)) rfl (fun w' hS => by obtain s1 := hS; go_simp) (fun K hK => ?_)
        go_simp
        refine hK _ ?_
        clear hK K
        refine wpF_do ?_
        go_wp2_with fail
        refine ⟨d87d, ?_⟩
        refine wpF_do ?_
        go_wp2_with fail
        refine (OWN _ J7d.out).out.mono ?_
        rintro e w8 ⟨rfl, rfl⟩
        go_wp2_with fail
        refine ⟨d87d, ?_⟩
        refine wpF_do ?_
        go_wp2_with fail
        refine LY.out.mono ?_
        rintro e w8 ⟨rfl, F8, ht8⟩
        have T8 : Hid (Touch (fun j => F j ∨ j = x9) w6 w8) := T7.out.drew.trans ht8.touch (fun j hj h => by
          rcases b.out j h with h | h
          · exact .inl h
          · omega)
        have TW8 : Hid (Touch (fun j => F' j ∨ j = x9 ∨ j = x4 ∨ j = x5) W2 w8) := TW7.out.drew.trans ht8.touch (fun j hj h => .inl h)
        have A8 : Hid (HasDisk w8 F8 g r.1) := ht8.has
        have SZ7 : Hid (w6.heap.size + 2 ≤ w7.heap.size) := Nat.le_trans hsz TW7.out.size
        have nw8 : Hid (∀ j, F8 j → F j ∨ w6.heap.size + 2 ≤ j) := fun j hj => by
          rcases ht8.new j hj with h | h
          · exact b.out j h
          · have h : w7.heap.size ≤ j := h
            have := SZ7.out
            exact .inr (by omega)
        have b98 : Hid (w8.heap[x9]? = some (.cells #[.bool true] 4 (0, 0))) := blk_touch ht8.touch (show w7.drew.heap[x9]? = _ from b9.out) n9.out
        have c8 := cell_keep ht8.touch d87d n8F.out
        clear ht8 LY d87 d87d
        go_wp2_with fail
        refine ⟨c8, ?_⟩
        repeat (refine wpF_dry (fun K hK => ?_); go_simp; refine hK _ ?_; clear hK K)
        refine wpF_nil ?_
        clear c8
        by_cases hr2 : r.2 = 0
        · rw [hr2]
          have E : Hid ((run d (opk P d m (k + 1))) = r) := OKK.out
          have HR2 := Lib.hid hr2
          clear hr2
          gi_wp2_with ((rw [Oper.semAt_eq _ _ _ (fun c h => by cases h)]; go_simp; try go_bits))
          refine ⟨SAME.out _ TW8.out, F8, ?_, nw8, T8, ?_, ?_⟩
          · rw [E.out]; exact A8
          · rw [E.out]; exact HR2
          · rw [opL_yes ht hkP]
            have e : (!(opL P m k ++ [k]).isEmpty) = true := by simp
            rw [e]
            exact b98
        · have E : Hid (run d (opk P d m (k + 1)) = r) := OKK.out
          have E0 := Lib.hid hr2
          clear hr2
          have d0 : (r.2 != 0) = true := by simpa using E0.out
          have n4G : Hid (¬ F8 x4) := fun h => by
            rcases nw8.out _ h with h | h
            · exact n4.out (.inl h)
            · have := ORD.out; omega
          have n5G : Hid (¬ F8 x5) := fun h => by
            rcases nw8.out _ h with h | h
            · exact n5.out (.inl h)
            · have := ORD.out; omega
          have k4b := Lib.hid (blk_touch T8.out r4.out n4.out)
          have k5b := Lib.hid (blk_touch T8.out r5.out n5.out)
          have k4 := blk_cell k4b.out 0
          have k5 := blk_cell k5b.out 0
          have f4 := blk_free k4b.out 0
          have f5 := blk_free k5b.out 0
          simp only [List.getElem?_toArray, List.getElem?_cons_zero] at k4 k5
          have RR := Lib.hid (open_stop hk ht hkP (by rw [E.out]; exact E0.out))
          rw [E.out] at RR
          have X4 : Hid (((w8.setCell ⟨x4, 0, none⟩ (.pointer none)).setCell ⟨x5, 0, none⟩ (.int .i64 r.2)).heap[x4]? = some (.cells #[.pointer none] 24 (0, 0))) := by
            have := blk_set k4b.out 0 (.pointer none)
            exact (Below.heap_setCell _ _ _ x4 n45).trans this
          have X5 : Hid (((w8.setCell ⟨x4, 0, none⟩ (.pointer none)).setCell ⟨x5, 0, none⟩ (.int .i64 r.2)).heap[x5]? = some (.cells #[.int .i64 r.2] 38 (0, 0))) := by
            have h5 : (w8.setCell ⟨x4, 0, none⟩ (.pointer none)).heap[x5]? = some (.cells #[.int .i64 0] 38 (0, 0)) := (Below.heap_setCell _ _ _ x5 n54).trans k5b.out
            have := blk_set h5 0 (.int .i64 r.2)
            exact this
          gi_wp2_with ((rw [Oper.semAt_eq _ _ _ (fun c h => by cases h)]; go_simp; try go_bits))
          refine ⟨SAME.out _ ?_, F8, ?_, nw8, ?_, ?_, X4, ?_⟩
          · exact (TW8.out.setCell (p := ⟨x4, 0, none⟩) (.inl (.inr (.inr (.inl rfl)))) _).setCell (p := ⟨x5, 0, none⟩) (.inl (.inr (.inr (.inr rfl)))) _
          · rw [RR.out]; exact A8.out.keep (S := fun j => j = x4 ∨ j = x5) (((Touch.refl (fun j => j = x4 ∨ j = x5) _).setCell (p := ⟨x4, 0, none⟩) (.inl (.inl rfl)) _).setCell (p := ⟨x5, 0, none⟩) (.inl (.inr rfl)) _) (fun j hj e => by rcases e with rfl | rfl; exact n4G.out hj; exact n5G.out hj)
          · exact ((T8.out.mono (fun j _ h => h.imp id .inl)).setCell (p := ⟨x4, 0, none⟩) (.inl (.inr (.inr (.inl rfl)))) _).setCell (p := ⟨x5, 0, none⟩) (.inl (.inr (.inr (.inr rfl)))) _
          · rw [RR.out]; exact E0.out
          · rw [RR.out]; exact X5.out
    · have dk : decide ((P : Int) ≤ (k : Int)) = true := by simp; omega
      gi_wp2_with ((rw [Oper.semAt_eq _ _ _ (fun c h => by cases h)]; go_simp; try go_bits))
      exact ⟨⟨rfl, rfl⟩, F', by rw [opk_no (.inr (by omega))]; exact a, b, c, by rw [opk_no (.inr (by omega))]; exact e, by rw [opL_no (.inr (by omega))]; exact f⟩
  case hdone =>
    rintro W ⟨F', a, b, c, e, f⟩ hK hsz
    have HK := Lib.hid hK
    clear hK
    have n8 : Hid (¬ (F x8 ∨ x8 = x9)) := fun h => by
      have o := ORD.out
      rcases h with h | h
      · have := LTF.out _ h; omega
      · omega
    have nj : Hid (¬ (F gj ∨ gj = x9)) := fun h => by
      have o := ORD.out
      rcases h with h | h
      · have := LTF.out _ h; omega
      · omega
    have JW : Hid (Jb W gj g P) := rj.out.touch c.out nj.out
    have d8 := blk_cell (blk_touch c.out r8.out n8.out) 0
    simp only [List.getElem?_toArray, List.getElem?_cons_zero] at d8
    by_cases hn : opL P m 128 = []
    · have e0 : opk P d m 128 = [] := by unfold opk; rw [hn]; rfl
      have E : Hid ((d, (0 : Int)) = run d (openK P d m)) := by unfold Hid; rw [openK, if_pos hn]; rfl
      rw [e0] at a
      have A : Hid (HasDisk W F' g d) := a.out
      rw [hn] at f
      have k9 := blk_cell f.out 0
      simp at k9
      have k4b := Lib.hid (blk_touch c.out r4.out n4.out)
      have k5b := Lib.hid (blk_touch c.out r5.out n5.out)
      have k4 := blk_cell k4b.out 0
      have k5 := blk_cell k5b.out 0
      have f4 := blk_free k4b.out 0
      have f5 := blk_free k5b.out 0
      simp only [List.getElem?_toArray, List.getElem?_cons_zero] at k4 k5
      clear a e e0 hn
      go_wp2_with fail
      exact FINISH2.out W F' (d, 0) (.pointer (some ⟨gj, 0, none⟩)) _ A.out b.out c.out HK.out E.out (.inl ⟨rfl, rfl⟩) rfl rfl
    · have ft : (!(opL P m 128).isEmpty) = true := by cases h : opL P m 128 with | nil => exact absurd h hn | cons x l => rfl
      rw [ft] at f
      have k9 := blk_cell f.out 0
      simp only [List.getElem?_toArray, List.getElem?_cons_zero] at k9
      have OK : Hid (openK P d m = opk P d m 128 ++ [flushS] ++ ([(0, Dk.sector0)] ++ [flushS])) := by unfold Hid; rw [openK, if_neg hn]
      have OL := opk_len P d m 128
      have F0 : Hid (Fw 0 (run d (opk P d m 128)).1) := fw_run _ (FW.out.mono (by omega))
      have FLU := flushed_run W F' gj g P d (opk P d m 128) _ rfl a.out JW.out F0.out
      rw [e.out] at FLU
      obtain ⟨r1, hr1⟩ : ∃ r, r = run d (opk P d m 128 ++ [flushS]) := ⟨_, rfl⟩
      have F1 : Hid (Fw 2 r1.1) := by unfold Hid; rw [hr1]; exact fw_run _ (FW.out.mono (by rw [List.length_append]; simp; omega))
      rw [← hr1] at FLU
      have HR1 := Lib.hid hr1
      have FL := Lib.hid FLU
      clear FLU hr1 ft hn OL F0
      go_wp2_with fail
      refine FL.out.mono ?_
      rintro e w7 ⟨rfl, F7, ht7⟩
      have nF : Hid (∀ j, j < w6.heap.size → ¬ F j → ¬ F' j) := fun j h1 h2 h => by
        rcases b.out j h with h | h
        · exact h2 h
        · omega
      have T7 : Hid (Touch (fun j => F j ∨ j = x9) w6 w7) := c.out.trans ht7.touch (fun j hj h => by
        rcases b.out j h with h | h
        · exact .inl h
        · omega)
      have SZ : Hid (w6.heap.size ≤ W.heap.size) := c.out.size
      have nw7 : Hid (∀ j, F7 j → F j ∨ w6.heap.size + 2 ≤ j) := fun j hj => by
        rcases ht7.new j hj with h | h
        · exact b.out j h
        · exact .inr (by omega)
      have hK7 : Hid (w7.heap[w6.heap.size]? = some (.deferred (some []))) := blk_touch ht7.touch HK.out (fun h => by rcases b.out _ h with h | h; (have := LTF.out _ h; omega); omega)
      have hsz7 : Hid (w6.heap.size + 2 ≤ w7.heap.size) := Nat.le_trans hsz ht7.touch.size
      have A7 : Hid (HasDisk w7 F7 g r1.1) := ht7.has
      have J7 : Hid (Jb w7 gj g P) := rj.out.touch T7.out nj.out
      have d87 := blk_cell (blk_touch T7.out r8.out n8.out) 0
      simp only [List.getElem?_toArray, List.getElem?_cons_zero] at d87
      clear ht7 FL d8 SZ nF
      have k4b := Lib.hid (blk_touch T7.out r4.out n4.out)
      have k5b := Lib.hid (blk_touch T7.out r5.out n5.out)
      have k4 := blk_cell k4b.out 0
      have k5 := blk_cell k5b.out 0
      have f4 := blk_free k4b.out 0
      have f5 := blk_free k5b.out 0
      simp only [List.getElem?_toArray, List.getElem?_cons_zero] at k4 k5
      by_cases h1 : r1.2 = 0
      rotate_left
      · have E : Hid (r1 = run d (openK P d m)) := by unfold Hid; rw [OK.out, run_stop (by rw [← HR1.out]; exact h1), ← HR1.out]
        have d0 : (r1.2 != 0) = true := by simpa using h1
        have H1 := Lib.hid h1
        clear h1
        go_wp2_with fail
        exact FINISH2.out w7 F7 r1 (.pointer none) _ A7.out nw7.out T7.out hK7.out E.out (.inr ⟨H1.out, rfl⟩) rfl rfl
      rw [h1]
      have H1 := Lib.hid h1
      clear h1 k4 k5 f4 f5 k4b k5b
      have hmk : ∀ W : World, (Instr.makeSlice 51 (.int .i64 256) (.int .i64 256)).run Try.prog W = .ok (.slice (some ⟨W.heap.size, 0, none⟩) 256 256) (W.alloc (.cells (madeCells #[.int .u8 0] 256) 5)) := by
        intro W
        exact run_make_row' 51 5 (.int .u8 0) 1 Try.underlying51 infoB rfl .i64 .i64 256 (by decide) (by decide) W
      have d87d := cell_below (Below.refl _ w7).drew d87
      have BW : Hid (Below w7.heap.size w7 (w7.alloc (.cells (madeCells #[.int .u8 0] 256) 5)).drew) := ((Below.refl _ w7).alloc (Nat.le_refl _) _).drew
      have d87a := cell_below BW.out d87
      have J7a : Hid (Jb (w7.alloc (.cells (madeCells #[.int .u8 0] 256) 5)).drew gj g P) := J7.out.below BW.out
      obtain ⟨z, hz⟩ : ∃ z, z = Dk.sector0 := ⟨_, rfl⟩
      have hcv : (convert 51 9 (.slice (some ⟨w7.heap.size, 0, none⟩) 256 256)).run Try.prog (w7.alloc (.cells (madeCells #[.int .u8 0] 256) 5)).drew = .ok (.string z) (w7.alloc (.cells (madeCells #[.int .u8 0] 256) 5)).drew := by rw [hz]; exact conv_zero w7.drew 256 w7.heap.size rfl (by decide)
      have ZS : Hid (z.size = 256) := by unfold Hid; rw [hz]; exact Dk.rep_size 256 0
      have HZ := Lib.hid hz
      clear hz
      obtain ⟨re, hre⟩ : ∃ r, r = run r1.1 [(0, z)] := ⟨_, rfl⟩
      have HRE := Lib.hid hre
      have FRE : Hid (Fw 1 re.1) := by unfold Hid; rw [hre]; exact fw_run [_] (F1.out.mono (by simp))
      clear hre
      obtain ⟨rf, hrf⟩ : ∃ r, r = run r1.1 ([(0, z)] ++ [flushS]) := ⟨_, rfl⟩
      have HRF := Lib.hid hrf
      have WR := Lib.hid (write_run (w7.alloc (.cells (madeCells #[.int .u8 0] 256) 5)).drew F7 g r1.1 (A7.out.below BW.out) z (by have := ZS.out; omega) (F1.out.mono (by omega)) re HRE.out)
      have T7a : Hid (Touch (fun j => F j ∨ j = x9) w6 (w7.alloc (.cells (madeCells #[.int .u8 0] 256) 5)).drew) := T7.out.trans (Touch.of_below BW.out : Touch (fun _ => False) w7 _) (fun _ _ x => x.elim)
      have hK7a : Hid ((w7.alloc (.cells (madeCells #[.int .u8 0] 256) 5)).drew.heap[w6.heap.size]? = some (.deferred (some []))) := (BW.out.block _ (by have := hsz7.out; omega)).trans hK7.out
      have hsz7a : Hid (w6.heap.size + 2 ≤ (w7.alloc (.cells (madeCells #[.int .u8 0] 256) 5)).drew.heap.size) := Nat.le_trans hsz7.out BW.out.size
      go_wp2_with fail
      refine wp_region_flag (fun w' => w'.cell? ⟨x8, 0, none⟩ = some (.pointer (some ⟨gj, 0, none⟩))) [(1, 1), (0, 2), (2, 0), (3, 0), (4, 0), (5, 0), (6, 1)] (by kernel_rfl) (by kernel_rfl) d87d ?_
      simp only [ordered, List.map_cons, List.map_nil, List.getD_cons_zero, List.getD_cons_succ]
      repeat (refine wpF_dry (fun K hK => ?_); go_simp; refine hK _ ?_; clear hK K)
      refine wpF_read (.pointer (some ⟨gj, 0, none⟩)) rfl (fun w' hS => by obtain s1 := hS; go_simp) (fun K hK => ?_)
      go_simp
      refine hK _ ?_
      clear hK K
      refine wpF_do ?_
      go_wp2_with fail
      refine ⟨d87a, ?_⟩
      refine wpF_do ?_
      go_wp2_with fail
      refine ⟨d87a, ?_⟩
      refine wpF_do ?_
      go_wp2_with fail
      refine WR.out.mono ?_
      rintro e w10 ⟨rfl, F10, ht10⟩
      have T10 : Hid (Touch (fun j => F j ∨ j = x9) w6 w10) := T7a.out.trans ht10.touch (fun j hj h => by
        rcases nw7.out j h with h | h
        · exact .inl h
        · omega)
      have nw10 : Hid (∀ j, F10 j → F j ∨ w6.heap.size + 2 ≤ j) := fun j hj => by
        rcases ht10.new j hj with h | h
        · exact nw7.out j h
        · have := hsz7a.out; exact .inr (by omega)
      have hK10 : Hid (w10.heap[w6.heap.size]? = some (.deferred (some []))) := blk_touch ht10.touch hK7a.out (fun h => by rcases nw7.out _ h with h | h; (have := LTF.out _ h; omega); omega)
      have hsz10 : Hid (w6.heap.size + 2 ≤ w10.heap.size) := Nat.le_trans hsz7a.out ht10.touch.size
      have A10 : Hid (HasDisk w10 F10 g re.1) := ht10.has
      have J10 : Hid (Jb w10 gj g P) := rj.out.touch T10.out nj.out
      have d810 := blk_cell (blk_touch T10.out r8.out n8.out) 0
      simp only [List.getElem?_toArray, List.getElem?_cons_zero] at d810
      have FL := Lib.hid (flushed_run w10 F10 gj g P r1.1 [(0, z)] re HRE.out A10.out J10.out (FRE.out.mono (by omega)))
      rw [← hrf] at FL
      clear ht10 WR d87 d87a d87d hrf hcv hmk
      go_wp2_with fail
      refine ⟨d810, ?_⟩
      refine wpF_do ?_
      go_wp2_with fail
      refine FL.out.mono ?_
      rintro e w11 ⟨rfl, F11, ht11⟩
      have T11 : Hid (Touch (fun j => F j ∨ j = x9) w6 w11) := T10.out.trans ht11.touch (fun j hj h => by
        rcases nw10.out j h with h | h
        · exact .inl h
        · omega)
      have nw11 : Hid (∀ j, F11 j → F j ∨ w6.heap.size + 2 ≤ j) := fun j hj => by
        rcases ht11.new j hj with h | h
        · exact nw10.out j h
        · have := hsz10.out; exact .inr (by omega)
      have hK11 : Hid (w11.heap[w6.heap.size]? = some (.deferred (some []))) := blk_touch ht11.touch hK10.out (fun h => by rcases nw10.out _ h with h | h; (have := LTF.out _ h; omega); omega)
      have hsz11 : Hid (w6.heap.size + 2 ≤ w11.heap.size) := Nat.le_trans hsz10.out ht11.touch.size
      have A11 : Hid (HasDisk w11 F11 g rf.1) := ht11.has
      have J11 : Hid (Jb w11 gj g P) := rj.out.touch T11.out nj.out
      have d811 := blk_cell (blk_touch T11.out r8.out n8.out) 0
      simp only [List.getElem?_toArray, List.getElem?_cons_zero] at d811
      clear ht11 FL d810
      go_wp2_with fail
      refine ⟨d811, ?_⟩
      repeat (refine wpF_dry (fun K hK => ?_); go_simp; refine hK _ ?_; clear hK K)
      refine wpF_nil ?_
      have k4b := Lib.hid (blk_touch T11.out r4.out n4.out)
      have k5b := Lib.hid (blk_touch T11.out r5.out n5.out)
      have k4 := blk_cell k4b.out 0
      have k5 := blk_cell k5b.out 0
      have f4 := blk_free k4b.out 0
      have f5 := blk_free k5b.out 0
      simp only [List.getElem?_toArray, List.getElem?_cons_zero] at k4 k5
      have E : Hid (rf = run d (openK P d m)) := by unfold Hid; rw [OK.out, run_go (by rw [← HR1.out]; exact H1.out), ← HR1.out, ← HZ.out, ← HRF.out]
      by_cases h2 : rf.2 = 0
      · have H2 := Lib.hid h2
        rw [h2]
        clear h2
        go_wp2_with fail
        have X := fun tmps => FINISH2.out w11 F11 rf (.pointer (some ⟨gj, 0, none⟩)) tmps A11.out nw11.out T11.out hK11.out E.out (.inl ⟨H2.out, rfl⟩)
        rw [H2.out] at X
        exact X _ rfl rfl
      · have H2 := Lib.hid h2
        have d0 : (rf.2 != 0) = true := by simpa using h2
        clear h2
        go_wp2_with fail
        exact FINISH2.out w11 F11 rf (.pointer none) _ A11.out nw11.out T11.out hK11.out E.out (.inr ⟨H2.out, rfl⟩) rfl rfl
  
  case hstop =>
    rintro W ⟨F', a, b, c, e, f, f2⟩ hK
    exact FINISH.out W F' _ _ _ a.out b.out c.out hK f.out f2.out rfl (.inr ⟨e.out, rfl⟩) rfl rfl
end Go.Proofs.Ytoolkamajlgcbaa
/- JnQp: disks without a fuse, new disks: in plain words. -/
set_option linter.unusedVariables false
set_option linter.unusedSimpArgs false
namespace Go.Proofs.Ytoolkamajlgcbaa
open Go.RowKit
/-- How many writes there are. -/
def nwr (l : List Stp) : Nat := (l.filter (fun x => decide (0 ≤ x.1))).length
theorem nwr_append (a b : List Stp) : nwr (a ++ b) = nwr a + nwr b := by unfold nwr; rw [List.filter_append, List.length_append]
structure Calm (d : Dk) : Prop where
  ok : d.Ok
  fuse : d.fuse = 0
  up : d.down = false
theorem step_calm {d : Dk} (h : Calm d) {x : Stp} (hx : Can d.l.length x) : stepE d x = 0 ∧ Calm (step d x) ∧ (step d x).writes = d.writes + (nwr [x] : Nat) ∧ (step d x).l.length = d.l.length := by
  rcases step_shape h.ok hx with ⟨h1, _, _⟩ | ⟨h1, h2, h3, h4, h5⟩
  · rw [h.up] at h1; exact absurd h1 (by decide)
  · refine ⟨h2, ?_, ?_, h4⟩
    · refine ⟨step_ok h.ok x, ?_, ?_⟩
      · unfold step
        split
        · unfold Dk.flush; split; exact h.fuse; exact h.fuse
        · unfold Dk.write; split
          · show (if 0 < d.fuse then d.fuse - 1 else d.fuse) = 0
            rw [h.fuse]; rfl
          · exact h.fuse
      · unfold step
        split
        · unfold Dk.flush; split; exact h.up; exact h.up
        · unfold Dk.write; split
          · show (if 0 < d.fuse then (d.fuse - 1 == 0) else d.down) = false
            rw [h.fuse, h.up]; rfl
          · exact h.up
    · unfold step stepE at *
      by_cases h0 : x.1 < 0
      · rw [if_pos h0]
        have : nwr [x] = 0 := by unfold nwr; rw [List.filter_cons_of_neg (by simpa using h0)]; rfl
        rw [this]
        unfold Dk.flush; split
        · show d.writes = _; omega
        · omega
      · rw [if_neg h0] at h2 ⊢
        have : nwr [x] = 1 := by unfold nwr; rw [List.filter_cons_of_pos (by simp; omega)]; rfl
        rw [this]
        unfold Dk.write
        rw [if_pos h2]
        rfl
theorem run_calm : ∀ (l : List Stp) {d : Dk}, Calm d → (∀ x ∈ l, Can d.l.length x) → (run d l).2 = 0 ∧ Calm (run d l).1 ∧ (run d l).1.writes = d.writes + (nwr l : Nat) ∧ (run d l).1.l.length = d.l.length
  | [], d, h, _ => ⟨rfl, h, by show d.writes = d.writes + ((0 : Nat) : Int); omega, rfl⟩
  | x :: l, d, h, hc => by
    obtain ⟨h1, h2, h3, h4⟩ := step_calm h (hc x (List.mem_cons_self ..))
    rw [run_cons, if_pos h1]
    obtain ⟨k1, k2, k3, k4⟩ := run_calm l h2 (fun y hy => by rw [h4]; exact hc y (List.mem_cons_of_mem _ hy))
    refine ⟨k1, k2, ?_, by rw [k4, h4]⟩
    rw [k3, h3, show x :: l = [x] ++ l from rfl, nwr_append]
    omega
theorem laid_can {n : Nat} {q : Nat} {s : ByteArray} (hs : s.size = 1024) (hq : q + 4 ≤ n) : ∀ x ∈ laid (q : Int) s, Can n x := fun x hx => by
  obtain ⟨j, hj, rfl⟩ := layK_mem hx
  exact .inr ⟨by simp only; omega, cut4_size hs hj⟩
theorem laid_nwr (q : Nat) (s : ByteArray) : nwr (laid (q : Int) s) = 4 := by
  unfold nwr
  rw [List.filter_eq_self.2, laid_len]
  intro x hx
  obtain ⟨j, hj, rfl⟩ := layK_mem hx
  simp only [decide_eq_true_eq]
  omega
theorem flushS_nwr : nwr [flushS] = 0 := rfl
theorem zero_nwr (s : ByteArray) : nwr [(0, s)] = 1 := rfl
theorem calm_new {n : Nat} (h1 : 1 ≤ n) (h2 : n ≤ 2048) : Calm (Dk.new n) := ⟨Dk.Ok.new n h1 h2, rfl, rfl⟩
theorem read_new {n : Nat} {i : Int} (h0 : 0 ≤ i) (h1 : i < (n : Int)) : (Dk.new n).read i = (Dk.sector0, 0) := by
  have hu : (Dk.new n).use i = 0 := by unfold Dk.use; rw [if_neg (show ¬ (Dk.new n).down = true from fun h => by cases h), if_neg (by simp [Dk.new]; omega)]
  unfold Dk.read
  rw [if_pos hu]
  show (Dk.look i [] ((List.replicate n Dk.sector0).getD i.toNat ByteArray.empty), (0 : Int)) = _
  rw [Dk.look, List.getD_eq_getElem?_getD, List.getElem?_eq_getElem (by simp; omega), List.getElem_replicate]
  rfl
theorem told_zero (i : Nat) : told Dk.sector0 i = false := by
  unfold told
  have : (Dk.sector0.data.toList.getD (i / 8) 0) = 0 := by
    show ((List.replicate 256 (0 : UInt8)).getD (i / 8) 0) = 0
    rw [List.getD_eq_getElem?_getD, List.getElem?_replicate]
    split <;> rfl
  rw [this]
  simp
theorem opL_zero (P k : Nat) : opL P Dk.sector0 k = [] := by
  unfold opL
  rw [List.filter_eq_nil_iff]
  intro i _
  rw [told_zero, Bool.and_false]
  decide
theorem openK_zero (P : Nat) (d : Dk) : openK P d Dk.sector0 = [] := by unfold openK; rw [if_pos (opL_zero P 128)]
theorem page_new {n p : Nat} (hp : p + 4 ≤ n) : pageB (Dk.new n) (p : Int) = Dk.rep 1024 0 := by
  have h : ∀ k : Nat, k ≤ 4 → rdK (Dk.new n) p k = List.replicate (256 * k) 0
    := fun k => by
    induction k with
    | zero => intro _; rfl
    | succ k ih =>
      intro hk
      rw [rdK, ih (by omega), read_new (by omega) (by omega)]
      show List.replicate (256 * k) 0 ++ List.replicate 256 (0 : UInt8) = _
      rw [List.replicate_append_replicate, show 256 * k + 256 = 256 * (k + 1) by omega]
  unfold pageB
  rw [h 4 (Nat.le_refl _)]
  rfl
theorem sto_new {P n : Nat} (h1 : 1 ≤ n) (h2 : n ≤ 2048) (h : 8 * P + 1 ≤ n) : Sto P (Dk.new n) := ⟨Dk.Ok.new n h1 h2, sz_new n, by simpa [Dk.new] using h, rfl⟩
theorem perm_one {α : Type} {l : List α} {x : α} (h : l.Perm [x]) : l = [x] := List.perm_singleton.1 h
end Go.Proofs.Ytoolkamajlgcbaa
