/- JpO: the argument of JournalPlays laid open; the law's light. -/
import Derived.Test.YtpaabfadniakoaaMp22
set_option linter.unusedVariables false
set_option linter.unusedSimpArgs false
namespace Go.Proofs.Ytpaabfadniakoaa
open Go.RowKit Go.ChangeShapes Go.WideShapes Go.ChangeAt Go.Deep

structure JOp where
  kind : Int
  n : Int
  puts : List PutM
  picks : List Bool
  vp : Value
  vk : Value
structure JOpAt (w : World) (o : JOp) : Prop where
  puts : RdPutV w o.vp o.puts
  picks : RdB w o.vk o.picks
  n : o.n ≤ 9223372036854775807
def JOp.cells (o : JOp) : List Value := [.int .i64 o.kind, .int .i64 o.n, o.vp, o.vk]
def RdJOps (w : World) (v : Value) (l : List JOp) : Prop := (∃ A c, v = .slice A l.length c ∧ l.length ≤ c ∧ c ≤ 9223372036854775807 ∧ (0 < l.length → ∃ b off, A = some ⟨b, off, none⟩ ∧ ∀ i (h : i < l.length),
  w.cell? ⟨b, off + i * 4, none⟩ = some (.int .i64 l[i].kind) ∧ w.cell? ⟨b, off + i * 4 + 1, none⟩ = some (.int .i64 l[i].n) ∧ w.cell? ⟨b, off + i * 4 + 2, none⟩ = some l[i].vp ∧ w.cell? ⟨b, off + i * 4 + 3, none⟩ = some l[i].vk)) ∧ ∀ o ∈ l, JOpAt w o

section
variable {H : Type} {enc : TypeId × Value → H} {W : World} {base : Nat} {held : Bool}
set_option maxRecDepth 100000 in
theorem cells_jop {fuel : Nat} {cs : List Value} {x : DataW H × List MemPlace} (h : DataW.trod enc Try.prog W base (fun _ => true) held fuel 61 cs = some x) :
    ∃ o : JOp, cs = o.cells ∧ JOpAt W o := by
  obtain ⟨xs, n, _, _, hlen, hxs, hf⟩ := DataW.trod_struct Try.underlying61 h
  have c5 : Try.prog.cellsOf 61 = 4 := by kernel_rfl
  have ci : Try.prog.cellsOf 3 = 1 := by kernel_rfl
  have cp : Try.prog.cellsOf 36 = 1 := by kernel_rfl
  have cb : Try.prog.cellsOf 50 = 1 := by kernel_rfl
  rw [c5] at hlen
  match xs, hxs, cs, hlen with
  | [y0, y1, y2, y3], _, [a0, a1, a2, a3], _ =>
    have h0 : DataW.trod enc Try.prog W base (fun _ => true) held n 3 (([a0, a1, a2, a3].drop 0).take (Try.prog.cellsOf 3)) = some y0 := hf 0 _ rfl
    have h1 : DataW.trod enc Try.prog W base (fun _ => true) held n 3 (([a0, a1, a2, a3].drop 1).take (Try.prog.cellsOf 3)) = some y1 := hf 1 _ rfl
    have h2 : DataW.trod enc Try.prog W base (fun _ => true) held n 36 (([a0, a1, a2, a3].drop 2).take (Try.prog.cellsOf 36)) = some y2 := hf 2 _ rfl
    have h3 : DataW.trod enc Try.prog W base (fun _ => true) held n 50 (([a0, a1, a2, a3].drop 3).take (Try.prog.cellsOf 50)) = some y3 := hf 3 _ rfl
    rw [ci] at h0 h1
    rw [cp] at h2
    rw [cb] at h3
    simp only [List.drop_zero, List.drop_succ_cons, List.take_succ_cons, List.take_zero] at h0 h1 h2 h3
    obtain ⟨p, e0, _, _⟩ := DataW.trod_int Try.underlying3 h0
    obtain ⟨q, e1, _, w1⟩ := DataW.trod_int Try.underlying3 h1
    simp only [List.cons.injEq, and_true] at e0 e1
    subst e0 e1
    obtain ⟨l2, r2⟩ := cells_puts h2
    obtain ⟨_, _, _, l3, _, _, r3⟩ := cells_bools h3
    have b1 : q ≤ 9223372036854775807 := by simp [Lit.wf, IntKind.min, IntKind.max, IntKind.signed, IntKind.bits] at w1; omega
    exact ⟨⟨p, q, l2, l3, a2, a3⟩, rfl, r2, r3, b1⟩
set_option maxRecDepth 100000 in
theorem cells_jops {fuel : Nat} {v : Value} {x : DataW H × List MemPlace} (hf : DataW.trod enc Try.prog W base (fun _ => true) held fuel 54 [v] = some x) : ∃ l, RdJOps W v l := by
  have c5 : Try.prog.cellsOf 61 = 4 := by kernel_rfl
  rcases open_slice Try.underlying54 hf with ⟨hcs, _⟩ | ⟨a, len, cap, m, n, D, Pl, hcs, _, hl, hm, hmm, _, hx⟩
  · simp at hcs
    subst hcs
    exact ⟨[], ⟨none, 0, rfl, Nat.le_refl _, by decide, fun h => by simp at h⟩, fun o h => by simp at h⟩
  · simp at hcs hmm
    subst hcs
    subst hmm
    obtain ⟨f, hf⟩ := @choose_lt JOp ⟨⟨0, 0, [], [], .slice none 0 0, .slice none 0 0⟩⟩ m (fun i o => W.cell? (a.add (i * 4)) = some (.int .i64 o.kind) ∧ W.cell? (a.add (i * 4 + 1)) = some (.int .i64 o.n) ∧ W.cell? (a.add (i * 4 + 2)) = some o.vp ∧ W.cell? (a.add (i * 4 + 3)) = some o.vk ∧ JOpAt W o) (fun i hi => by
      obtain ⟨cs', h1, h2⟩ := hx i hi
      obtain ⟨o, rfl, hat⟩ := cells_jop h2
      rw [c5] at h1
      obtain ⟨_, _, hc⟩ := World.cells?_some h1
      have g0 := hc 0 (by decide)
      have g1 := hc 1 (by decide)
      have g2 := hc 2 (by decide)
      have g3 := hc 3 (by decide)
      rw [Go.Deep.add_add] at g0 g1 g2 g3
      exact ⟨o, g0, g1, g2, g3, hat⟩)
    refine ⟨(List.range len).map f, ⟨some a, m, by simp, by simpa using hl, by simp [maxLen] at hm; omega, fun hp => ?_⟩, fun o ho => ?_⟩
    · simp at hp
      obtain ⟨z, _⟩ := hf 0 (by omega)
      have ha := plain_addr (by simpa using z)
      refine ⟨a.block, a.off, by rw [← ha], fun i hi => ?_⟩
      simp at hi
      obtain ⟨g0, g1, g2, g3, _⟩ := hf i (by omega)
      have := And.intro g0 (And.intro g1 (And.intro g2 g3))
      rw [ha] at this
      simp only [Addr.add_lit, ← Nat.add_assoc] at this
      simpa using this
    · obtain ⟨i, hi, rfl⟩ := List.mem_map.1 ho
      exact (hf i (by have := List.mem_range.1 hi; omega)).2.2.2.2
set_option maxRecDepth 100000 in
theorem open_jops {v : Value} {d : DataW H} {ps : List MemPlace} {r : World} (hv : Value.okWide Try.prog r .any base 54 v) (h : DataW.Trod enc Try.prog W 0 (fun _ => true) held 54 v d ps) : ∃ l, RdJOps W v l := by
  obtain ⟨a0, len0, cap0, rfl⟩ := okWide_slice Try.underlying54 hv
  obtain ⟨fuel, hf⟩ := h
  exact cells_jops (W := W) (by simpa [Value.cells] using hf)
end
set_option maxRecDepth 100000 in
theorem light_any (w : World) (k n : Int) (A1 A2 : Option Addr) (n1 n2 c1 c2 : Nat) : Calls Try.prog 26 #[.agg #[.int .i64 k, .int .i64 n, .slice A1 n1 c1, .slice A2 n2 c2]] w fun e w' =>
    e = .returned (.bool (decide (n2 ≤ 300) && decide (n1 ≤ 100))) ∧ Below w.heap.size w w' := by
  have b0 : Hid (∀ o, Below w.heap.size w (w.alloc o)) := fun o => (Below.refl _ w).alloc (Nat.le_refl _) _
  have e1 : decide ((n2 : Int) ≤ 300) = decide (n2 ≤ 300) := by rw [decide_eq_decide]; omega
  have e2 : decide ((n1 : Int) ≤ 100) = decide (n1 ≤ 100) := by rw [decide_eq_decide]; omega
  by_cases h : n2 ≤ 300
  · have d1 : decide (n2 ≤ 300) = true := by simpa using h
    have d1' : decide ((n2 : Int) ≤ 300) = true := by rw [e1]; exact d1
    clear h e1
    go_enter Try.func26, Try.ntmps26
    go_wp2
    go_ret
    exact ⟨by first | rfl | (rw [d1]; rfl) | simp_all, b0.out _⟩
  · have d1 : decide (n2 ≤ 300) = false := by simpa using h
    have d1' : decide ((n2 : Int) ≤ 300) = false := by rw [e1]; exact d1
    clear h e1
    go_enter Try.func26, Try.ntmps26
    go_wp2
    go_ret
    exact ⟨by first | rfl | (rw [d1]; rfl) | simp_all, b0.out _⟩
end Go.Proofs.Ytpaabfadniakoaa
/- JpI: the two disks of JournalPlays: the program's and the document's, in its box. -/
set_option linter.unusedVariables false
set_option linter.unusedSimpArgs false
namespace Go.Proofs.Ytpaabfadniakoaa
open Go.RowKit

structure Pl2 (w : World) (P g bx : Nat) (W : World) (d e : Dk) (F G : Nat → Prop) (vl vw : Value) (gj : Nat) : Prop where
  disk : HasDisk W F g d
  ref : RefAt W G e vl vw
  box : BxD W bx e vl vw
  jb : Jb W gj g P
  dis : ∀ k, F k → ¬ G k
  fb : ¬ F bx
  gb : ¬ G bx
  fj : ¬ F gj
  fw : ∀ k, F k → w.heap.size ≤ k
  bw : w.heap.size ≤ bx
  bel : Below w.heap.size w W
section
variable {w W W2 : World} {P g bx gj : Nat} {d e d2 e2 : Dk} {F G F2 G2 : Nat → Prop} {vl vw vl2 vw2 : Value}
theorem Pl2.below (h : Pl2 w P g bx W d e F G vl vw gj) (hb : Below W.heap.size W W2) : Pl2 w P g bx W2 d e F G vl vw gj :=
  ⟨h.disk.below hb, h.ref.below hb, h.box.below hb, h.jb.below hb, h.dis, h.fb, h.gb, h.fj, h.fw, h.bw, h.bel.trans (hb.mono h.bel.size)⟩
theorem bx_ne {o1 o2 : Nat} (h : BxD W bx e vl vw) (j : Jb W gj g P) : bx ≠ gj := fun x => by
  subst x
  unfold BxD at h
  unfold Jb at j
  rw [h] at j
  simp at j
theorem Pl2.doc (h : Pl2 w P g bx W d e F G vl vw gj) (t : RTo W G e2 W2 G2 vl2 vw2) :
    Pl2 w P g bx (set5 W2 bx vl2 vw2 (.int .i64 e2.fuse) (.int .i64 e2.writes) (.bool e2.down)) d e2 F G2 vl2 vw2 gj := by
  have h2 := h.below t.bel
  have ht : Touch (fun k => k = bx) W2 (set5 W2 bx vl2 vw2 (.int .i64 e2.fuse) (.int .i64 e2.writes) (.bool e2.down)) := set5_touch (Touch.refl _ _) rfl
  have hlt := lt_of_block h.box
  have hg : ∀ k, G2 k → G k ∨ W.heap.size ≤ k := t.new
  have hgb : ¬ G2 bx := fun x => (hg bx x).elim h.gb (fun y => by omega)
  exact ⟨h2.disk.keep ht (fun k hk e => h.fb (by rw [← e]; exact hk)), t.has.keep ht (fun k hk e => hgb (by rw [← e]; exact hk)), set5_blk h2.box, h2.jb.touch ht (fun e => bx_ne (o1 := 0) (o2 := 0) h.box h.jb e.symm),
    fun k hk hG => (hg k hG).elim (h.dis k hk) (fun y => by have := h.disk.lt k hk; omega), h.fb, hgb, h.fj, h.fw, h.bw, set5_below h2.bel h.bw⟩
theorem Pl2.prog (h : Pl2 w P g bx W d e F G vl vw gj) (t : DTo W F g d2 W2 F2) : Pl2 w P g bx W2 d2 e F2 G vl vw gj := by
  have hlt := lt_of_block h.box
  have hj := lt_of_block h.jb
  exact ⟨t.has, h.ref.keep t.touch (fun k hk hF => h.dis k hF hk), blk_touch t.touch h.box h.fb, h.jb.touch t.touch h.fj,
    fun k hk hG => (t.new k hk).elim (fun x => h.dis k x hG) (fun y => by have := h.ref.lt k hG; omega), fun x => (t.new bx x).elim h.fb (fun y => by omega), h.gb, fun x => (t.new gj x).elim h.fj (fun y => by omega),
    fun k hk => (t.new k hk).elim (h.fw k) (fun y => Nat.le_trans h.bel.size y), h.bw, h.bel.trans (t.touch.below h.bel.size h.fw)⟩
theorem Pl2.journal {gk : Nat} (h : Pl2 w P g bx W d e F G vl vw gj) (hj : Jb W gk g P) (hf : ¬ F gk) : Pl2 w P g bx W d e F G vl vw gk :=
  ⟨h.disk, h.ref, h.box, hj, h.dis, h.fb, h.gb, hf, h.fw, h.bw, h.bel⟩
/-- Of the program's own doing: the box alone is touched besides the disk's. -/
theorem RefAt.same (h : RefAt W G e vl vw) (hl : e2.l = e.l) (hw : e2.waits = e.waits) (hok : e2.Ok) : RefAt W G e2 vl vw :=
  ⟨by rw [hl]; exact h.own, by rw [hw]; exact h.ownW, h.fl, h.fw, h.lt, hok, fun x => h.nil (by rw [← hw]; exact x)⟩
end
/-- What holds of each disk of a store of P pages. -/
structure Dd (P : Nat) (d : Dk) : Prop where
  sz : Sz d
  len : d.l.length = 8 * P + 1
theorem step_length (d : Dk) (x : Stp) : (step d x).l.length = d.l.length := by
  unfold step
  split
  · unfold Dk.flush
    split
    · exact Dk.settle_length ..
    · rfl
  · unfold Dk.write
    split <;> rfl
theorem run_length : ∀ (l : List Stp) (d : Dk), (run d l).1.l.length = d.l.length
  | [], d => rfl
  | x :: l, d => by
    rw [run_cons]
    split
    · rw [run_length l, step_length]
    · exact step_length d x
theorem Dd.run {P : Nat} {d : Dk} (h : Dd P d) (l : List Stp) : Dd P (run d l).1 := ⟨sz_run l h.sz, by rw [run_length, h.len]⟩
theorem Dd.fuse {P : Nat} {d : Dk} (h : Dd P d) (n : Int) : Dd P (d.setFuse n) := ⟨sz_fuse h.sz n, by unfold Dk.setFuse; split <;> exact h.len⟩
theorem Dd.again {P : Nat} {d : Dk} (h : Dd P d) (p : List Bool) : Dd P (d.fail p).start := ⟨sz_start (sz_fail h.sz p), by rw [(fail_start d p).2]; show (Dk.settle _ 0 d.waits d.l).length = _; rw [Dk.settle_length]; exact h.len⟩
theorem Dd.coto {P : Nat} {d d' : Dk} {l : List (Int × ByteArray)} {x : Int} (h : Dd P d) (hc : CoTo P d l x d') : Dd P d' := by
  cases hc with
  | why _ => exact h
  | down _ _ => exact h
  | none _ _ _ => exact h
  | run _ _ _ M _ _ => exact h.run _
theorem rfailD_no (d : Dk) (p : List Bool) : rfailD d p false = d.fail p := by
  unfold rfailD Dk.fail
  rw [if_neg (by decide)]
  congr
/-- A commit of the program's is the document's. -/
theorem coto_doc {P : Nat} {d d' : Dk} {ch : List (Int × ByteArray)} {x : Int} (h : CoTo P d ch x d') (hw : whyE P ch = 0) (hd : d.down = false) (hn : ch ≠ []) :
    x = (run d (docC P ch (mkB (ordM P ch)))).2 ∧ d' = (run d (docC P ch (mkB (ordM P ch)))).1 := by
  have he := why_each hw
  have hp0 : ((ordM P ch).map upc).Perm ch := ord_perm (fun c hc => by have := he c hc; omega)
  cases h with
  | why h => exact absurd hw h
  | down _ h => rw [hd] at h; exact absurd h (by decide)
  | none _ _ h => exact absurd h hn
  | run _ _ _ M hM hp =>
    have e : M = ordM P ch := sorted_one hM (ord_ord P ch) hp hp0 (List.Perm.refl ch) (why_ok hw).2.1
    rw [docC_commit hw (ord_ord P ch) hp0, e]
    exact ⟨rfl, rfl⟩
theorem coto_why {P : Nat} {d d' : Dk} {ch : List (Int × ByteArray)} {x : Int} (h : CoTo P d ch x d') (hw : whyE P ch ≠ 0) : x = whyE P ch ∧ d' = d := by
  cases h with
  | why h => exact ⟨rfl, rfl⟩
  | down h _ => exact absurd h hw
  | none h _ _ => exact absurd h hw
  | run h _ _ M hM hp => exact absurd h hw
theorem coto_down {P : Nat} {d d' : Dk} {ch : List (Int × ByteArray)} {x : Int} (h : CoTo P d ch x d') (hw : whyE P ch = 0) (hd : d.down = true) : x = 10 ∧ d' = d := by
  cases h with
  | why h => exact absurd hw h
  | down _ _ => exact ⟨rfl, rfl⟩
  | none _ h _ => rw [hd] at h; exact absurd h (by decide)
  | run _ h _ M hM hp => rw [hd] at h; exact absurd h (by decide)
theorem coto_nil {P : Nat} {d d' : Dk} {x : Int} (h : CoTo P d [] x d') (hd : d.down = false) : x = 0 ∧ d' = d := by
  cases h with
  | why h => exact absurd rfl h
  | down _ h => rw [hd] at h; exact absurd h (by decide)
  | none _ _ _ => exact ⟨rfl, rfl⟩
  | run _ _ h M hM hp => exact absurd rfl h
theorem docC_len {P : Nat} (hP : P ≤ 128) {ch : List (Int × ByteArray)} (hw : whyE P ch = 0) : (docC P ch (mkB (ordM P ch))).length = 8 * ch.length + 6 := by
  have he := why_each hw
  have hp0 : ((ordM P ch).map upc).Perm ch := ord_perm (fun c hc => by have := he c hc; omega)
  rw [docC_commit hw (ord_ord P ch) hp0, commitK_len, ← hp0.length_eq, List.length_map]
theorem docC_sizes {P : Nat} {ch : List (Int × ByteArray)} (hw : whyE P ch = 0) : ∀ x ∈ docC P ch (mkB (ordM P ch)), x.2.size ≤ 100000 := by
  have he := why_each hw
  have hp0 : ((ordM P ch).map upc).Perm ch := ord_perm (fun c hc => by have := he c hc; omega)
  rw [docC_commit hw (ord_ord P ch) hp0]
  intro x hx
  unfold commitK at hx
  simp only [List.mem_append, List.mem_singleton] at hx
  rcases hx with (((hx | rfl) | (rfl | rfl)) | (hx | rfl)) | (rfl | rfl)
  · rcases stepsA_can (n := 8 * P + 1) (fun c hc => commit_mem hw hp0 c hc) (Nat.le_refl _) x hx with h | ⟨_, h⟩
    · obtain ⟨c, _, j, _, rfl⟩ := steps_mem (q := fun i => i) hx
      simp only at h
      omega
    · omega
  · exact Nat.zero_le _
  · rw [show (mkB (ordM P ch)).size = 256 from mkB_size _]; decide
  · exact Nat.zero_le _
  · rcases stepsB_can (n := 8 * P + 1) (fun c hc => commit_mem hw hp0 c hc) (Nat.le_refl _) x hx with h | ⟨_, h⟩
    · obtain ⟨c, _, j, _, rfl⟩ := steps_mem (q := fun i => P + i) hx
      simp only at h
      omega
    · omega
  · exact Nat.zero_le _
  · show Dk.sector0.size ≤ _
    rw [show Dk.sector0.size = 256 from Dk.rep_size 256 0]; decide
  · exact Nat.zero_le _
end Go.Proofs.Ytpaabfadniakoaa
/- JpJ: the walk of the law JournalPlays (written by gen_jplays.py). -/
set_option linter.unusedVariables false
set_option linter.unusedSimpArgs false
namespace Go.Proofs.Ytpaabfadniakoaa
open Go.RowKit

theorem set5_new {w : World} {a b c d e : Value} (x1 x2 x3 x4 x5 : Value) : (set5 (w.alloc (.cells #[x1, x2, x3, x4, x5] 57)) w.heap.size a b c d e).heap[w.heap.size]? = some (.cells #[a, b, c, d, e] 57 (0, 0)) := set5_blk (blk_new w _)
theorem set5_ne {w : World} {g b : Nat} {a1 a2 a3 a4 a5 : Value} (h : b ≠ g) : (set5 w g a1 a2 a3 a4 a5).heap[b]? = w.heap[b]? := by
  unfold set5
  rw [blk_set_ne (fun e => h e.symm), blk_set_ne (fun e => h e.symm), blk_set_ne (fun e => h e.symm), blk_set_ne (fun e => h e.symm), blk_set_ne (fun e => h e.symm)]
theorem openK_can {P : Nat} {d : Dk} (h : Sto P d) (m : ByteArray) : ∀ x ∈ openK P d m, Can d.l.length x := fun x hx => by
  unfold openK at hx
  split at hx
  · cases hx
  · simp only [List.mem_append, List.mem_singleton] at hx
    rcases hx with (hx | rfl) | (rfl | rfl)
    · exact (opk_mem h hx).1
    · exact .inl (by decide)
    · exact .inr ⟨by have := h.big; simp only; omega, Dk.rep_size 256 0⟩
    · exact .inl (by decide)
set_option maxHeartbeats 12800000 in
set_option maxRecDepth 100000 in
theorem journalPlays_walk (w : World) (p : Int) (_w : (Lit.int .i64 p).wf = true) (v : Value) (l : List JOp) (hv : RdJOps w v l) :
    Calls Try.prog 6 #[.int .i64 p, v] w fun e w' => e = .returned (.bool true) ∧ Below w.heap.size w w' := by
  clear _w
  obtain ⟨⟨A, c, rfl, hc1, hc2, hrd⟩, hops⟩ := hv
  by_cases hp : p < 1 ∨ 6 < p
  · have hex : decide (p < 1) = true ∨ (decide (p < 1) = false ∧ decide (6 < p) = true) := by
      by_cases h0 : p < 1
      · exact .inl (by simpa using h0)
      · exact .inr ⟨by simpa using h0, by simp; omega⟩
    clear hp
    rcases hex with d1 | ⟨d1, d2⟩
    all_goals
      go_enter Try.func6, Try.ntmps6
      go_wp2_with fail
      refine (jlives_any _).mono ?_
      rintro e w9 ⟨rfl, b9⟩
      have B9 := Lib.hid b9
      clear b9
      go_wp2
      go_ret
      exact ⟨rfl, B9.out⟩
  · obtain ⟨P, rfl⟩ := Int.eq_ofNat_of_zero_le (show 0 ≤ p by omega)
    have HP : Hid (1 ≤ P ∧ P ≤ 6) := by unfold Hid; omega
    have dp1 : decide ((P : Int) < 1) = false := by simp; omega
    have dp2 : decide (6 < (P : Int)) = false := by simp; omega
    have dp2' : decide (6 < P) = false := by simp; omega
    have dp1' : decide (P < 1) = false := by simp; omega
    have HOPS := Lib.hid hops; have HRD := Lib.hid hrd
    have RN := fun W => Lib.hid (rneed_any W (P : Int))
    obtain ⟨n, hnn⟩ : ∃ n : Nat, n = 8 * P + 1 := ⟨_, rfl⟩
    have HN : Hid (n = 8 * P + 1) := hnn
    have hneed : needN (P : Int) = (n : Int) := by unfold needN; rw [if_neg (by omega)]; omega
    rw [hneed] at RN
    have n1 : 1 ≤ n := by omega
    have n2 : n ≤ 2048 := by omega
    clear hp hops hrd hnn hneed
    go_enter Try.func6, Try.ntmps6
    go_wp2_with fail
    refine (RN _).out.mono ?_
    rintro e w' ⟨rfl, rfl⟩
    have NEW := Lib.hid (new_h w n n1 n2)
    go_wp2_with fail
    refine NEW.out.mono ?_
    rintro e w1 ⟨g, F, rfl, hd, hF, b1⟩
    have HD := Lib.hid hd; have HF := Lib.hid hF; have B1 := Lib.hid b1
    clear hd hF b1 NEW
    go_wp2_with fail
    refine (RN _).out.mono ?_
    rintro e w' ⟨rfl, rfl⟩
    have NEW := Lib.hid (rnew_yes w1 n n1 n2)
    unfold refV at NEW
    go_wp2_with fail
    refine NEW.out.mono ?_
    rintro e w2 ⟨G, vl, rfl, hr, hG, b2⟩
    obtain ⟨A0, c0, rfl⟩ := own_slice hr.own
    have HR := Lib.hid hr; have HG := Lib.hid hG
    have HD2 := Lib.hid (HD.out.below b2)
    have B2 : Hid (Below w.heap.size w w2) := B1.out.trans (b2.mono B1.out.size)
    have FG : Hid (∀ k, F k → ¬ G k) := fun k hk hg => by have := HD.out.lt k hk; have := hG k hg; omega
    have hl0 : (Dk.new n).l.length = n := by simp [Dk.new]
    have D0 : Hid (Dd P (Dk.new n)) := ⟨sz_new n, by rw [hl0, HN.out]⟩
    have F0 : Hid (Fw 32000 (Dk.new n)) := ⟨by simp [Dk.new], by simp [Dk.new]⟩
    have OK0 : Hid (Dk.new n).Ok := Dk.Ok.new n n1 n2
    have UP0 : Hid ((Dk.new n).down = false ∧ (Dk.new n).fuse = 0) := ⟨rfl, rfl⟩
    have R0 : Hid (Rest P (Dk.new n)) := by rw [HN.out]; exact rest_new (by have := HP.out; omega)
    clear hr hG b2 NEW hl0
    generalize hDn : Dk.new n = d0 at HR HD2 D0 F0 OK0 UP0 R0 ⊢
    clear hDn
    obtain ⟨W3, hW3⟩ : ∃ W3, W3 = w2.alloc (.cells #[.slice A0 d0.l.length c0, .slice none 0 0, .int .i64 d0.fuse, .int .i64 d0.writes, .bool d0.down] 57) := ⟨_, rfl⟩
    have Q3 : Hid (Below w2.heap.size w2 W3) := by rw [hW3]; exact (Below.refl w2.heap.size w2).alloc (Nat.le_refl _) _
    have X3 : Hid (BxD W3 w2.heap.size d0 (.slice A0 d0.l.length c0) (.slice none 0 0)) := by rw [hW3]; exact blk_new w2 _
    have OP := Lib.hid (open_any W3 F g P d0 (HD2.out.below Q3.out) R0.out.sto HP.out.1 (by have := HP.out; omega) (F0.out.mono (by omega)))
    unfold OpenTo at OP
    rw [rest_open R0.out, hW3] at OP
    go_wp2_with fail
    refine OP.out.mono ?_
    rw [← hW3]
    rintro e w4 ⟨v4, F4, rfl, t4, hv4⟩
    rw [if_pos (by trivial)] at hv4
    obtain ⟨gj, rfl, hj4, hnj, _⟩ := hv4
    have S4 : Hid (Pl2 w P g w2.heap.size w4 d0 d0 F4 G (.slice A0 d0.l.length c0) (.slice none 0 0) gj) := by
      have hFb : ¬ F w2.heap.size := fun h => by have := HD2.out.lt _ h; omega
      have hGb : ¬ G w2.heap.size := fun h => by have := HR.out.lt _ h; omega
      have hb3 : w2.heap.size < W3.heap.size := lt_of_block X3.out
      have hF2 : ∀ k, F4 k → F k ∨ W3.heap.size ≤ k := t4.new
      exact ⟨t4.has, (HR.out.below Q3.out).keep t4.touch (fun k hk hf => FG.out k hf hk), blk_touch t4.touch X3.out hFb, hj4,
        fun k hk hg => (hF2 k hk).elim (fun x => FG.out k x hg) (fun y => by have := HR.out.lt k hg; omega), fun h => (hF2 _ h).elim hFb (fun y => by omega), hGb, hnj,
        fun k hk => (hF2 k hk).elim (HF.out k) (fun y => by have := B2.out.size; omega), B2.out.size,
        (B2.out.trans (Q3.out.mono B2.out.size)).trans (t4.touch.below (Nat.le_trans B2.out.size Q3.out.size) HF.out)⟩
    have BXW : Hid (w.heap.size ≤ w2.heap.size) := B2.out.size
    clear t4 hj4 hnj OP HD HF B1 HD2 B2 FG OK0 UP0 R0 HR HG Q3 X3 hW3
    generalize w2.heap.size = bx at S4 BXW ⊢
    go_wp2_with fail
    go_loopw [9, 11] (fun jv iv wr => ∃ (i : Nat) (d : Dk) (F G : Nat → Prop) (vl vw : Value) (gj : Nat), i ≤ 30 ∧ i ≤ l.length ∧ iv = .int .i64 i ∧ jv = .pointer (some ⟨gj, 0, none⟩) ∧ Hid (Pl2 w P g bx wr d d F G vl vw gj) ∧ Hid (Dd P d) ∧ Hid (Fw (1000 * (31 - i)) d)) (fun _ iv _ => 30 - (intOf iv).toNat)
    case atStart => exact ⟨0, d0, F4, G, _, _, gj, by decide, Nat.zero_le _, rfl, rfl, S4, D0, F0.out.mono (by decide)⟩
    case round =>
      obtain ⟨i, d, F, G, vl, vw, gj, h30, hil, rfl, rfl, hS, hD, hW⟩ := hrel
      clear S4 D0 F0
      by_cases hlt : i < l.length
      · by_cases h30' : i < 30
        · have hil' : i + 1 ≤ l.length := hlt
          have hlt30 : decide ((i : Int) < 30) = true := by simp; omega
          obtain ⟨b, off, e1, hcs⟩ := HRD.out (by omega)
          subst e1
          obtain ⟨z0, z1, z2, z3⟩ := hcs i hlt
          replace z0 := cell_below hS.out.bel z0; replace z1 := cell_below hS.out.bel z1; replace z2 := cell_below hS.out.bel z2; replace z3 := cell_below hS.out.bel z3
          have HO := HOPS.out l[i] (List.getElem_mem _)
          generalize l[i] = o at z0 z1 z2 z3 HO
          clear hcs
          obtain ⟨kind, on, puts, picks, vp, vk⟩ := o
          simp only at z0 z1 z2 z3
          obtain ⟨hpu, hpk, hon⟩ := HO
          simp only at hpu hpk hon
          obtain ⟨Ap, cp, rfl, hp1, hp2, hp3⟩ := hpu
          have HPK := Lib.hid hpk
          obtain ⟨_, Ak, ck, rfl, hk1, hk2, _⟩ := hpk
          have HPU := Lib.hid hp3; have HON := Lib.hid hon
          obtain ⟨W1, hW1⟩ : ∃ W1, W1 = wr.alloc (.cells #[.int .i64 kind, .int .i64 on, .slice Ap puts.length cp, .slice Ak picks.length ck] 61) := ⟨_, rfl⟩
          have Q1 : Hid (Below wr.heap.size wr W1) := by rw [hW1]; exact (Below.refl _ wr).alloc (Nat.le_refl _) _
          have g1 : W1.heap[wr.heap.size]? = some (.cells #[.int .i64 kind, .int .i64 on, .slice Ap puts.length cp, .slice Ak picks.length ck] 61 (0, 0)) := by rw [hW1]; exact blk_new wr _
          have hbo : bx < wr.heap.size := lt_of_block hS.out.box
          have LG := light_any W1 kind on Ap Ak puts.length picks.length cp ck
          have c0 := blk_cell g1 0; have c1 := blk_cell g1 1; have c2 := blk_cell g1 2; have c3 := blk_cell g1 3
          simp only [List.getElem?_toArray, List.getElem?_cons_zero, List.getElem?_cons_succ] at c0 c1 c2 c3
          rw [hW1] at LG
          have LGh := Lib.hid LG
          have S1 := Lib.hid (hS.out.below Q1.out)
          clear LG hp3 hon hp1 hp2 hk1 hk2
          obtain ⟨lb, hlb⟩ : ∃ lb, lb = (decide (picks.length ≤ 300) && decide (puts.length ≤ 100)) := ⟨_, rfl⟩
          rw [← hlb] at LGh
          go_wp2_with fail
          refine LGh.out.mono ?_
          rw [← hW1]
          rintro e w5 ⟨rfl, q5⟩
          have U5 := Lib.hid (S1.out.below q5)
          have KO : Hid (∀ W, Touch (fun k => k = bx) w5 W → W.cell? ⟨wr.heap.size, 0, none⟩ = some (.int .i64 kind) ∧ W.cell? ⟨wr.heap.size, 1, none⟩ = some (.int .i64 on) ∧ W.cell? ⟨wr.heap.size, 2, none⟩ = some (.slice Ap puts.length cp) ∧ W.cell? ⟨wr.heap.size, 3, none⟩ = some (.slice Ak picks.length ck)) := fun W ht => by
            have hb : W.heap[wr.heap.size]? = some _ := blk_touch ht ((q5.block _ (lt_of_block g1)).trans g1) (by omega)
            have d0 := blk_cell hb 0; have d1 := blk_cell hb 1; have d2 := blk_cell hb 2; have d3 := blk_cell hb 3
            simp only [List.getElem?_toArray, List.getElem?_cons_zero, List.getElem?_cons_succ] at d0 d1 d2 d3
            exact ⟨d0, d1, d2, d3⟩
          have HBO := Lib.hid hbo; have HLB := Lib.hid hlb
          clear LGh q5 hW1 Q1 g1 S1 hbo hlb c0 c1 c2 c3 z0 z1 z2 z3 hS
          generalize wr.heap.size = bo at KO HBO ⊢
          obtain ⟨k0, k1, k2, k3⟩ := KO.out w5 (Touch.refl _ _)
          cases lb with
          | false =>
            go_wp2_with fail
            refine (jlives_any _).mono ?_
            rintro e w9 ⟨rfl, b9⟩
            have B9 : Hid (Below w.heap.size w w9) := U5.out.bel.trans (b9.mono U5.out.bel.size)
            clear b9
            go_wp2
            go_ret
            exact ⟨rfl, B9.out⟩
          | true =>
            have hplen : puts.length ≤ 100 ∧ picks.length ≤ 300 := by
              have := HLB.out
              simp at this
              omega
            have hFr : Hid (1000 * (31 - i) ≥ 1000 + 1000 * (31 - (i + 1))) := by unfold Hid; omega
            by_cases ek0 : kind = 0
            · subst ek0
              go_wp2_with fail
              refine (changes_any w5 Ap cp puts (rdPut_below HPU.out U5.out.bel) (by omega)).mono ?_
              rintro e w6 ⟨va, vb, rfl, ha, hb, q6⟩
              obtain ⟨A1, c1, rfl⟩ := own_slice ha
              obtain ⟨A2, c2, rfl⟩ := own_slice hb
              have CZ := Lib.hid (chK_size (l := puts) (k := 12))
              have CN : (chK puts 12).length ≤ 12 := by unfold chK; rw [List.length_map, List.length_take]; omega
              generalize chK puts 12 = ch at ha hb CZ CN ⊢
              have RC1 : Hid (RdC w6 A1 ch) := rdC_own ha
              have RCB : Hid (∀ b off, A1 = some ⟨b, off, none⟩ → b ≠ bx) := fun b off e1 => by
                subst e1
                have := (ha.lt b rfl).1
                have := lt_of_block U5.out.box
                omega
              have RC2 : Hid (RdC w6 A2 ch) := rdC_gen hb
              have U6 := Lib.hid (U5.out.below q6)
              have WHY := Lib.hid (rwhy_any w6 P (by have := HP.out; omega) A2 c2 ch RC2.out (by omega) (fun x hx => by have := CZ.out x hx; omega))
              clear ha hb q6 k0 k1 k2 k3
              go_wp2_with fail
              refine WHY.out.mono ?_
              rintro e w7 ⟨rfl, q7⟩
              have U7 := Lib.hid (U6.out.below q7)
              have Q67 := Lib.hid q7
              clear q7 WHY
              obtain ⟨b0, b1, b2, b3, b4⟩ := U7.out.box.cells
              by_cases hy : whyE P ch = 0
              · rw [hy]
                by_cases hd : d.down = true
                · have HDN := Lib.hid hd
                  rw [hd] at b4
                  have FW9 : Hid (Fw (1000 * (31 - (i + 1))) d) := hW.out.mono (by have := hFr.out; omega)
                  have DD9 := hD
                  have HY := Lib.hid hy
                  clear hd hy
                  have CO := Lib.hid (commit_any w7 F gj g P d U7.out.disk U7.out.jb U7.out.fj (by have := HP.out; omega) A1 c1 ch (RC1.out.below Q67.out) (by omega) (fun x hx => by have := CZ.out x hx; omega) (hW.out.mono (by omega)))
                  go_wp2_with fail
                  refine CO.out.mono ?_
                  rintro e w20 ⟨x20, d20, F20, rfl, hco, t20⟩
                  obtain ⟨rfl, rfl⟩ := coto_down hco HY.out HDN.out
                  have U8 := Lib.hid (U7.out.prog t20)
                  clear t20 hco CO b0 b1 b2 b3 b4
                  have SM := Lib.hid (jsame_any w20 _ _ g d20 _ _ U8.out.disk U8.out.ref (by have := FW9.out.w; omega))
                  unfold refV at SM
                  obtain ⟨b0, b1, b2, b3, b4⟩ := U8.out.box.cells
                  go_wp2_with fail
                  refine SM.out.mono ?_
                  rintro e w99 ⟨rfl, q99⟩
                  have S99 := Lib.hid (U8.out.below q99)
                  clear SM q99
                  clear b0 b1 b2 b3 b4
                  go_wp2
                  go_roundw
                  case rel => first | exact ⟨i + 1, _, _, _, _, _, gj, h30', hil', by go_num, rfl, S99, DD9, FW9⟩ | ((repeat apply Exists.intro); refine ⟨?_, rfl⟩; exact ⟨i + 1, _, _, _, _, _, gj, h30', hil', by go_num, rfl, S99, DD9, FW9⟩)
                  case measure => simp [intOf]; omega
                · have hd0 : d.down = false := by simpa using hd
                  have HDN := Lib.hid hd0
                  rw [hd0] at b4
                  by_cases hn : ch = []
                  · subst hn
                    have FW9 : Hid (Fw (1000 * (31 - (i + 1))) d) := hW.out.mono (by have := hFr.out; omega)
                    have DD9 := hD
                    clear hd hd0 hy
                    have CO := Lib.hid (commit_any w7 F gj g P d U7.out.disk U7.out.jb U7.out.fj (by have := HP.out; omega) A1 c1 [] (RC1.out.below Q67.out) (by omega) (fun x hx => by have := CZ.out x hx; omega) (hW.out.mono (by omega)))
                    go_wp2_with fail
                    refine CO.out.mono ?_
                    rintro e w20 ⟨x20, d20, F20, rfl, hco, t20⟩
                    obtain ⟨rfl, rfl⟩ := coto_nil hco HDN.out
                    have U8 := Lib.hid (U7.out.prog t20)
                    clear t20 hco CO b0 b1 b2 b3 b4
                    have SM := Lib.hid (jsame_any w20 _ _ g d20 _ _ U8.out.disk U8.out.ref (by have := FW9.out.w; omega))
                    unfold refV at SM
                    obtain ⟨b0, b1, b2, b3, b4⟩ := U8.out.box.cells
                    go_wp2_with fail
                    refine SM.out.mono ?_
                    rintro e w99 ⟨rfl, q99⟩
                    have S99 := Lib.hid (U8.out.below q99)
                    clear SM q99
                    clear b0 b1 b2 b3 b4
                    go_wp2
                    go_roundw
                    case rel => first | exact ⟨i + 1, _, _, _, _, _, gj, h30', hil', by go_num, rfl, S99, DD9, FW9⟩ | ((repeat apply Exists.intro); refine ⟨?_, rfl⟩; exact ⟨i + 1, _, _, _, _, _, gj, h30', hil', by go_num, rfl, S99, DD9, FW9⟩)
                    case measure => simp [intOf]; omega
                  · have hcl : 0 < ch.length := List.length_pos_iff.2 hn
                    have hcl2 : decide (0 < ch.length) = true := by simpa using hcl
                    have hcl3 : decide ((0 : Int) < (ch.length : Int)) = true := by simp; omega
                    have HNN := Lib.hid hn; have HY := Lib.hid hy
                    have he := why_each hy
                    have hp0 : ((ordM P ch).map upc).Perm ch := ord_perm (fun c hc => by have := he c hc; omega)
                    have U7d := Lib.hid (U7.out.below (Below.refl _ w7).drew)
                    have RCM := Lib.hid (rcommit_any w7.drew P (by have := HP.out; omega) A2 c2 ch ((RC2.out.below Q67.out).below (Below.refl _ w7).drew) CN hy (ordM P ch) hp0)
                    have DL := Lib.hid (docC_len (by have := HP.out; omega) hy)
                    have DS := Lib.hid (docC_sizes hy)
                    have CD := fun x d' (h : CoTo P d ch x d') => Lib.hid (coto_doc h hy hd0 hn)
                    obtain ⟨S0, hS0⟩ : ∃ S0, S0 = docC P ch (mkB (ordM P ch)) := ⟨_, rfl⟩
                    rw [← hS0] at RCM DL DS CD
                    have RR := fun W v (hb : Below w7.drew.heap.size w7.drew W) (hs : StepsAt W w7.drew.heap.size v S0) => Lib.hid (rrun_any W G d vl vw (U7d.out.ref.below hb) w7.drew.heap.size v S0 hs (by rw [DL.out]; omega) (hW.out.mono (by rw [DL.out]; omega)) DS.out)
                    have FW9 : Hid (Fw (1000 * (31 - (i + 1))) (run d S0).1) := fw_run _ (hW.out.mono (by rw [DL.out]; have := hFr.out; omega))
                    have DD9 : Hid (Dd P (run d S0).1) := hD.out.run _
                    obtain ⟨D9, hD9⟩ : ∃ D9, D9 = (run d S0).1 := ⟨_, rfl⟩
                    obtain ⟨x9, hx9⟩ : ∃ x9, x9 = (run d S0).2 := ⟨_, rfl⟩
                    rw [← hD9] at FW9 DD9 RR CD
                    rw [← hx9] at RR CD
                    unfold refV at RR
                    have hxx : (x9 != x9) = false := by simp
                    obtain ⟨y0, y1, y2, y3, y4⟩ := U7d.out.box.cells
                    clear hn hy he hp0 hS0 hD9 hx9 hd hd0
                    go_wp2_with fail
                    refine wp_region_tail (fun w' => w'.cell? ⟨bx, 0, none⟩ = some vl ∧ w'.cell? ⟨bx, 1, none⟩ = some vw ∧ w'.cell? ⟨bx, 2, none⟩ = some (.int .i64 d.fuse) ∧ w'.cell? ⟨bx, 3, none⟩ = some (.int .i64 d.writes) ∧ w'.cell? ⟨bx, 4, none⟩ = some (.bool d.down)) [(1, 1), (2, 1), (0, 2), (3, 0), (4, 0), (5, 1), (6, 1), (7, 1)] [8, 9] (by kernel_rfl) (by kernel_rfl) ⟨y0, y1, y2, y3, y4⟩ ?_
                    repeat (refine wpT_dry (fun K hK => ?_); go_simp; refine hK _ ?_; clear hK K)
                    refine wpT_read (.agg #[vl, vw, .int .i64 d.fuse, .int .i64 d.writes, .bool d.down]) rfl (fun w' hS => by obtain ⟨s1, s2, s3, s4, s5⟩ := hS; go_simp) (fun K hK => ?_)
                    go_simp
                    refine hK _ ?_
                    clear hK K
                    refine wpT_do ?_
                    go_wp2_with fail
                    refine RCM.out.mono ?_
                    rintro e w8 ⟨v8, rfl, hs8, q8⟩
                    have RR8 := RR w8 v8 q8 hs8
                    have U8 := Lib.hid (U7d.out.below q8)
                    have Q8 := Lib.hid q8
                    clear hs8 q8 RR RCM y0 y1 y2 y3 y4 b0 b1 b2 b3 b4
                    obtain ⟨y0, y1, y2, y3, y4⟩ := U8.out.box.cells
                    go_wp2_with fail
                    refine ⟨⟨y0, y1, y2, y3, y4⟩, ?_⟩
                    refine wpT_do ?_
                    go_wp2_with fail
                    refine RR8.out.mono ?_
                    rintro e w9 ⟨G9, vl9, vw9, rfl, t9⟩
                    obtain ⟨A5, q5, rfl⟩ := own_slice t9.has.own
                    obtain ⟨A6, q6, rfl⟩ := own_slice t9.has.ownW
                    have U9 := Lib.hid (U8.out.below t9.bel)
                    have U10' := Lib.hid (U8.out.doc t9)
                    have Q9 := Lib.hid t9.bel
                    clear RR8 y0 y1 y2 y3 y4
                    obtain ⟨y0, y1, y2, y3, y4⟩ := U9.out.box.cells
                    have r1 := U9.out.box; have f0 := blk_free r1 0; have f1 := blk_free r1 1; have f2 := blk_free r1 2; have f3 := blk_free r1 3; have f4 := blk_free r1 4
                    obtain ⟨W10, hW10⟩ : ∃ W10, W10 = set5 w9 bx (.slice A5 D9.l.length q5) (.slice A6 D9.waits.length q6) (.int .i64 D9.fuse) (.int .i64 D9.writes) (.bool D9.down) := ⟨_, rfl⟩
                    have U10 : Hid (Pl2 w P g bx W10 d D9 F G9 (.slice A5 D9.l.length q5) (.slice A6 D9.waits.length q6) gj) := by rw [hW10]; exact U10'
                    have RC10 : Hid (RdC W10 A1 ch) := by
                      have h9 : RdC w9 A1 ch := (((RC1.out.below Q67.out).below (Below.refl _ w7).drew).below Q8.out).below Q9.out
                      intro hp
                      obtain ⟨b, off, e1, hc⟩ := h9 hp
                      have hb : b ≠ bx := RCB.out b off e1
                      refine ⟨b, off, e1, fun j hj => ?_⟩
                      rw [hW10]
                      exact ⟨(World.cell?_of_block (set5_ne hb)).trans (hc j hj).1, (World.cell?_of_block (set5_ne hb)).trans (hc j hj).2⟩
                    unfold set5 at hW10
                    clear t9 U10'
                    go_wp2_with fail
                    refine ⟨⟨y0, y1, y2, y3, y4⟩, ?_⟩
                    repeat (refine wpT_dry (fun K hK => ?_); go_simp; refine hK _ ?_; clear hK K)
                    refine wpT_tail ?_
                    refine wpE_do ?_
                    go_wp2_with fail
                    refine ⟨trivial, ?_⟩
                    refine wpE_do ?_
                    go_wp2_with fail
                    refine ⟨trivial, ?_⟩
                    refine wpE_nil ?_
                    rw [← hW10]
                    clear hW10 y0 y1 y2 y3 y4 f0 f1 f2 f3 f4 r1 U7 U7d U8 U9
                    have CO := Lib.hid (commit_any W10 F gj g P d U10.out.disk U10.out.jb U10.out.fj (by have := HP.out; omega) A1 c1 ch RC10.out (by omega) (fun x hx => by have := CZ.out x hx; omega) (hW.out.mono (by omega)))
                    go_wp2_with fail
                    refine CO.out.mono ?_
                    rintro e w20 ⟨x20, d20, F20, rfl, hco, t20⟩
                    obtain ⟨rfl, rfl⟩ := (CD _ _ hco).out
                    have U20 := Lib.hid (U10.out.prog t20)
                    clear t20 hco CO CD
                    have SM := Lib.hid (jsame_any w20 _ _ g d20 _ _ U20.out.disk U20.out.ref (by have := FW9.out.w; omega))
                    unfold refV at SM
                    obtain ⟨b0, b1, b2, b3, b4⟩ := U20.out.box.cells
                    go_wp2_with fail
                    refine SM.out.mono ?_
                    rintro e w99 ⟨rfl, q99⟩
                    have S99 := Lib.hid (U20.out.below q99)
                    clear SM q99
                    clear b0 b1 b2 b3 b4
                    go_wp2
                    go_roundw
                    case rel => first | exact ⟨i + 1, _, _, _, _, _, gj, h30', hil', by go_num, rfl, S99, DD9, FW9⟩ | ((repeat apply Exists.intro); refine ⟨?_, rfl⟩; exact ⟨i + 1, _, _, _, _, _, gj, h30', hil', by go_num, rfl, S99, DD9, FW9⟩)
                    case measure => simp [intOf]; omega
              · have dwy : (whyE P ch == 0) = false := by simpa using hy
                have dxx : (whyE P ch != whyE P ch) = false := by simp
                have FW9 : Hid (Fw (1000 * (31 - (i + 1))) d) := hW.out.mono (by have := hFr.out; omega)
                have DD9 := hD
                have HY := Lib.hid hy
                clear hy
                have CO := Lib.hid (commit_any w7 F gj g P d U7.out.disk U7.out.jb U7.out.fj (by have := HP.out; omega) A1 c1 ch (RC1.out.below Q67.out) (by omega) (fun x hx => by have := CZ.out x hx; omega) (hW.out.mono (by omega)))
                go_wp2_with fail
                refine CO.out.mono ?_
                rintro e w20 ⟨x20, d20, F20, rfl, hco, t20⟩
                obtain ⟨rfl, rfl⟩ := coto_why hco HY.out
                have U8 := Lib.hid (U7.out.prog t20)
                clear t20 hco CO b0 b1 b2 b3 b4
                have SM := Lib.hid (jsame_any w20 _ _ g d20 _ _ U8.out.disk U8.out.ref (by have := FW9.out.w; omega))
                unfold refV at SM
                obtain ⟨b0, b1, b2, b3, b4⟩ := U8.out.box.cells
                go_wp2_with fail
                refine SM.out.mono ?_
                rintro e w99 ⟨rfl, q99⟩
                have S99 := Lib.hid (U8.out.below q99)
                clear SM q99
                clear b0 b1 b2 b3 b4
                go_wp2
                go_roundw
                case rel => first | exact ⟨i + 1, _, _, _, _, _, gj, h30', hil', by go_num, rfl, S99, DD9, FW9⟩ | ((repeat apply Exists.intro); refine ⟨?_, rfl⟩; exact ⟨i + 1, _, _, _, _, _, gj, h30', hil', by go_num, rfl, S99, DD9, FW9⟩)
                case measure => simp [intOf]; omega
            · have dk0 : (kind == 0) = false := by simpa using ek0
              clear ek0
              by_cases ek1 : kind = 1
              · subst ek1
                have RF := Lib.hid (rfuse_any w5 G d vl vw U5.out.ref on)
                unfold refV at RF
                obtain ⟨b0, b1, b2, b3, b4⟩ := U5.out.box.cells
                have FW9 : Hid (Fw (1000 * (31 - (i + 1))) (d.setFuse on)) := fw_fuse (hW.out.mono (by have := hFr.out; omega)) on
                have DD9 : Hid (Dd P (d.setFuse on)) := hD.out.fuse on
                have OK9 : Hid (d.setFuse on).Ok := U5.out.ref.ok.setFuse on HON.out
                have LW : Hid ((d.setFuse on).l = d.l ∧ (d.setFuse on).waits = d.waits) := by unfold Hid Dk.setFuse; split <;> exact ⟨rfl, rfl⟩
                go_wp2_with fail
                refine RF.out.mono ?_
                rintro e w6 ⟨rfl, q6⟩
                have U6 := Lib.hid (U5.out.below q6)
                have t6 : RTo w5 G (d.setFuse on) w6 G vl vw := RTo.self (U5.out.ref.same LW.out.1 LW.out.2 OK9.out) q6
                have U7 := Lib.hid (U5.out.doc t6)
                obtain ⟨A3, q3, rfl⟩ := own_slice U5.out.ref.own
                obtain ⟨A4, q4, rfl⟩ := own_slice U5.out.ref.ownW
                clear b0 b1 b2 b3 b4 k0 k1 k2 k3 RF
                obtain ⟨b0, b1, b2, b3, b4⟩ := U6.out.box.cells
                have r1 := U6.out.box; have f0 := blk_free r1 0; have f1 := blk_free r1 1; have f2 := blk_free r1 2; have f3 := blk_free r1 3; have f4 := blk_free r1 4
                have kk := KO.out _ ((Touch.of_below (Below.mono q6 (Nat.le_refl _)) : Touch (fun k => k = bx) w5 w6).trans (set5_touch (S := fun k => k = bx) (g := bx) (a := .slice A3 d.l.length q3) (b := .slice A4 d.waits.length q4) (c := .int .i64 (d.setFuse on).fuse) (d := .int .i64 (d.setFuse on).writes) (e := .bool (d.setFuse on).down) (Touch.refl _ _) rfl) (fun _ _ h => h))
                unfold set5 at kk
                obtain ⟨k0, k1, k2, k3⟩ := kk
                have FH := Lib.hid (fuse_h U7.out.disk on HON.out)
                unfold set5 at FH
                clear q6 t6
                go_wp2_with fail
                refine FH.out.mono ?_
                rintro e w8 ⟨rfl, F8, t8⟩
                have U8 := Lib.hid (U7.out.prog t8)
                clear t8 FH b0 b1 b2 b3 b4 f0 f1 f2 f3 f4 r1 k0 k1 k2 k3
                have SM := Lib.hid (jsame_any w8 _ _ g (d.setFuse on) _ _ U8.out.disk U8.out.ref (by have := FW9.out.w; omega))
                unfold refV at SM
                obtain ⟨b0, b1, b2, b3, b4⟩ := U8.out.box.cells
                go_wp2_with fail
                refine SM.out.mono ?_
                rintro e w99 ⟨rfl, q99⟩
                have S99 := Lib.hid (U8.out.below q99)
                clear SM q99
                clear b0 b1 b2 b3 b4
                go_wp2
                go_roundw
                case rel => first | exact ⟨i + 1, _, _, _, _, _, gj, h30', hil', by go_num, rfl, S99, DD9, FW9⟩ | ((repeat apply Exists.intro); refine ⟨?_, rfl⟩; exact ⟨i + 1, _, _, _, _, _, gj, h30', hil', by go_num, rfl, S99, DD9, FW9⟩)
                case measure => simp [intOf]; omega
              · have dk1 : (kind == 1) = false := by simpa using ek1
                clear ek1
                by_cases ek2 : kind = 2
                · subst ek2
                  have UPd : Hid ((d.fail picks).start.down = false ∧ (d.fail picks).start.fuse = 0 ∧ (d.fail picks).start.Ok) := by
                    have ok := (U5.out.ref.ok.fail picks).start
                    rw [(fail_start d picks).2] at ok
                    unfold Hid
                    rw [(fail_start d picks).2]
                    exact ⟨rfl, rfl, ok⟩
                  have LWd : Hid ((d.fail picks).start.l = (d.fail picks).l ∧ (d.fail picks).start.waits = (d.fail picks).waits) := by unfold Hid; rw [(fail_start d picks).2]; exact ⟨rfl, rfl⟩
                  have DD4 : Hid (Dd P (d.fail picks).start) := hD.out.again picks
                  have FW4 : Hid (Fw (1000 * (31 - i)) (d.fail picks).start) := fw_again hW.out picks
                  have RF := Lib.hid (rfail_any w5 G d vl vw U5.out.ref (by have := hW.out.w; omega) Ak ck picks (HPK.out.touch (Touch.of_below U5.out.bel : Touch (fun _ => False) w w5) (fun _ _ _ x => x)) false)
                  rw [rfailD_no] at RF
                  have FH0 := fun W (hd : HasDisk W F g d) (hb : Below w.heap.size w W) => Lib.hid (fail_h hd (by have := hW.out.w; omega) (.slice Ak picks.length ck) picks (HPK.out.touch (Touch.of_below hb : Touch (fun _ => False) w W) (fun _ _ _ x => x)) (HPK.out.far (Nat.le_refl _) U5.out.fw))
                  have hfw : (d.fail picks).waits = [] := rfl
                  obtain ⟨df, hdf⟩ : ∃ df, df = d.fail picks := ⟨_, rfl⟩
                  rw [← hdf] at UPd LWd DD4 FW4 RF FH0 hfw
                  have HFW := Lib.hid hfw
                  unfold refV at RF
                  obtain ⟨b0, b1, b2, b3, b4⟩ := U5.out.box.cells
                  clear hdf hfw
                  go_wp2_with fail
                  refine RF.out.mono ?_
                  rintro e w6 ⟨G6, vl6, rfl, t6⟩
                  have U6 := Lib.hid (U5.out.below t6.bel)
                  have U7' := Lib.hid (U5.out.doc t6)
                  obtain ⟨A3, q3, rfl⟩ := own_slice t6.has.own
                  clear b0 b1 b2 b3 b4 k0 k1 k2 k3 RF
                  obtain ⟨b0, b1, b2, b3, b4⟩ := U6.out.box.cells
                  have r1 := U6.out.box; have f0 := blk_free r1 0; have f1 := blk_free r1 1; have f2 := blk_free r1 2; have f3 := blk_free r1 3; have f4 := blk_free r1 4
                  obtain ⟨W7, hW7⟩ : ∃ W7, W7 = set5 w6 bx (.slice A3 df.l.length q3) (.slice none 0 0) (.int .i64 df.fuse) (.int .i64 df.writes) (.bool df.down) := ⟨_, rfl⟩
                  have U7 : Hid (Pl2 w P g bx W7 d df F G6 (.slice A3 df.l.length q3) (.slice none 0 0) gj) := by rw [hW7]; exact U7'
                  have TT7 : Hid (Touch (fun k => k = bx) w5 W7) := by rw [hW7]; exact (Touch.of_below t6.bel : Touch (fun k => k = bx) w5 w6).trans (set5_touch (S := fun k => k = bx) (Touch.refl _ _) rfl) (fun _ _ h => h)
                  unfold set5 at hW7
                  have RS := Lib.hid (rstart_any W7 G6 df _ _ U7.out.ref (by rw [HFW.out]; decide))
                  unfold refV at RS
                  clear t6 U7'
                  go_wp2_with fail
                  rw [← hW7]
                  clear hW7 b0 b1 b2 b3 b4 f0 f1 f2 f3 f4 r1
                  refine RS.out.mono ?_
                  rintro e w8 ⟨rfl, q8⟩
                  have U8 := Lib.hid (U7.out.below q8)
                  have t8 : RTo W7 G6 df.start w8 G6 (.slice A3 df.l.length q3) (.slice none 0 0) := RTo.self (U7.out.ref.same LWd.out.1 LWd.out.2 UPd.out.2.2) q8
                  have U9' := Lib.hid (U7.out.doc t8)
                  obtain ⟨W9, hW9⟩ : ∃ W9, W9 = set5 w8 bx (.slice A3 df.l.length q3) (.slice none 0 0) (.int .i64 df.start.fuse) (.int .i64 df.start.writes) (.bool df.start.down) := ⟨_, rfl⟩
                  have U9 : Hid (Pl2 w P g bx W9 d df.start F G6 (.slice A3 df.l.length q3) (.slice none 0 0) gj) := by rw [hW9]; exact U9'
                  have TT9 : Hid (Touch (fun k => k = bx) w5 W9) := by rw [hW9]; exact (TT7.out.trans (Touch.of_below q8 : Touch (fun k => k = bx) W7 w8) (fun _ _ h => h)).trans (set5_touch (S := fun k => k = bx) (Touch.refl _ _) rfl) (fun _ _ h => h)
                  obtain ⟨b0, b1, b2, b3, b4⟩ := U8.out.box.cells
                  have r1 := U8.out.box; have f0 := blk_free r1 0; have f1 := blk_free r1 1; have f2 := blk_free r1 2; have f3 := blk_free r1 3; have f4 := blk_free r1 4
                  have kk := KO.out W9 TT9.out
                  have FH := FH0 W9 U9.out.disk U9.out.bel
                  unfold set5 at hW9
                  rw [hW9] at kk
                  obtain ⟨k0, k1, k2, k3⟩ := kk
                  clear q8 t8 U9' RS FH0
                  go_wp2_with fail
                  rw [← hW9]
                  clear hW9 b0 b1 b2 b3 b4 f0 f1 f2 f3 f4 r1 k0 k1 k2 k3
                  refine FH.out.mono ?_
                  rintro e w10 ⟨rfl, F10, t10⟩
                  have U10 := Lib.hid (U9.out.prog t10)
                  have SH := Lib.hid (start_h t10.has)
                  clear t10 FH
                  go_wp2_with fail
                  refine SH.out.mono ?_
                  rintro e w11 ⟨rfl, F11, t11⟩
                  have U11 := Lib.hid (U10.out.prog t11)
                  clear t11 SH U10 U9 U8 U7 U6
                  have hlx : df.l = df.start.l := LWd.out.1.symm
                  rw [hlx] at U11
                  clear hlx
                  generalize df.start = d4 at U11 UPd DD4 FW4 LWd
                  have ST : Hid (Sto P d4) := ⟨UPd.out.2.2, DD4.out.sz, by rw [DD4.out.len]; exact Nat.le_refl _, UPd.out.1⟩
                  have RO := Lib.hid (ropen_any w11 G6 d4 _ _ U11.out.ref P ST.out HP.out.1 (by have := HP.out; omega) (FW4.out.mono (by omega)))
                  have R0 : Hid ((run d4 (openK P d4 (d4.read 0).1)).2 = 0) := (run_calm _ ⟨UPd.out.2.2, UPd.out.2.1, UPd.out.1⟩ (openK_can ST.out _)).1
                  have DD9 : Hid (Dd P (run d4 (openK P d4 (d4.read 0).1)).1) := DD4.out.run _
                  have FW9 : Hid (Fw (1000 * (31 - (i + 1))) (run d4 (openK P d4 (d4.read 0).1)).1) := fw_run _ (FW4.out.mono (by have := openK_len P d4 (d4.read 0).1; have := hFr.out; omega))
                  have OPN := fun W (hd : HasDisk W F11 g d4) => Lib.hid (open_any W F11 g P d4 hd ST.out HP.out.1 (by have := HP.out; omega) (FW4.out.mono (by omega)))
                  unfold OpenTo at OPN
                  unfold refV at RO
                  rw [R0.out] at RO OPN
                  generalize (run d4 (openK P d4 (d4.read 0).1)).1 = d9 at RO OPN DD9 FW9
                  clear R0
                  obtain ⟨b0, b1, b2, b3, b4⟩ := U11.out.box.cells
                  go_wp2_with fail
                  refine RO.out.mono ?_
                  rintro e w12 ⟨G12, vl12, vw12, rfl, t12⟩
                  obtain ⟨A5, q5, rfl⟩ := own_slice t12.has.own
                  obtain ⟨A6, q6, rfl⟩ := own_slice t12.has.ownW
                  have U12 := Lib.hid (U11.out.below t12.bel)
                  have U13' := Lib.hid (U11.out.doc t12)
                  have hbx12 : bx < w12.heap.size := lt_of_block U12.out.box
                  have hbx13 : ¬ bx = w12.heap.size := by omega
                  have hbx14 : ¬ w12.heap.size = bx := by omega
                  obtain ⟨W14, hW14⟩ : ∃ W14, W14 = (set5 w12 bx (.slice A5 d9.l.length q5) (.slice A6 d9.waits.length q6) (.int .i64 d9.fuse) (.int .i64 d9.writes) (.bool d9.down)).alloc (.cells #[.slice A5 d9.l.length q5, .slice A6 d9.waits.length q6, .int .i64 d9.fuse, .int .i64 d9.writes, .bool d9.down] 57) := ⟨_, rfl⟩
                  have U14 : Hid (Pl2 w P g bx W14 d4 d9 F11 G12 (.slice A5 d9.l.length q5) (.slice A6 d9.waits.length q6) gj) := by rw [hW14]; exact U13'.out.below ((Below.refl _ _).alloc (Nat.le_refl _) _)
                  have OP := OPN W14 U14.out.disk
                  unfold set5 at hW14
                  clear t12 U13' RO OPN b0 b1 b2 b3 b4
                  obtain ⟨b0, b1, b2, b3, b4⟩ := U12.out.box.cells
                  have r1 := U12.out.box; have e0 := blk_free r1 0; have e1 := blk_free r1 1; have e2 := blk_free r1 2; have e3 := blk_free r1 3; have e4 := blk_free r1 4
                  clear r1
                  go_wp2_with fail
                  rw [← hW14]
                  clear hW14 hbx12 hbx13 hbx14 b0 b1 b2 b3 b4 e0 e1 e2 e3 e4
                  refine OP.out.mono ?_
                  rintro e w15 ⟨v15, F15, rfl, t15, hv15⟩
                  rw [if_pos (by trivial)] at hv15
                  obtain ⟨gk, rfl, hj15, hnk, _⟩ := hv15
                  have U15 := Lib.hid ((U14.out.prog t15).journal hj15 hnk)
                  clear t15 hj15 hnk OP U14 U12 U11
                  have SM := Lib.hid (jsame_any w15 _ _ g d9 _ _ U15.out.disk U15.out.ref (by have := FW9.out.w; omega))
                  unfold refV at SM
                  obtain ⟨b0, b1, b2, b3, b4⟩ := U15.out.box.cells
                  go_wp2_with fail
                  refine SM.out.mono ?_
                  rintro e w99 ⟨rfl, q99⟩
                  have S99 := Lib.hid (U15.out.below q99)
                  clear SM q99
                  clear b0 b1 b2 b3 b4
                  go_wp2
                  go_roundw
                  case rel => first | exact ⟨i + 1, _, _, _, _, _, gk, h30', hil', by go_num, rfl, S99, DD9, FW9⟩ | ((repeat apply Exists.intro); refine ⟨?_, rfl⟩; exact ⟨i + 1, _, _, _, _, _, gk, h30', hil', by go_num, rfl, S99, DD9, FW9⟩)
                  case measure => simp [intOf]; omega
                · have dk2 : (kind == 2) = false := by simpa using ek2
                  clear ek2
                  have JR := Lib.hid (jread_any w5 F gj g P d U5.out.disk U5.out.jb hD.out.sz (by have := hW.out.w; omega) (by have := HP.out; omega) (by rw [hD.out.len]; exact Nat.le_refl _) on)
                  obtain ⟨b0, b1, b2, b3, b4⟩ := U5.out.box.cells
                  have FW9 : Hid (Fw (1000 * (31 - (i + 1))) d) := hW.out.mono (by have := hFr.out; omega)
                  have DD9 := hD
                  go_wp2_with fail
                  refine JR.out.mono ?_
                  rintro e w6 ⟨rfl, q6⟩
                  have U6 := Lib.hid (U5.out.below q6)
                  have kk := KO.out w6 (Touch.of_below (Below.mono q6 (Nat.le_refl _)))
                  clear JR k0 k1 k2 k3 b0 b1 b2 b3 b4
                  obtain ⟨k0, k1, k2, k3⟩ := kk
                  by_cases hin : on < 0 ∨ (P : Int) ≤ on
                  · have hj : jrd d P on = (ByteArray.empty, 9) := by unfold jrd; rw [if_pos hin]
                    rw [hj]
                    have hex : decide (0 ≤ on) = false ∨ (decide (0 ≤ on) = true ∧ decide (on < (P : Int)) = false) := by
                      by_cases h0 : 0 ≤ on
                      · exact .inr ⟨by simpa using h0, by simp; omega⟩
                      · exact .inl (by simpa using h0)
                    have hse : (ByteArray.empty.toList != ByteArray.empty.toList) = false := by simp
                    have hse2 : (ByteArray.empty.toList != ({ data := #[] } : ByteArray).toList) = false := by rw [show ByteArray.empty = ({ data := #[] } : ByteArray) from rfl]; simp
                    clear hin hj
                    rcases hex with d1 | ⟨d1, d2⟩
                    all_goals
                      have SM := Lib.hid (jsame_any w6 _ _ g d _ _ U6.out.disk U6.out.ref (by have := FW9.out.w; omega))
                      unfold refV at SM
                      obtain ⟨b0, b1, b2, b3, b4⟩ := U6.out.box.cells
                      go_wp2_with fail
                      refine SM.out.mono ?_
                      rintro e w99 ⟨rfl, q99⟩
                      have S99 := Lib.hid (U6.out.below q99)
                      clear SM q99
                      clear b0 b1 b2 b3 b4
                      go_wp2
                      go_roundw
                      case rel => first | exact ⟨i + 1, _, _, _, _, _, gj, h30', hil', by go_num, rfl, S99, DD9, FW9⟩ | ((repeat apply Exists.intro); refine ⟨?_, rfl⟩; exact ⟨i + 1, _, _, _, _, _, gj, h30', hil', by go_num, rfl, S99, DD9, FW9⟩)
                      case measure => simp [intOf]; omega
                  · have d1 : decide (0 ≤ on) = true := by simp; omega
                    have d2 : decide (on < (P : Int)) = true := by simp; omega
                    obtain ⟨m, rfl⟩ := Int.eq_ofNat_of_zero_le (show 0 ≤ on by omega)
                    have d2' : decide (m < P) = true := by simp; omega
                    have hj : jrd d P (m : Int) = if d.down = true then (ByteArray.empty, 10) else (pageB d ((1 + 4 * (P + m) : Nat) : Int), 0) := by unfold jrd; rw [if_neg hin]; congr 2
                    rw [hj]
                    have PG := Lib.hid (rpage_any w6 G d vl vw U6.out.ref hD.out.sz (by have := hW.out.w; omega) (1 + 4 * (P + m)) (by rw [hD.out.len]; omega))
                    obtain ⟨q, hq⟩ : ∃ q : Nat, q = 1 + 4 * (P + m) := ⟨_, rfl⟩
                    rw [← hq] at PG ⊢
                    have eq1 : 1 + 4 * ((P : Int) + (m : Int)) = (q : Int) := by omega
                    have hq2 : q ≤ 4096 := by have := HP.out; omega
                    unfold refV at PG
                    generalize (if d.down = true then (ByteArray.empty, (10 : Int)) else (pageB d (q : Int), 0)) = r at PG ⊢
                    obtain ⟨rt, rx⟩ := r
                    simp only at PG ⊢
                    have hse : (rt.toList != rt.toList) = false := by simp
                    have hse3 : (rx != rx) = false := by simp
                    obtain ⟨b0, b1, b2, b3, b4⟩ := U6.out.box.cells
                    clear hin hj hq
                    go_wp2_with fail
                    refine PG.out.mono ?_
                    rintro e w7 ⟨rfl, q7⟩
                    have U7 := Lib.hid (U6.out.below q7)
                    clear PG q7 b0 b1 b2 b3 b4 k0 k1 k2 k3
                    have SM := Lib.hid (jsame_any w7 _ _ g d _ _ U7.out.disk U7.out.ref (by have := FW9.out.w; omega))
                    unfold refV at SM
                    obtain ⟨b0, b1, b2, b3, b4⟩ := U7.out.box.cells
                    go_wp2_with fail
                    refine SM.out.mono ?_
                    rintro e w99 ⟨rfl, q99⟩
                    have S99 := Lib.hid (U7.out.below q99)
                    clear SM q99
                    clear b0 b1 b2 b3 b4
                    go_wp2
                    go_roundw
                    case rel => first | exact ⟨i + 1, _, _, _, _, _, gj, h30', hil', by go_num, rfl, S99, DD9, FW9⟩ | ((repeat apply Exists.intro); refine ⟨?_, rfl⟩; exact ⟨i + 1, _, _, _, _, _, gj, h30', hil', by go_num, rfl, S99, DD9, FW9⟩)
                    case measure => simp [intOf]; omega
        · have e30 : i = 30 := by omega
          subst e30
          go_wp2_with fail
          refine (jlives_any _).mono ?_
          rintro e w9 ⟨rfl, b9⟩
          have B9 : Hid (Below w.heap.size w w9) := hS.out.bel.trans (b9.mono hS.out.bel.size)
          clear b9
          go_wp2
          go_ret
          exact ⟨rfl, B9.out⟩
      · have hkl : i = l.length := by omega
        subst hkl
        go_wp2_with fail
        refine (jlives_any _).mono ?_
        rintro e w9 ⟨rfl, b9⟩
        have B9 : Hid (Below w.heap.size w w9) := hS.out.bel.trans (b9.mono hS.out.bel.size)
        clear b9
        go_wp2
        go_ret
        exact ⟨rfl, B9.out⟩
end Go.Proofs.Ytpaabfadniakoaa
