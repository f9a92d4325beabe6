/- ExtL: things owned, apart (as Sep of the disk's seat); rows of spans that may be cut short; append onto them. -/
import Derived.Test.YthloinmnojlleaaExtK
import Derived.ArgAppend
set_option linter.unusedVariables false
set_option linter.unusedSimpArgs false
namespace Go.Proofs.Ythloinmnojlleaa
open Go.RowKit

def Disj (F G : Nat → Prop) : Prop := ∀ k, F k → ¬ G k
theorem Disj.symm {F G : Nat → Prop} (h : Disj F G) : Disj G F := fun k hg hf => h k hf hg
def Stable (F : Nat → Prop) (P : World → Prop) : Prop := ∀ w w' S, P w → Touch S w w' → Disj F S → P w'
structure Part where
  F : Nat → Prop
  P : World → Prop
structure Part.Good (p : Part) (w : World) : Prop where
  P : p.P w
  lt : ∀ k, p.F k → k < w.heap.size
  st : Stable p.F p.P
def Sep (w : World) (ps : List Part) : Prop := (∀ p ∈ ps, p.Good w) ∧ ps.Pairwise (fun p q => Disj p.F q.F)
theorem Part.Good.keep {p : Part} {w w' : World} {S : Nat → Prop} (h : p.Good w) (ht : Touch S w w') (hS : Disj p.F S) : p.Good w' :=
  ⟨h.st w w' S h.P ht hS, fun k hk => Nat.lt_of_lt_of_le (h.lt k hk) ht.size, h.st⟩
theorem Sep.nil (w : World) : Sep w [] := ⟨fun p hp => by simp at hp, List.Pairwise.nil⟩
theorem Sep.below {w w' : World} {ps : List Part} (h : Sep w ps) (hb : Below w.heap.size w w') : Sep w' ps :=
  ⟨fun p hp => (h.1 p hp).keep (S := fun _ => False) (Touch.of_below hb) (fun _ _ x => x), h.2⟩
theorem Sep.get {w : World} {l1 l2 : List Part} {p : Part} (h : Sep w (l1 ++ p :: l2)) : p.Good w := h.1 p (by simp)
theorem Sep.step {w w' : World} {l1 l2 : List Part} {p p' : Part} (h : Sep w (l1 ++ p :: l2)) (ht : Touch p.F w w') (hn : ∀ k, p'.F k → p.F k ∨ w.heap.size ≤ k) (hg : p'.Good w') : Sep w' (l1 ++ p' :: l2) := by
  obtain ⟨h1, h2⟩ := h
  rw [List.pairwise_append, List.pairwise_cons] at h2
  obtain ⟨a1, ⟨a2, a3⟩, a4⟩ := h2
  refine ⟨fun q hq => ?_, ?_⟩
  · rcases List.mem_append.1 hq with hq | hq
    · exact (h1 q (by simp [hq])).keep ht (a4 q hq p (by simp))
    · rcases List.mem_cons.1 hq with rfl | hq
      · exact hg
      · exact (h1 q (by simp [hq])).keep ht ((a2 q hq).symm)
  · rw [List.pairwise_append, List.pairwise_cons]
    refine ⟨a1, ⟨fun q hq k hk hqk => ?_, a3⟩, fun q hq r hr k hk hrk => ?_⟩
    · rcases hn k hk with hp | hp
      · exact a2 q hq k hp hqk
      · have := (h1 q (by simp [hq])).lt k hqk; omega
    · rcases List.mem_cons.1 hr with rfl | hr
      · rcases hn k hrk with hp | hp
        · exact a4 q hq p (by simp) k hk hp
        · have := (h1 q (by simp [hq])).lt k hk; omega
      · exact a4 q hq r (by simp [hr]) k hk hrk
theorem Sep.new {w w' : World} {ps : List Part} {p : Part} (h : Sep w ps) (hb : Below w.heap.size w w') (hn : ∀ k, p.F k → w.heap.size ≤ k) (hg : p.Good w') : Sep w' (p :: ps) := by
  have h' := h.below hb
  refine ⟨fun q hq => ?_, ?_⟩
  · rcases List.mem_cons.1 hq with rfl | hq
    · exact hg
    · exact h'.1 q hq
  · rw [List.pairwise_cons]
    exact ⟨fun q hq k hk hqk => by have := (h.1 q hq).lt k hqk; have := hn k hk; omega, h.2⟩
theorem Sep.drop {w : World} {l1 l2 : List Part} {p : Part} (h : Sep w (l1 ++ p :: l2)) : Sep w (l1 ++ l2) := by
  refine ⟨fun q hq => h.1 q (by rcases List.mem_append.1 hq with hq | hq <;> simp [hq]), ?_⟩
  exact h.2.sublist (List.Sublist.append_left (List.sublist_cons_self p l2) l1)
/-- What all of them lie above. -/
structure Mine (w0 w : World) (ps : List Part) : Prop where
  sep : Sep w ps
  bel : Below w0.heap.size w0 w
  abv : ∀ p ∈ ps, ∀ k, p.F k → w0.heap.size ≤ k
theorem Mine.start (w : World) : Mine w w [] := ⟨Sep.nil w, Below.refl _ _, fun p hp => by simp at hp⟩
theorem Mine.below {w0 w w' : World} {ps : List Part} (h : Mine w0 w ps) (hb : Below w.heap.size w w') : Mine w0 w' ps := ⟨h.sep.below hb, h.bel.trans (hb.mono h.bel.size), h.abv⟩
theorem Mine.drew {w0 w : World} {ps : List Part} (h : Mine w0 w ps) : Mine w0 w.drew ps := h.below (Below.refl _ w).drew
theorem Mine.alloc {w0 w : World} {ps : List Part} (h : Mine w0 w ps) (o : Obj) : Mine w0 (w.alloc o) ps := h.below ((Below.refl _ w).alloc (Nat.le_refl _) o)
theorem Mine.step {w0 w w' : World} {l1 l2 : List Part} {p p' : Part} (h : Mine w0 w (l1 ++ p :: l2)) (ht : Touch p.F w w') (hn : ∀ k, p'.F k → p.F k ∨ w.heap.size ≤ k) (hg : p'.Good w') : Mine w0 w' (l1 ++ p' :: l2) := by
  have hF : ∀ k, p.F k → w0.heap.size ≤ k := h.abv p (by simp)
  refine ⟨h.sep.step ht hn hg, h.bel.trans (ht.below h.bel.size hF), fun q hq k hk => ?_⟩
  rcases List.mem_append.1 hq with hq | hq
  · exact h.abv q (by simp [hq]) k hk
  · rcases List.mem_cons.1 hq with rfl | hq
    · rcases hn k hk with hk | hk
      · exact hF k hk
      · have := h.bel.size; omega
    · exact h.abv q (by simp [hq]) k hk
theorem Mine.new {w0 w w' : World} {ps : List Part} {p : Part} (h : Mine w0 w ps) (hb : Below w.heap.size w w') (hn : ∀ k, p.F k → w.heap.size ≤ k) (hg : p.Good w') : Mine w0 w' (p :: ps) :=
  ⟨h.sep.new hb hn hg, h.bel.trans (hb.mono h.bel.size), fun q hq k hk => by
    rcases List.mem_cons.1 hq with rfl | hq
    · exact Nat.le_trans h.bel.size (hn k hk)
    · exact h.abv q hq k hk⟩
theorem Mine.drop {w0 w : World} {l1 l2 : List Part} {p : Part} (h : Mine w0 w (l1 ++ p :: l2)) : Mine w0 w (l1 ++ l2) :=
  ⟨h.sep.drop, h.bel, fun q hq => h.abv q (by rcases List.mem_append.1 hq with hq | hq <;> simp [hq])⟩

/-- An area. -/
def ar (F : Nat → Prop) (g : Nat) (a : Ar) : Part := ⟨F, fun w => HasAr w F g a⟩
theorem HasAr.lt {w : World} {F : Nat → Prop} {g : Nat} {a : Ar} (h : HasAr w F g a) : ∀ k, F k → k < w.heap.size := by obtain ⟨v, h⟩ := h; exact h.lt
theorem HasAr.ok {w : World} {F : Nat → Prop} {g : Nat} {a : Ar} (h : HasAr w F g a) : a.Ok := by obtain ⟨v, h⟩ := h; exact h.ok
theorem HasAr.fg {w : World} {F : Nat → Prop} {g : Nat} {a : Ar} (h : HasAr w F g a) : F g := by obtain ⟨v, h⟩ := h; exact h.fg
theorem ar_good {w : World} {F : Nat → Prop} {g : Nat} {a : Ar} (h : HasAr w F g a) : (ar F g a).Good w := ⟨h, h.lt, fun w w' S ⟨v, h⟩ ht hS => ⟨v, h.keep ht hS⟩⟩
theorem Mine.area {w0 w : World} {l1 l2 : List Part} {F : Nat → Prop} {g : Nat} {a : Ar} (h : Mine w0 w (l1 ++ ar F g a :: l2)) : HasAr w F g a := (Sep.get (p := ar F g a) h.sep).P
theorem Mine.arTo {w0 w w' : World} {l1 l2 : List Part} {F F' : Nat → Prop} {g : Nat} {a a' : Ar} (h : Mine w0 w (l1 ++ ar F g a :: l2)) (ht : ArTo w F g a' w' F') : Mine w0 w' (l1 ++ ar F' g a' :: l2) :=
  h.step (p := ar F g a) (p' := ar F' g a') (ht.touch.mono (fun k _ e => by subst e; exact h.area.fg)) ht.new (ar_good ht.has)
theorem Mine.newAr {w0 w w' : World} {ps : List Part} {F : Nat → Prop} {g : Nat} {a : Ar} (h : Mine w0 w ps) (hb : Below w.heap.size w w') (hd : HasAr w' F g a) (hF : ∀ k, F k → w.heap.size ≤ k) : Mine w0 w' (ar F g a :: ps) :=
  h.new hb hF (ar_good hd)

/-- A row of spans of the call's own, that may be cut short (then it has no room). -/
def OutV (w : World) (v : Value) (L : List (Nat × Nat)) : Prop :=
  w.ownsRow 0 30 2 v L.length (sp L) ∨ ∃ g, v = .slice (some ⟨g, 0, none⟩) L.length L.length ∧ g < w.heap.size ∧ ∀ j u, (sp L)[j]? = some u → w.cell? ((⟨g, 0, none⟩ : Addr).add j) = some u
theorem OutV.rd {w : World} {v : Value} {L : List (Nat × Nat)} (h : OutV w v L) : RdSp w v L := by
  rcases h with h | ⟨g, rfl, _, h⟩
  · exact rdsp_own h
  · refine ⟨_, _, rfl, Nat.le_refl _, (fun e => by cases e), fun ad e j u hu => ?_⟩
    injection e with e
    subst e
    exact h j u hu
theorem OutV.slice {w : World} {v : Value} {L : List (Nat × Nat)} (h : OutV w v L) : ∃ A c, v = .slice A L.length c := by
  obtain ⟨A, c, e, _⟩ := h.rd
  exact ⟨A, c, e⟩
theorem OutV.at_ {w : World} {v : Value} {L : List (Nat × Nat)} (h : OutV w v L) (hp : 0 < L.length) : ∃ g c, v = .slice (some ⟨g, 0, none⟩) L.length c ∧ L.length ≤ c ∧ g < w.heap.size ∧ ∀ k (hk : k < L.length), w.cell? ⟨g, k * 2, none⟩ = some (.int .i64 (L[k].1 : Int)) ∧ w.cell? ⟨g, k * 2 + 1, none⟩ = some (.int .i64 (L[k].2 : Int)) := by
  rcases h with h | ⟨g, rfl, hg, h⟩
  · obtain ⟨g, c, rfl, _, hg, hc⟩ := row_at h hp
    obtain ⟨_, _, e, hl, _⟩ := rdsp_own h
    injection e with _ _ e3
    exact ⟨g, c, rfl, by omega, hg, hc⟩
  · refine ⟨g, _, rfl, Nat.le_refl _, hg, fun k hk => ?_⟩
    obtain ⟨a1, a2⟩ := sp_get L k hk
    have z1 := h (k * 2) _ a1
    have z2 := h (k * 2 + 1) _ a2
    refine ⟨?_, by simpa [Addr.add] using z2⟩
    by_cases e : k = 0
    · subst e; simpa [Addr.add] using z1
    · have e2 : ¬ k * 2 = 0 := by omega
      simpa [Addr.add, e2, e] using z1
theorem OutV.lt {w : World} {v : Value} {L : List (Nat × Nat)} (h : OutV w v L) : ∀ k, v.ownBlock = some k → k < w.heap.size := by
  rcases h with h | ⟨g, rfl, hg, h⟩
  · exact fun k hk => (h.lt k hk).2
  · intro k hk
    simp [Value.ownBlock] at hk
    omega
theorem OutV.touch {S : Nat → Prop} {w w' : World} {v : Value} {L : List (Nat × Nat)} (h : OutV w v L) (ht : Touch S w w') (hS : ∀ k, v.ownBlock = some k → ¬ S k) : OutV w' v L := by
  rcases h with h | ⟨g, rfl, hg, h⟩
  · exact .inl (own_touch h ht hS)
  · refine .inr ⟨g, rfl, Nat.lt_of_lt_of_le hg ht.size, fun j u hu => cell_keep ht (h j u hu) ?_⟩
    have := hS g rfl
    rw [show ((⟨g, 0, none⟩ : Addr).add j).block = g by unfold Addr.add; split <;> rfl]
    exact this
def rs (v : Value) (L : List (Nat × Nat)) : Part := ⟨fun k => v.ownBlock = some k, fun w => OutV w v L⟩
theorem rs_good {w : World} {v : Value} {L : List (Nat × Nat)} (h : OutV w v L) : (rs v L).Good w := ⟨h, h.lt, fun w w' S h ht hS => h.touch ht hS⟩
theorem Mine.out {w0 w : World} {l1 l2 : List Part} {v : Value} {L : List (Nat × Nat)} (h : Mine w0 w (l1 ++ rs v L :: l2)) : OutV w v L := (Sep.get (p := rs v L) h.sep).P
theorem Mine.newOut {w0 w : World} {ps : List Part} (h : Mine w0 w ps) : Mine w0 w (rs (.slice none 0 0) [] :: ps) :=
  h.new (Below.refl _ _) (fun k hk => by simp [rs, Value.ownBlock] at hk) (rs_good (.inl (World.ownsRow_nil _ _ _ _)))
theorem Mine.grow {w0 w w' : World} {l1 l2 : List Part} {v v' : Value} {L L' : List (Nat × Nat)} (h : Mine w0 w (l1 ++ rs v L :: l2)) (hg : w.grownBy w' v.ownBlock) (ha : v'.ownBlock = v.ownBlock ∨ v'.ownBlock = some w.heap.size) (ho : OutV w' v' L') : Mine w0 w' (l1 ++ rs v' L' :: l2) := by
  refine h.step (p := rs v L) (p' := rs v' L') ?_ ?_ (rs_good ho)
  · exact (Touch.refl _ w).grown hg (fun k e => .inl e)
  · intro k hk
    have hk : v'.ownBlock = some k := hk
    rcases ha with e | e
    · exact .inl (show v.ownBlock = some k by rw [← e]; exact hk)
    · rw [e] at hk
      injection hk with hk
      exact .inr (by omega)

theorem infoS : ∃ i0, Try.prog.info? 30 = some i0 ∧ i0.zero = some (.agg #[.int .i64 0, .int .i64 0]) ∧ i0.size = 2 ∧ i0.bytes = 16 := info_parts infoSp
/-- append onto such a row. -/
theorem run_append_out (w : World) (v x : Value) (L M : List (Nat × Nat)) (t ty : TypeId) (ht : Try.prog.underlying t = some (.slice 30)) (h : OutV w v L) (hx : RdSp w x M) (hl : L.length + M.length ≤ 4194304) :
    ∃ v' w', (Builtin.append_ #[t, t] ty #[v, x]).run Try.prog w = .ok v' w' ∧ OutV w' v' (L ++ M) ∧ w.grownBy w' v.ownBlock ∧ (v'.ownBlock = v.ownBlock ∨ v'.ownBlock = some w.heap.size) := by
  obtain ⟨i0, hi, hz0, hz1, hz2⟩ := infoS
  obtain ⟨A, c, rfl, hc, hn, hr⟩ := hx
  have same : w.grownBy w v.ownBlock := ⟨rfl, rfl, rfl, Nat.le_refl _, fun _ _ _ => rfl⟩
  cases A with
  | none =>
    have hc0 := hn rfl
    have hM : M = [] := List.eq_nil_of_length_eq_zero (by omega)
    subst hM hc0
    refine ⟨v, w, ?_, by simpa using h, same, .inl rfl⟩
    rcases h with h | ⟨g, rfl, hg, h⟩
    · exact run_append_owned_none (P := Try.prog) (w := w) 0 t ty _ i0 2 ht hi v L.length (sp L) h
    · simp [Builtin.append_, run_underlying ht, sizeOf, typeInfo, hi, Builtin.lenOf, Builtin.firstCells, storeCells]
  | some ad =>
    have hcells := hr ad rfl
    rcases h with h | ⟨g, rfl, hg, h⟩
    · obtain ⟨v', w', e, ho, hgr, _, hat⟩ := run_append_own_at (P := Try.prog) w 0 t ty _ i0 _ 2 16 ht hi hz0 hz1 hz2 rfl (by decide) v L.length (sp L) h ad M.length c (sp M) (sp_length M) hcells (sp_one M) (by unfold maxLen; omega) (by omega) (Nat.zero_le _)
      refine ⟨v', w', e, .inl ?_, hgr, hat⟩
      rw [List.length_append, sp_append]
      exact ho
    · by_cases hM : M = []
      · subst hM
        refine ⟨.slice (some ⟨g, 0, none⟩) L.length L.length, w, ?_, .inr ⟨g, by simp, hg, by simpa using h⟩, same, .inl rfl⟩
        simp [Builtin.append_, run_underlying ht, sizeOf, typeInfo, hi, Builtin.lenOf, Builtin.firstCells, storeCells, loadCells, loadCellsFrom]
      · have hp : 0 < M.length := List.length_pos_iff.2 hM
        have e := run_append_grow (P := Try.prog) w t ty _ i0 _ ht hi hz0 ⟨g, 0, none⟩ L.length L.length (sp L) (by rw [hz1]; exact sp_length L) h ad M.length c (sp M) (by rw [hz1]; exact sp_length M) hcells (by omega) (by omega) (growslice_fits (by omega) (by rw [hz2]; omega))
        refine ⟨_, _, e, .inl ?_, ⟨rfl, rfl, rfl, by simp, fun k hk _ => Below.heap_alloc w.drew _ _ hk⟩, .inr rfl⟩
        have hge := grownCap_ge w (L.length + M.length) L.length 30
        have hcm := grownCap_le_maxLen w (L.length + M.length) L.length 30 (by unfold maxLen; omega)
        have hlen : (sp L ++ sp M).length = (L.length + M.length) * 2 := by rw [List.length_append, sp_length, sp_length]; omega
        rw [List.length_append, sp_append]
        refine ⟨hlen, .inr ⟨w.heap.size, _, _, rfl, Nat.zero_le _, blk_new w.drew _, hge, hcm, ?_, ?_⟩⟩
        · simp only [Array.size_append, List.size_toArray, size_zeroCells, zero_size, sp_length]
          omega
        · simp only [Array.toList_append, List.append_assoc]
          rw [← List.append_assoc, ← hlen]
          exact List.take_left
theorem wpList_append_out {w : World} {ops : Array Oper} {rest : List Oper} {o : Oper} {a : Act} {Q : Exit → Act → World → Prop} (hgd : o.guard = none) (s x : Operand) (t : TypeId)
    (ho : o.op = .call { callee := .builtin .append, args := #[s, x], argTypes := #[t, t] }) (ht : Try.prog.underlying t = some (.slice 30)) (v xv : Value) (L M : List (Nat × Nat)) (hs : a.eval s = v) (hxv : a.eval x = xv)
    (h : OutV w v L) (hx : RdSp w xv M) (hl : L.length + M.length ≤ 4194304)
    (k : ∀ v' w', OutV w' v' (L ++ M) → w.grownBy w' v.ownBlock → (v'.ownBlock = v.ownBlock ∨ v'.ownBlock = some w.heap.size) → wpList Try.prog ops Q rest (a.put o.dst v') w') : wpList Try.prog ops Q (o :: rest) a w := by
  refine wpList_plain hgd fun K hK => ?_
  obtain ⟨v', w', hr, h2, h3, h4⟩ := run_append_out w v xv L M t o.type ht h hx hl
  unfold Oper.wp execOp
  simp only [ho, resolve, invoke, builtin, Sem.run_bind, Sem.run_pure, Result.andThen_ok, List.map_toArray, List.map_cons, List.map_nil, hs, hxv, hr]
  exact hK _ _ (k v' w' h2 h3 h4)
end Go.Proofs.Ythloinmnojlleaa
