/- PtA: spans that are given out, at whatever place of their block; rows of ints. -/
import Derived.Test.YthloinmnojlleaaPtP
import Derived.Test.YthloinmnojlleaaExtN
import Derived.ArgAppend
set_option linter.unusedVariables false
set_option linter.unusedSimpArgs false
namespace Go.Proofs.Ythloinmnojlleaa
open Go.RowKit

/-- Spans that lie in the block G, or none. -/
def OutO (w : World) (G : Option Nat) (v : Value) (L : List (Nat × Nat)) : Prop :=
  (G = none ∧ L = [] ∧ ∃ A, v = .slice A 0 0) ∨
  ∃ g off c cur, G = some g ∧ v = .slice (some ⟨g, off, none⟩) L.length c ∧ 0 < c ∧ w.heap[g]? = some (.cells cur 30 (0, 0)) ∧ L.length ≤ c ∧ off + c * 2 ≤ cur.size ∧ ∀ j u, (sp L)[j]? = some u → cur[off + j]? = some u
theorem OutO.lt {w : World} {G : Option Nat} {v : Value} {L : List (Nat × Nat)} (h : OutO w G v L) : ∀ k, G = some k → k < w.heap.size := by
  intro k hk
  rcases h with ⟨rfl, _⟩ | ⟨g, off, c, cur, rfl, _, _, hg, _⟩
  · cases hk
  · cases hk; exact lt_of_block hg
theorem OutO.touch {S : Nat → Prop} {w w' : World} {G : Option Nat} {v : Value} {L : List (Nat × Nat)} (h : OutO w G v L) (ht : Touch S w w') (hS : ∀ k, G = some k → ¬ S k) : OutO w' G v L := by
  rcases h with h | ⟨g, off, c, cur, rfl, hv, hc, hg, r⟩
  · exact .inl h
  · exact .inr ⟨g, off, c, cur, rfl, hv, hc, blk_touch ht hg (hS g rfl), r⟩
def oo (G : Option Nat) (v : Value) (L : List (Nat × Nat)) : Part := ⟨fun k => G = some k, fun w => OutO w G v L⟩
theorem oo_good {w : World} {G : Option Nat} {v : Value} {L : List (Nat × Nat)} (h : OutO w G v L) : (oo G v L).Good w := ⟨h, h.lt, fun w w' S h ht hS => h.touch ht hS⟩
theorem Mine.oo {w0 w : World} {l1 l2 : List Part} {G : Option Nat} {v : Value} {L : List (Nat × Nat)} (h : Mine w0 w (l1 ++ Go.Proofs.Ythloinmnojlleaa.oo G v L :: l2)) : OutO w G v L := (Sep.get (p := Go.Proofs.Ythloinmnojlleaa.oo G v L) h.sep).P
theorem Mine.newOo {w0 w : World} {ps : List Part} (h : Mine w0 w ps) : Mine w0 w (Go.Proofs.Ythloinmnojlleaa.oo none (.slice none 0 0) [] :: ps) :=
  h.new (Below.refl _ _) (fun k hk => by cases (show (none : Option Nat) = some k from hk)) (oo_good (.inl ⟨rfl, rfl, none, rfl⟩))
theorem Mine.ooTo {w0 w w' : World} {l1 l2 : List Part} {G G' : Option Nat} {v v' : Value} {L L' : List (Nat × Nat)} (h : Mine w0 w (l1 ++ Go.Proofs.Ythloinmnojlleaa.oo G v L :: l2)) (ht : Touch (fun k => G = some k) w w') (hG : ∀ k, G' = some k → G = some k ∨ w.heap.size ≤ k) (ho : OutO w' G' v' L') : Mine w0 w' (l1 ++ Go.Proofs.Ythloinmnojlleaa.oo G' v' L' :: l2) :=
  h.step (p := Go.Proofs.Ythloinmnojlleaa.oo G v L) (p' := Go.Proofs.Ythloinmnojlleaa.oo G' v' L') ht hG (oo_good ho)
theorem Mine.perm {w0 w : World} {ps qs : List Part} (h : Mine w0 w ps) (hp : ps.Perm qs) : Mine w0 w qs :=
  ⟨⟨fun p hq => h.sep.1 p (hp.mem_iff.2 hq), hp.pairwise h.sep.2 (fun h k a b => h k b a)⟩, h.bel, fun p hq => h.abv p (hp.mem_iff.2 hq)⟩
theorem OutO.slice {w : World} {G : Option Nat} {v : Value} {L : List (Nat × Nat)} (h : OutO w G v L) : ∃ A c, v = .slice A L.length c ∧ L.length ≤ c := by
  rcases h with ⟨_, rfl, A, rfl⟩ | ⟨g, off, c, cur, _, rfl, _, _, hl, _⟩
  · exact ⟨A, 0, rfl, Nat.le_refl _⟩
  · exact ⟨_, c, rfl, hl⟩
/-- Where they lie. -/
theorem OutO.at_ {w : World} {G : Option Nat} {v : Value} {L : List (Nat × Nat)} (h : OutO w G v L) (hp : 0 < L.length) : ∃ g off c, G = some g ∧ v = .slice (some ⟨g, off, none⟩) L.length c ∧ L.length ≤ c ∧
    ∀ k (hk : k < L.length), w.cell? ⟨g, off + k * 2, none⟩ = some (.int .i64 (L[k].1 : Int)) ∧ w.cell? ⟨g, off + k * 2 + 1, none⟩ = some (.int .i64 (L[k].2 : Int)) ∧ w.frozen? ⟨g, off + k * 2, none⟩ = false ∧ w.frozen? ⟨g, off + k * 2 + 1, none⟩ = false := by
  rcases h with ⟨_, rfl, _⟩ | ⟨g, off, c, cur, rfl, rfl, _, hg, hl, _, hr⟩
  · simp at hp
  · refine ⟨g, off, c, rfl, rfl, hl, fun k hk => ?_⟩
    obtain ⟨a1, a2⟩ := sp_get L k hk
    exact ⟨(blk_cell hg _).trans (hr _ _ a1), (blk_cell hg _).trans (by have := hr _ _ a2; rw [← this]; congr 1), blk_free hg _, blk_free hg _⟩
/-- Its first one less. -/
theorem OutO.tail {w : World} {A : Option Addr} {c : Nat} {G : Option Nat} {L : List (Nat × Nat)} (h : OutO w G (.slice A L.length c) L) (hp : 0 < L.length) :
    (c = 1 → OutO w none (.slice A 0 0) (L.drop 1)) ∧ (1 < c → ∃ g off, A = some ⟨g, off, none⟩ ∧ OutO w G (.slice (some ⟨g, off + 2, none⟩) (L.length - 1) (c - 1)) (L.drop 1)) := by
  rcases h with ⟨_, rfl, _⟩ | ⟨g, off, c', cur, rfl, e, hc, hg, hl, hs, hr⟩
  · simp at hp
  · injection e with e1 e2 e3
    subst e1 e3
    refine ⟨fun hc1 => .inl ⟨rfl, ?_, _, rfl⟩, fun hc1 => ⟨g, off, rfl, .inr ⟨g, off + 2, c - 1, cur, rfl, by rw [List.length_drop], by omega, hg, by rw [List.length_drop]; omega, by omega, fun j u hj => ?_⟩⟩⟩
    · exact List.eq_nil_of_length_eq_zero (by rw [List.length_drop]; omega)
    · rw [sp_drop, List.getElem?_drop] at hj
      have := hr _ _ hj
      rw [← this]
      congr 1
      omega
theorem sp_set : ∀ (L : List (Nat × Nat)) (i : Nat) (y : Nat × Nat), i < L.length → sp (L.set i y) = ((sp L).set (i * 2) (.int .i64 (y.1 : Int))).set (i * 2 + 1) (.int .i64 (y.2 : Int))
  | x :: l, 0, y, _ => rfl
  | x :: l, i + 1, y, h => by
    rw [List.set_cons_succ, sp, sp_set l i y (by simpa using h), sp, show (i + 1) * 2 = i * 2 + 1 + 1 by omega]
    rfl
/-- One of them turned. -/
theorem OutO.set {w : World} {G : Option Nat} {g off c : Nat} {L : List (Nat × Nat)} (h : OutO w G (.slice (some ⟨g, off, none⟩) L.length c) L) (i : Nat) (hi : i < L.length) (y : Nat × Nat) :
    OutO ((w.setCell ⟨g, off + i * 2, none⟩ (.int .i64 (y.1 : Int))).setCell ⟨g, off + i * 2 + 1, none⟩ (.int .i64 (y.2 : Int))) G (.slice (some ⟨g, off, none⟩) (L.set i y).length c) (L.set i y) ∧
    Touch (fun k => G = some k) w ((w.setCell ⟨g, off + i * 2, none⟩ (.int .i64 (y.1 : Int))).setCell ⟨g, off + i * 2 + 1, none⟩ (.int .i64 (y.2 : Int))) := by
  rcases h with ⟨_, rfl, _⟩ | ⟨g', off', c', cur, rfl, e, hc, hg, hl, hs, hr⟩
  · simp at hi
  · injection e with e1 e2 e3
    injection e1 with e1
    injection e1 with e4 e5
    subst e4 e5 e3
    refine ⟨.inr ⟨g, off, c, _, rfl, rfl, hc, blk_set (blk_set hg _ _) _ _, by rw [List.length_set]; exact hl, by simpa using hs, fun j u hj => ?_⟩, (Touch.setCell (Touch.setCell (Touch.refl (fun k => some g = some k) w) (p := ⟨g, off + i * 2, none⟩) (.inl rfl) _) (p := ⟨g, off + i * 2 + 1, none⟩) (.inl rfl) _)⟩
    have hjl : j < L.length * 2 := by
      have := (List.getElem?_eq_some_iff.1 hj).1
      rw [sp_length, List.length_set] at this
      exact this
    rw [sp_set L i y hi] at hj
    simp only [List.getElem?_set, List.length_set, sp_length, Array.getElem?_setIfInBounds, Array.size_setIfInBounds] at hj ⊢
    by_cases a1 : i * 2 + 1 = j
    · rw [if_pos a1, if_pos (by omega)] at hj
      rw [if_pos (by omega), if_pos (by omega)]
      exact hj
    · rw [if_neg a1] at hj
      rw [if_neg (by omega)]
      by_cases a2 : i * 2 = j
      · rw [if_pos a2, if_pos (by omega)] at hj
        rw [if_pos (by omega), if_pos (by omega)]
        exact hj
      · rw [if_neg a2] at hj
        rw [if_neg (by omega)]
        exact hr j u hj
/-- One more of them. -/
theorem run_append_oo (w : World) (G : Option Nat) (v : Value) (L : List (Nat × Nat)) (x : Nat × Nat) (ad : Addr) (t ty : TypeId) (ht : Try.prog.underlying t = some (.slice 30)) (h : OutO w G v L) (hl : L.length ≤ 4194304)
    (hx : ∀ j u, (sp [x])[j]? = some u → w.cell? (ad.add j) = some u) :
    ∃ v' w' G', (Builtin.append_ #[t, t] ty #[v, .slice (some ad) 1 1]).run Try.prog w = .ok v' w' ∧ OutO w' G' v' (L ++ [x]) ∧ Touch (fun k => G = some k) w w' ∧ (∀ k, G' = some k → G = some k ∨ w.heap.size ≤ k) := by
  obtain ⟨i0, hi, hz0, hz1, hz2⟩ := infoS
  have own : ∀ v' w', w'.ownsRow w.heap.size 30 2 v' (L.length + 1) (sp L ++ sp [x]) → w.grownBy w' none → ∃ G', OutO w' G' v' (L ++ [x]) ∧ Touch (fun k => G = some k) w w' ∧ (∀ k, G' = some k → G = some k ∨ w.heap.size ≤ k) := by
    intro v' w' ho hg
    rcases ho.2 with ⟨_, h0⟩ | ⟨g, cap, cur, rfl, hbg, hgb, h1, h2, h3, h4⟩
    · omega
    · refine ⟨some g, .inr ⟨g, 0, cap, cur, rfl, by rw [List.length_append]; rfl, by omega, hgb, by rw [List.length_append]; exact h1, by omega, fun j u hj => ?_⟩, (Touch.refl _ w).grown hg (fun k e => by cases e), fun k e => .inr (by cases e; exact hbg)⟩
      rw [sp_append] at hj
      rw [← h4] at hj
      have hjl : j < (L.length + 1) * 2 := by
        have := (List.getElem?_eq_some_iff.1 hj).1
        rw [List.length_take] at this
        omega
      rw [List.getElem?_take_of_lt hjl] at hj
      rw [Nat.zero_add]
      simpa using hj
  rcases h with ⟨rfl, rfl, A, rfl⟩ | ⟨g, off, c, cur, rfl, rfl, hc, hg, hlc, hs, hr⟩
  · cases A with
    | none =>
      obtain ⟨v', w', e, ho, hgr, _⟩ := run_append_own (P := Try.prog) (w := w) w.heap.size t ty _ i0 _ 2 16 ht hi hz0 hz1 hz2 rfl (by decide) (.slice none 0 0) 0 [] (World.ownsRow_nil _ _ _ _) ad 1 1 (sp [x]) rfl hx (sp_one [x]) (by unfold maxLen; omega) (by omega) (Nat.le_refl _)
      obtain ⟨G', h1, h2, h3⟩ := own v' w' ho hgr
      exact ⟨v', w', G', e, h1, h2, h3⟩
    | some b =>
      obtain ⟨v', w', e, ho, hgr⟩ := run_append_arg_grows (P := Try.prog) (w := w) t ty _ i0 _ 2 16 ht hi hz0 hz1 hz2 rfl (by decide) b 0 0 [] rfl (fun j u hj => by simp at hj) ad 1 1 (sp [x]) rfl hx (by omega) (by unfold maxLen; omega) (by omega)
      obtain ⟨G', h1, h2, h3⟩ := own v' w' ho hgr
      exact ⟨v', w', G', e, h1, h2, h3⟩
  · by_cases hroom : L.length + 1 ≤ c
    · have hsz : ∀ j, j < 2 → off + L.length * 2 + j < cur.size := fun j hj => by
        have := Nat.mul_le_mul_right 2 hroom
        omega
      have e := run_append_room_cells (P := Try.prog) (w := w) t ty _ i0 ht hi g off L.length c ad 1 1 (sp [x]) (by rw [hz1]; rfl) hx (sp_one [x]) hroom (fun j hj => by rw [hz1, blk_cell hg, Array.getElem?_eq_getElem (hsz j (by simpa [sp] using hj))]; rfl) (fun j _ => blk_free hg _)
      rw [hz1] at e
      have hw : w.setCells g (off + L.length * 2) (sp [x]) = (w.setCell ⟨g, off + L.length * 2, none⟩ (.int .i64 (x.1 : Int))).setCell ⟨g, off + L.length * 2 + 1, none⟩ (.int .i64 (x.2 : Int)) := rfl
      rw [hw] at e
      refine ⟨_, _, some g, e, .inr ⟨g, off, c, _, rfl, by rw [List.length_append]; rfl, hc, blk_set (blk_set hg _ _) _ _, by rw [List.length_append]; exact hroom, by simpa using hs, fun j u hj => ?_⟩, (Touch.setCell (Touch.setCell (Touch.refl (fun k => some g = some k) w) (p := ⟨g, off + L.length * 2, none⟩) (.inl rfl) _) (p := ⟨g, off + L.length * 2 + 1, none⟩) (.inl rfl) _), fun k e => .inl e⟩
      rw [sp_append] at hj
      simp only [Array.getElem?_setIfInBounds, Array.size_setIfInBounds]
      have h1 := hsz 0 (by omega); have h2 := hsz 1 (by omega)
      by_cases a : j < (sp L).length
      · rw [List.getElem?_append_left a] at hj
        rw [sp_length] at a
        rw [if_neg (by omega), if_neg (by omega)]
        exact hr j u hj
      · rw [List.getElem?_append_right (by omega), sp_length] at hj
        rw [sp_length] at a
        obtain ⟨d, hd⟩ : ∃ d, j - L.length * 2 = d := ⟨_, rfl⟩
        rw [hd] at hj
        match d, hj with
        | 0, hj =>
          have : j = L.length * 2 := by omega
          subst this
          rw [if_neg (by omega), if_pos rfl, if_pos (by omega)]
          exact hj
        | 1, hj =>
          have : j = L.length * 2 + 1 := by omega
          subst this
          rw [if_pos (by omega), if_pos (by omega)]
          exact hj
        | d + 2, hj => simp [sp] at hj
    · obtain ⟨v', w', e, ho, hgr⟩ := run_append_arg_grows (P := Try.prog) (w := w) t ty _ i0 _ 2 16 ht hi hz0 hz1 hz2 rfl (by decide) ⟨g, off, none⟩ L.length c (sp L) (sp_length L) (fun j u hj => by
        have := hr j u hj
        rcases Nat.eq_zero_or_pos j with h0 | h0
        · subst h0; exact (blk_cell hg _).trans this
        · rw [show (⟨g, off, none⟩ : Addr).add j = ⟨g, off + j, none⟩ by simp [Addr.add]; omega]; exact (blk_cell hg _).trans this) ad 1 1 (sp [x]) rfl hx (by omega) (by unfold maxLen; omega) (by omega)
      obtain ⟨G', h1, h2, h3⟩ := own v' w' ho hgr
      exact ⟨v', w', G', e, h1, h2, h3⟩
theorem wpList_append_oo {w : World} {ops : Array Oper} {rest : List Oper} {o : Oper} {a : Act} {Q : Exit → Act → World → Prop} (hgd : o.guard = none) (s x : Operand) (t : TypeId)
    (ho : o.op = .call { callee := .builtin .append, args := #[s, x], argTypes := #[t, t] }) (ht : Try.prog.underlying t = some (.slice 30)) (G : Option Nat) (v : Value) (L : List (Nat × Nat)) (y : Nat × Nat) (ad : Addr) (hs : a.eval s = v) (hxv : a.eval x = .slice (some ad) 1 1)
    (h : OutO w G v L) (hl : L.length ≤ 4194304) (hx : ∀ j u, (sp [y])[j]? = some u → w.cell? (ad.add j) = some u)
    (k : ∀ v' w' G', OutO w' G' v' (L ++ [y]) → Touch (fun k => G = some k) w w' → (∀ k, G' = some k → G = some k ∨ w.heap.size ≤ k) → wpList Try.prog ops Q rest (a.put o.dst v') w') : wpList Try.prog ops Q (o :: rest) a w := by
  refine wpList_plain hgd fun K hK => ?_
  obtain ⟨v', w', G', hr, h2, h3, h4⟩ := run_append_oo w G v L y ad t o.type ht h hl hx
  unfold Oper.wp execOp
  simp only [ho, resolve, invoke, builtin, Sem.run_bind, Sem.run_pure, Result.andThen_ok, List.map_toArray, List.map_cons, List.map_nil, hs, hxv, hr]
  exact hK _ _ (k v' w' G' h2 h3 h4)
/-- A row of numbers. -/
def numv (l : List Nat) : List Value := l.map (fun n : Nat => Value.int .i64 (n : Int))
def ri (g : Nat) (l : List Nat) : Part := ⟨fun k => k = g, fun w => ∃ cur, w.heap[g]? = some (.cells cur 3 (0, 0)) ∧ cur.toList = numv l⟩
theorem ri_good {w : World} {g : Nat} {l : List Nat} (h : ∃ cur, w.heap[g]? = some (.cells cur 3 (0, 0)) ∧ cur.toList = numv l) : (ri g l).Good w :=
  ⟨h, fun k hk => by obtain ⟨_, h, _⟩ := h; have := lt_of_block h; have e : k = g := hk; omega, fun w w' S ⟨c, h1, h2⟩ ht hS => ⟨c, blk_touch ht h1 (hS g rfl), h2⟩⟩
theorem Mine.ri {w0 w : World} {l1 l2 : List Part} {g : Nat} {l : List Nat} (h : Mine w0 w (l1 ++ Go.Proofs.Ythloinmnojlleaa.ri g l :: l2)) : ∃ cur, w.heap[g]? = some (.cells cur 3 (0, 0)) ∧ cur.toList = numv l := (Sep.get (p := Go.Proofs.Ythloinmnojlleaa.ri g l) h.sep).P
theorem Mine.riAt {w0 w : World} {l1 l2 : List Part} {g : Nat} {l : List Nat} (h : Mine w0 w (l1 ++ Go.Proofs.Ythloinmnojlleaa.ri g l :: l2)) (k : Nat) (hk : k < l.length) : w.cell? ⟨g, k, none⟩ = some (.int .i64 (l.getD k 0 : Nat)) ∧ w.frozen? ⟨g, k, none⟩ = false := by
  obtain ⟨cur, h1, h2⟩ := h.ri
  refine ⟨?_, blk_free h1 k⟩
  rw [blk_cell h1, ← Array.getElem?_toList, h2]
  simp [numv, hk]
theorem Mine.riSet {w0 w : World} {l1 l2 : List Part} {g : Nat} {l : List Nat} (h : Mine w0 w (l1 ++ Go.Proofs.Ythloinmnojlleaa.ri g l :: l2)) (k v : Nat) : Mine w0 (w.setCell ⟨g, k, none⟩ (.int .i64 (v : Nat))) (l1 ++ Go.Proofs.Ythloinmnojlleaa.ri g (l.set k v) :: l2) := by
  obtain ⟨cur, h1, h2⟩ := h.ri
  refine h.step (p := Go.Proofs.Ythloinmnojlleaa.ri g l) (p' := Go.Proofs.Ythloinmnojlleaa.ri g (l.set k v)) (Touch.setCell (S := fun k => k = g) (Touch.refl _ w) (p := ⟨g, k, none⟩) (.inl rfl) _) (fun k hk => .inl hk) (ri_good ⟨_, blk_set h1 k _, ?_⟩)
  rw [Array.toList_setIfInBounds, h2]
  unfold numv
  rw [List.map_set]
theorem Mine.newRi {w0 w : World} {ps : List Part} (h : Mine w0 w ps) (n : Nat) : Mine w0 (w.alloc (.cells (madeCells #[.int .i64 0] n) 3)) (Go.Proofs.Ythloinmnojlleaa.ri w.heap.size (List.replicate n 0) :: ps) :=
  h.new ((Below.refl _ w).alloc (Nat.le_refl _) _) (fun k hk => Nat.le_of_eq (show w.heap.size = k from (show k = w.heap.size from hk).symm)) (ri_good ⟨_, blk_new w _, by
    simp [madeCells, numv, Nat.mod_one, List.map_const']⟩)
/-- A row of moves. -/
def mp (v : Value) (U : List (Nat × Nat × Nat)) : Part := ⟨fun k => v.ownBlock = some k, fun w => w.ownsRow 0 61 3 v U.length (mc U)⟩
theorem mp_good {w : World} {v : Value} {U : List (Nat × Nat × Nat)} (h : w.ownsRow 0 61 3 v U.length (mc U)) : (mp v U).Good w := ⟨h, fun k hk => (World.ownsRow.lt h k hk).2, fun w w' S h ht hS => own_touch h ht hS⟩
theorem Mine.mp {w0 w : World} {l1 l2 : List Part} {v : Value} {U : List (Nat × Nat × Nat)} (h : Mine w0 w (l1 ++ Go.Proofs.Ythloinmnojlleaa.mp v U :: l2)) : w.ownsRow 0 61 3 v U.length (mc U) := (Sep.get (p := Go.Proofs.Ythloinmnojlleaa.mp v U) h.sep).P
theorem Mine.newMp {w0 w w' : World} {ps : List Part} {v : Value} {U : List (Nat × Nat × Nat)} (h : Mine w0 w ps) (hb : Below w.heap.size w w') (ho : w'.ownsRow w.heap.size 61 3 v U.length (mc U)) : Mine w0 w' (Go.Proofs.Ythloinmnojlleaa.mp v U :: ps) :=
  h.new hb (fun k hk => (World.ownsRow.lt ho k hk).1) (mp_good (own_base ho (Nat.zero_le _)))
/-- A box. -/
def bk (g : Nat) (cs : Array Value) (t : TypeId) : Part := ⟨fun k => k = g, fun w => w.heap[g]? = some (.cells cs t (0, 0))⟩
theorem bk_good {w : World} {g : Nat} {cs : Array Value} {t : TypeId} (h : w.heap[g]? = some (.cells cs t (0, 0))) : (bk g cs t).Good w :=
  ⟨h, fun k hk => by have := lt_of_block h; have e : k = g := hk; omega, fun w w' S h ht hS => blk_touch ht h (hS g rfl)⟩
theorem Mine.bk {w0 w : World} {l1 l2 : List Part} {g : Nat} {cs : Array Value} {t : TypeId} (h : Mine w0 w (l1 ++ Go.Proofs.Ythloinmnojlleaa.bk g cs t :: l2)) : w.heap[g]? = some (.cells cs t (0, 0)) := (Sep.get (p := Go.Proofs.Ythloinmnojlleaa.bk g cs t) h.sep).P
theorem Mine.newBk {w0 w : World} {ps : List Part} (h : Mine w0 w ps) (g : Nat) (hg : g = w.heap.size) (cs : Array Value) (t : TypeId) : Mine w0 (w.alloc (.cells cs t)) (Go.Proofs.Ythloinmnojlleaa.bk g cs t :: ps) := by
  subst hg
  exact h.new ((Below.refl _ w).alloc (Nat.le_refl _) _) (fun k e => Nat.le_of_eq (show w.heap.size = k from (show k = w.heap.size from e).symm)) (bk_good (blk_new w _))
theorem Mine.setBk {w0 w : World} {l1 l2 : List Part} {g : Nat} {cs : Array Value} {t : TypeId} (h : Mine w0 w (l1 ++ Go.Proofs.Ythloinmnojlleaa.bk g cs t :: l2)) (i : Nat) (u : Value) : Mine w0 (w.setCell ⟨g, i, none⟩ u) (l1 ++ Go.Proofs.Ythloinmnojlleaa.bk g (cs.setIfInBounds i u) t :: l2) :=
  h.step (p := Go.Proofs.Ythloinmnojlleaa.bk g cs t) (p' := Go.Proofs.Ythloinmnojlleaa.bk g (cs.setIfInBounds i u) t) (Touch.setCell (S := fun k => k = g) (Touch.refl _ w) (p := ⟨g, i, none⟩) (.inl rfl) u) (fun k hk => .inl hk) (bk_good (blk_set h.bk i u))
theorem Mine.setBk2 {w0 w : World} {l1 l2 : List Part} {g : Nat} {a b a' b' : Value} {t : TypeId} (h : Mine w0 w (l1 ++ Go.Proofs.Ythloinmnojlleaa.bk g #[a, b] t :: l2)) : Mine w0 ((w.setCell ⟨g, 0, none⟩ a').setCell ⟨g, 1, none⟩ b') (l1 ++ Go.Proofs.Ythloinmnojlleaa.bk g #[a', b'] t :: l2) := (h.setBk 0 a').setBk 1 b'
theorem infoI : (Try.prog.info? 3).map (fun i => (i.zero, i.size, i.bytes)) = some (some (.int .i64 0), 1, 8) := by kernel_rfl
end Go.Proofs.Ythloinmnojlleaa
