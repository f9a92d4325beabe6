/- ShO: a shelf that is written: its leaves' row, the rows of entries (which are never written again). -/
import Derived.Test.YtoolkamajlgcbaaShN
set_option linter.unusedVariables false
set_option linter.unusedSimpArgs false
namespace Go.Proofs.Ytoolkamajlgcbaa
open Go.RowKit

structure Lf where
  id : Nat
  l : PL
  A : Option Addr
  c : Nat
def lvv : List Lf → List Value
  | [] => []
  | x :: r => .int .i64 (x.id : Int) :: .slice x.A x.l.length x.c :: lvv r
theorem lvv_len : ∀ L : List Lf, (lvv L).length = L.length * 2
  | [] => rfl
  | x :: r => by simp only [lvv, List.length_cons, lvv_len r]; omega
theorem lvv_get : ∀ (L : List Lf) (k : Nat) (h : k < L.length), (lvv L)[k * 2]? = some (.int .i64 (L[k].id : Int)) ∧ (lvv L)[k * 2 + 1]? = some (.slice L[k].A L[k].l.length L[k].c)
  | x :: r, 0, _ => ⟨rfl, rfl⟩
  | x :: r, k + 1, h => by
    have := lvv_get r k (by simpa using h)
    rw [show (k + 1) * 2 = k * 2 + 2 by omega]
    exact this
theorem lvv_append : ∀ a b : List Lf, lvv (a ++ b) = lvv a ++ lvv b
  | [], b => rfl
  | x :: a, b => by simp only [List.cons_append, lvv, lvv_append a b]
theorem lvv_set : ∀ (L : List Lf) (k : Nat) (x : Lf) (h : k < L.length), x.id = L[k].id → lvv (L.set k x) = (lvv L).set (k * 2 + 1) (.slice x.A x.l.length x.c)
  | y :: r, 0, x, _, e => by
    have e' : x.id = y.id := e
    simp only [List.set_cons_zero, lvv, Nat.zero_mul, Nat.zero_add, List.set_cons_succ, e']
  | y :: r, k + 1, x, h, e => by
    have := lvv_set r k x (by simpa using h) (by simpa using e)
    rw [show (k + 1) * 2 + 1 = k * 2 + 1 + 1 + 1 by omega]
    simp only [List.set_cons_succ, lvv, this]
def shP (L : List Lf) : List (Nat × PL) := L.map (fun x => (x.id, x.l))
theorem shP_len (L : List Lf) : (shP L).length = L.length := List.length_map ..
theorem lfA_shP {L : List Lf} {k : Nat} (h : k < L.length) : lfA (shP L) k = L[k].l := by
  rw [lfA_get (by rw [shP_len]; exact h)]
  simp [shP]
/-- A row of leaves; its block may be longer than the slice's capacity. -/
def LRow (w : World) (base : Nat) (v : Value) (L : List Lf) : Prop := (v = .slice none 0 0 ∧ L = []) ∨ ∃ g cap cur, v = .slice (some ⟨g, 0, none⟩) L.length cap ∧ base ≤ g ∧ w.heap[g]? = some (.cells cur 82 (0, 0)) ∧ L.length ≤ cap ∧ cap ≤ maxLen ∧ cap * 2 ≤ cur.size ∧ cur.toList.take (L.length * 2) = lvv L ∧ (L = [] → cap = 0)
/-- A block of entries. -/
def PBlk (w : World) (b : Nat) : Prop := ∃ cur, w.heap[b]? = some (.cells cur 47 (0, 0))
def LfRd (w : World) (x : Lf) : Prop := RdPr w x.A x.l ∧ x.l.length ≤ x.c ∧ ∀ b o, x.A = some ⟨b, o, none⟩ → PBlk w b
structure ShO (w : World) (base gs gj : Nat) (v : Value) (L : List Lf) : Prop where
  box : ShB w gs gj v
  row : LRow w base v L
  rd : ∀ x ∈ L, LfRd w x
theorem own_lrow {w : World} {base : Nat} {v : Value} {L : List Lf} (h : w.ownsRow base 82 2 v L.length (lvv L)) (hp : 0 < L.length) : LRow w base v L := by
  rcases h.2 with ⟨e, h0⟩ | ⟨g, cap, cur, e, hb, hk, h1, hm, h2, h3⟩
  · exact .inl ⟨e, List.eq_nil_of_length_eq_zero h0⟩
  · exact .inr ⟨g, cap, cur, e, hb, hk, h1, hm, by omega, h3, fun e => by rw [e] at hp; simp at hp⟩
theorem LfRd.touch {S : Nat → Prop} {w w' : World} {x : Lf} (h : LfRd w x) (ht : Touch S w w') (hS : ∀ b, PBlk w b → ¬ S b) : LfRd w' x := by
  obtain ⟨h1, h2, h3⟩ := h
  refine ⟨fun hp => ?_, h2, fun b o e => ?_⟩
  · obtain ⟨b, o, e, hc⟩ := h1 hp
    obtain ⟨cur, hb⟩ := h3 b o e
    have hb' := blk_touch ht hb (hS b ⟨cur, hb⟩)
    refine ⟨b, o, e, fun k hk => ?_⟩
    obtain ⟨c0, c1⟩ := hc k hk
    exact ⟨(World.cell?_of_block (show w'.heap[b]? = w.heap[b]? by rw [hb', hb])).trans c0, (World.cell?_of_block (show w'.heap[b]? = w.heap[b]? by rw [hb', hb])).trans c1⟩
  · obtain ⟨cur, hb⟩ := h3 b o e
    exact ⟨cur, blk_touch ht hb (hS b ⟨cur, hb⟩)⟩
theorem LRow.touch {S : Nat → Prop} {w w' : World} {base : Nat} {v : Value} {L : List Lf} (h : LRow w base v L) (ht : Touch S w w') (hS : ∀ k, v.ownBlock = some k → ¬ S k) : LRow w' base v L := by
  rcases h with h | ⟨g, cap, cur, rfl, hb, hk, h1, hm, h2, h3⟩
  · exact .inl h
  · exact .inr ⟨g, cap, cur, rfl, hb, blk_touch ht hk (hS g rfl), h1, hm, h2, h3⟩
theorem ShO.below {w w' : World} {base gs gj : Nat} {v : Value} {L : List Lf} (h : ShO w base gs gj v L) (hb : Below w.heap.size w w') : ShO w' base gs gj v L :=
  ⟨(hb.block _ (lt_of_block h.box)).trans h.box, h.row.touch (Touch.of_below hb : Touch (fun _ => False) w w') (fun _ _ x => x), fun x hx => (h.rd x hx).touch (Touch.of_below hb : Touch (fun _ => False) w w') (fun _ _ x => x)⟩
/-- What is read of it. -/
theorem ShO.read {w : World} {base gs gj : Nat} {v : Value} {L : List Lf} (h : ShO w base gs gj v L) : ShRd w gs (shP L) := by
  have c1 := blk_cell h.box 1
  simp at c1
  rcases h.row with ⟨rfl, rfl⟩ | ⟨g, cap, cur, rfl, hb, hk, h1, hm, h2, h3, _⟩
  · exact ⟨none, 0, c1, Nat.le_refl _, fun h => by simp [shP] at h⟩
  · refine ⟨some ⟨g, 0, none⟩, cap, by rw [shP_len]; exact c1, by rw [shP_len]; exact h1, fun _ => ⟨g, 0, rfl, fun i hi => ?_⟩⟩
    have hi2 : i < L.length := by rw [shP_len] at hi; exact hi
    obtain ⟨g0, g1⟩ := lvv_get L i hi2
    rw [← h3, List.getElem?_take_of_lt (by omega), Array.getElem?_toList] at g0
    rw [← h3, List.getElem?_take_of_lt (by omega), Array.getElem?_toList] at g1
    obtain ⟨r1, r2, _⟩ := h.rd L[i] (List.getElem_mem _)
    have e : (shP L)[i] = (L[i].id, L[i].l) := by simp [shP]
    rw [e]
    refine ⟨by rw [Nat.zero_add, blk_cell hk]; exact g0, L[i].A, L[i].c, by rw [Nat.zero_add, blk_cell hk]; exact g1, r2, r1⟩
/-- A leaf's entries are others. -/
theorem LRow.store {w : World} {base g cap : Nat} {L : List Lf} (h : LRow w base (.slice (some ⟨g, 0, none⟩) L.length cap) L) {k : Nat} (hk : k < L.length) (x : Lf) (hx : x.id = L[k].id) :
    LRow (w.setCell ⟨g, k * 2 + 1, none⟩ (.slice x.A x.l.length x.c)) base (.slice (some ⟨g, 0, none⟩) L.length cap) (L.set k x) := by
  rcases h with ⟨e, _⟩ | ⟨g', cap', cur, e, hb, hk', h1, hm, h2, h3, h4⟩
  · cases e
  · cases e
    refine .inr ⟨g, cap, _, by rw [List.length_set], hb, blk_set hk' (k * 2 + 1) _, by rw [List.length_set]; exact h1, hm, by simpa using h2, ?_, fun e => by simp at e; rw [e] at hk; simp at hk⟩
    rw [lvv_set L k x hk hx, List.length_set, ← h3, Array.toList_setIfInBounds, List.take_set]
theorem lrow_ne {w : World} {base g cap b : Nat} {L : List Lf} {n : Nat} (h : LRow w base (.slice (some ⟨g, 0, none⟩) n cap) L) (hb : PBlk w b) : b ≠ g := fun e => by
  subst e
  obtain ⟨cur, hb⟩ := hb
  rcases h with ⟨e, _⟩ | ⟨g', cap', cur', e, _, hk, _⟩
  · cases e
  · cases e
    rw [hb] at hk
    simp at hk
end Go.Proofs.Ytoolkamajlgcbaa
