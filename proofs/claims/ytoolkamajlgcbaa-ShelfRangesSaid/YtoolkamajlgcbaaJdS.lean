/- Sep: several things that a call owns, in blocks that are apart. -/
import Derived.Test.YtoolkamajlgcbaaJdB
set_option linter.unusedVariables false
set_option linter.unusedSimpArgs false
namespace Go.Proofs.Ytoolkamajlgcbaa
open Go.RowKit

def Stable (F : Nat → Prop) (P : World → Prop) : Prop := ∀ w w' S, P w → Touch S w w' → Disj F S → P w'
structure Part where
  F : Nat → Prop
  P : World → Prop
structure Part.Good (p : Part) (w : World) : Prop where
  P : p.P w
  lt : ∀ k, p.F k → k < w.heap.size
  st : Stable p.F p.P
def Sep (w : World) (ps : List Part) : Prop := (∀ p ∈ ps, p.Good w) ∧ ps.Pairwise (fun p q => Disj p.F q.F)
theorem Part.Good.keep {p : Part} {w w' : World} {S : Nat → Prop} (h : p.Good w) (ht : Touch S w w') (hS : Disj p.F S) : p.Good w' :=
  ⟨h.st w w' S h.P ht hS, fun k hk => Nat.lt_of_lt_of_le (h.lt k hk) ht.size, h.st⟩
theorem Sep.nil (w : World) : Sep w [] := ⟨fun p hp => by simp at hp, List.Pairwise.nil⟩
theorem Sep.below {w w' : World} {ps : List Part} (h : Sep w ps) (hb : Below w.heap.size w w') : Sep w' ps :=
  ⟨fun p hp => (h.1 p hp).keep (S := fun _ => False) (Touch.of_below hb) (fun _ _ x => x), h.2⟩
theorem Sep.drew {w : World} {ps : List Part} (h : Sep w ps) : Sep w.drew ps := h.below (Below.refl _ w).drew
theorem Sep.get {w : World} {l1 l2 : List Part} {p : Part} (h : Sep w (l1 ++ p :: l2)) : p.Good w := h.1 p (by simp)
theorem Sep.step {w w' : World} {l1 l2 : List Part} {p p' : Part} (h : Sep w (l1 ++ p :: l2)) (ht : Touch p.F w w') (hn : ∀ k, p'.F k → p.F k ∨ w.heap.size ≤ k) (hg : p'.Good w') : Sep w' (l1 ++ p' :: l2) := by
  obtain ⟨h1, h2⟩ := h
  rw [List.pairwise_append, List.pairwise_cons] at h2
  obtain ⟨a1, ⟨a2, a3⟩, a4⟩ := h2
  refine ⟨fun q hq => ?_, ?_⟩
  · rcases List.mem_append.1 hq with hq | hq
    · exact (h1 q (by simp [hq])).keep ht (a4 q hq p (by simp))
    · rcases List.mem_cons.1 hq with rfl | hq
      · exact hg
      · exact (h1 q (by simp [hq])).keep ht ((a2 q hq).symm)
  · rw [List.pairwise_append, List.pairwise_cons]
    refine ⟨a1, ⟨fun q hq k hk hqk => ?_, a3⟩, fun q hq r hr k hk hrk => ?_⟩
    · rcases hn k hk with hp | hp
      · exact a2 q hq k hp hqk
      · have := (h1 q (by simp [hq])).lt k hqk; omega
    · rcases List.mem_cons.1 hr with rfl | hr
      · rcases hn k hrk with hp | hp
        · exact a4 q hq p (by simp) k hk hp
        · have := (h1 q (by simp [hq])).lt k hk; omega
      · exact a4 q hq r (by simp [hr]) k hk hrk
theorem Sep.new {w w' : World} {ps : List Part} {p : Part} (h : Sep w ps) (hb : Below w.heap.size w w') (hn : ∀ k, p.F k → w.heap.size ≤ k) (hg : p.Good w') : Sep w' (p :: ps) := by
  have h' := h.below hb
  refine ⟨fun q hq => ?_, ?_⟩
  · rcases List.mem_cons.1 hq with rfl | hq
    · exact hg
    · exact h'.1 q hq
  · rw [List.pairwise_cons]
    exact ⟨fun q hq k hk hqk => by have := (h.1 q hq).lt k hqk; have := hn k hk; omega, h.2⟩
theorem Sep.drop {w : World} {l1 l2 : List Part} {p : Part} (h : Sep w (l1 ++ p :: l2)) : Sep w (l1 ++ l2) := by
  refine ⟨fun q hq => h.1 q (by rcases List.mem_append.1 hq with hq | hq <;> simp [hq]), ?_⟩
  exact h.2.sublist (List.Sublist.append_left (List.sublist_cons_self p l2) l1)

/-- A disk. -/
def dk (F : Nat → Prop) (g : Nat) (d : Dk) : Part := ⟨F, fun w => HasDisk w F g d⟩
theorem dk_st (F : Nat → Prop) (g : Nat) (d : Dk) : Stable F (fun w => HasDisk w F g d) := fun w w' S h ht hS => h.keep ht hS
theorem dk_good {w : World} {F : Nat → Prop} {g : Nat} {d : Dk} (h : HasDisk w F g d) : (dk F g d).Good w := ⟨h, h.lt, dk_st F g d⟩
theorem Sep.dk {w w' : World} {l1 l2 : List Part} {F F' : Nat → Prop} {g : Nat} {d d' : Dk} (h : Sep w (l1 ++ dk F g d :: l2)) (ht : DTo w F g d' w' F') : Sep w' (l1 ++ Go.Proofs.Ytoolkamajlgcbaa.dk F' g d' :: l2) :=
  h.step ht.touch ht.new (dk_good ht.has)
/-- A row of texts. -/
def rw_ (v : Value) (l : List ByteArray) : Part := ⟨fun k => v.ownBlock = some k, fun w => ∃ b, w.ownsRow b 9 1 v l.length (strs l)⟩
theorem rw_good {w : World} {b : Nat} {v : Value} {l : List ByteArray} (h : w.ownsRow b 9 1 v l.length (strs l)) : (rw_ v l).Good w :=
  ⟨⟨b, h⟩, fun k hk => (h.lt k hk).2, fun w w' S ⟨b, h⟩ ht hS => ⟨b, own_touch h ht (fun k hk => hS k hk)⟩⟩
/-- What all of them lie above. -/
structure Mine (w0 w : World) (ps : List Part) : Prop where
  sep : Sep w ps
  bel : Below w0.heap.size w0 w
  abv : ∀ p ∈ ps, ∀ k, p.F k → w0.heap.size ≤ k
theorem Mine.start (w : World) : Mine w w [] := ⟨Sep.nil w, Below.refl _ _, fun p hp => by simp at hp⟩
theorem Mine.below {w0 w w' : World} {ps : List Part} (h : Mine w0 w ps) (hb : Below w.heap.size w w') : Mine w0 w' ps := ⟨h.sep.below hb, h.bel.trans (hb.mono h.bel.size), h.abv⟩
theorem Mine.drew {w0 w : World} {ps : List Part} (h : Mine w0 w ps) : Mine w0 w.drew ps := h.below (Below.refl _ w).drew
theorem Mine.dk {w0 w w' : World} {l1 l2 : List Part} {F F' : Nat → Prop} {g : Nat} {d d' : Dk} (h : Mine w0 w (l1 ++ Go.Proofs.Ytoolkamajlgcbaa.dk F g d :: l2)) (ht : DTo w F g d' w' F') : Mine w0 w' (l1 ++ Go.Proofs.Ytoolkamajlgcbaa.dk F' g d' :: l2) := by
  have hF : ∀ k, F k → w0.heap.size ≤ k := h.abv (Go.Proofs.Ytoolkamajlgcbaa.dk F g d) (by simp)
  refine ⟨h.sep.dk ht, h.bel.trans (ht.touch.below h.bel.size hF), fun p hp k hk => ?_⟩
  rcases List.mem_append.1 hp with hp | hp
  · exact h.abv p (by simp [hp]) k hk
  · rcases List.mem_cons.1 hp with rfl | hp
    · rcases ht.new k hk with hk | hk
      · exact hF k hk
      · have := h.bel.size; omega
    · exact h.abv p (by simp [hp]) k hk
theorem Mine.new {w0 w w' : World} {ps : List Part} {p : Part} (h : Mine w0 w ps) (hb : Below w.heap.size w w') (hn : ∀ k, p.F k → w.heap.size ≤ k) (hg : p.Good w') : Mine w0 w' (p :: ps) :=
  ⟨h.sep.new hb hn hg, h.bel.trans (hb.mono h.bel.size), fun q hq k hk => by
    rcases List.mem_cons.1 hq with rfl | hq
    · exact Nat.le_trans h.bel.size (hn k hk)
    · exact h.abv q hq k hk⟩
theorem Mine.get {w0 w : World} {l1 l2 : List Part} {F : Nat → Prop} {g : Nat} {d : Dk} (h : Mine w0 w (l1 ++ Go.Proofs.Ytoolkamajlgcbaa.dk F g d :: l2)) : HasDisk w F g d := (Sep.get (p := Go.Proofs.Ytoolkamajlgcbaa.dk F g d) h.sep).P
theorem Mine.row {w0 w : World} {l1 l2 : List Part} {v : Value} {l : List ByteArray} (h : Mine w0 w (l1 ++ rw_ v l :: l2)) : ∃ b, w.ownsRow b 9 1 v l.length (strs l) := (Sep.get (p := rw_ v l) h.sep).P
theorem Mine.newRow {w0 w w' : World} {ps : List Part} {v : Value} {l : List ByteArray} (h : Mine w0 w ps) (hb : Below w.heap.size w w') (ho : w'.ownsRow w.heap.size 9 1 v l.length (strs l)) : Mine w0 w' (rw_ v l :: ps) :=
  h.new hb (fun k hk => (ho.lt k hk).1) (rw_good ho)
theorem Mine.newDk {w0 w w' : World} {ps : List Part} {F : Nat → Prop} {g : Nat} {d : Dk} (h : Mine w0 w ps) (hb : Below w.heap.size w w') (hd : HasDisk w' F g d) (hF : ∀ k, F k → w.heap.size ≤ k) : Mine w0 w' (Go.Proofs.Ytoolkamajlgcbaa.dk F g d :: ps) :=
  h.new hb hF (dk_good hd)
theorem Mine.touch {w0 w w' : World} {ps : List Part} {S : Nat → Prop} (h : Mine w0 w ps) (ht : Touch S w w') (hS : ∀ p ∈ ps, Disj p.F S) (hB : ∀ k, S k → w0.heap.size ≤ k) : Mine w0 w' ps :=
  ⟨⟨fun p hp => (h.sep.1 p hp).keep ht (hS p hp), h.sep.2⟩, h.bel.trans (ht.below h.bel.size hB), h.abv⟩
theorem Mine.far {w0 w : World} {ps : List Part} (h : Mine w0 w ps) {g : Nat} (hg : w.heap.size ≤ g) : ∀ p ∈ ps, Disj p.F (fun k => k = g) := fun p hp k hk e => by
  have := (h.sep.1 p hp).lt k hk
  omega
theorem Mine.store {w0 w : World} {ps : List Part} {g : Nat} (h : Mine w0 w ps) (hS : ∀ p ∈ ps, Disj p.F (fun k => k = g)) (hB : w0.heap.size ≤ g) (j : Nat) (v : Value) : Mine w0 (w.setCell ⟨g, j, none⟩ v) ps :=
  h.touch ((Touch.refl (fun k => k = g) w).setG j v) hS (fun k e => by omega)
/-- What is read of a row of texts. -/
theorem row_at {w : World} {b : Nat} {v : Value} {l : List ByteArray} (h : w.ownsRow b 9 1 v l.length (strs l)) (hp : 0 < l.length) : ∃ g c, v = .slice (some ⟨g, 0, none⟩) l.length c ∧ ∀ k, k < l.length → w.cell? ⟨g, k, none⟩ = some (.string (l.getD k ByteArray.empty)) := by
  rcases h.2 with ⟨_, h0⟩ | ⟨g, c, cur, rfl, _⟩
  · omega
  · refine ⟨g, c, rfl, fun k hk => (h.cellAt k (by omega)).trans ?_⟩
    simp [strs, List.getElem?_map, List.getElem?_eq_getElem hk]
/-- Bools of the call's own. -/
theorem bools_read {w : World} {b g c : Nat} {l : List Bool} (h : w.ownsRow b 4 1 (.slice (some ⟨g, 0, none⟩) l.length c) l.length (l.map Value.bool)) (hn : l.length ≤ 9223372036854775807) : RdB w (.slice (some ⟨g, 0, none⟩) l.length c) l := by
  refine ⟨by simp, _, c, rfl, ?_, hn, fun _ => ⟨_, rfl, fun j u hj => h.cells (g := g) rfl j u hj⟩⟩
  rcases h.2 with ⟨e, _⟩ | ⟨g', c', cur, e, _, _, h1, _⟩
  · cases e
  · injection e with e1 e2 e3
    omega
end Go.Proofs.Ytoolkamajlgcbaa
