/- Reg: a region that draws its order, done in one order: flag 1: what needs no memory; flag 2: what reads the same in every world that meets S; flag 0: the one operation that may come. -/
import Derived.WalkKit
import Derived.OrdersHeld
import Derived.KernelRfl
set_option linter.unusedVariables false
set_option linter.unusedSimpArgs false
namespace Go.Proofs.YtmagidkgajmhoaaDoor
open Go.RowKit

/-- What a region ends in: its normal end, or out of memory. -/
def OnlyOut (Q : Exit → Act → World → Prop) : Exit → Act → World → Prop
  | .outgrown, a, w => Q .outgrown a w
  | _, _, _ => False
/-- An operation that needs no memory. -/
def dry (P : Program) (ops : Array Oper) (o : Oper) (a : Act) (K : Act → Prop) : Prop :=
  if Region.wanted o (yielded ops a.tmps) then ∃ v, (∀ w', (execOp a.eval o).run P w' = .ok (.value v) w') ∧ K (a.put o.dst v) else K (a.put o.dst undef)
/-- An operation that reads. -/
def dryS (P : Program) (ops : Array Oper) (S : World → Prop) (o : Oper) (a : Act) (K : Act → Prop) : Prop :=
  if Region.wanted o (yielded ops a.tmps) then ∃ v, (∀ w', S w' → (execOp a.eval o).run P w' = .ok (.value v) w') ∧ K (a.put o.dst v) else K (a.put o.dst undef)

/-- As ∧, but a walk's tactics don't look into it. -/
structure Both (a b : Prop) : Prop where
  l : a
  r : b

def wpF (P : Program) (ops : Array Oper) (S : World → Prop) (Q : Exit → Act → World → Prop) : List (Oper × Nat) → Act → World → Prop
  | [], a, w => Q .normal a w
  | (o, 0) :: l, a, w => wpList P ops (Exit.then (fun a' w' => Both (S w') (wpF P ops S Q l a' w')) (OnlyOut Q)) [o] a w
  | (o, 1) :: l, a, w => dry P ops o a (fun a' => wpF P ops S Q l a' w)
  | (o, _) :: l, a, w => dryS P ops S o a (fun a' => wpF P ops S Q l a' w)

def flagB (ops : Array Oper) : List (Nat × Nat) → Array Bool → Bool
  | [], listed => (Region.ready .any ops listed).isEmpty
  | (i, 0) :: l, listed => (Region.ready .any ops listed == [i]) && flagB ops l (listed.setIfInBounds i true)
  | (i, _) :: l, listed => (Region.ready .any ops listed).contains i && Region.free .any ops listed i && flagB ops l (listed.setIfInBounds i true)

def ordered (ops : List Oper) (order : List (Nat × Nat)) : List (Oper × Nat) := order.map fun x => (ops.getD x.1 default, x.2)

theorem dry_S {P : Program} {ops : Array Oper} {S : World → Prop} {o : Oper} {a : Act} {K : Act → Prop} (h : dry P ops o a K) : dryS P ops S o a K := by
  unfold dry at h
  unfold dryS
  split
  · rename_i hw
    rw [if_pos hw] at h
    obtain ⟨v, hv, hK⟩ := h
    exact ⟨v, fun w' _ => hv w', hK⟩
  · rename_i hw
    rw [if_neg hw] at h
    exact h

theorem take_dry {P : Program} {Q : Exit → Act → World → Prop} {S : World → Prop} (ops : List Oper) (hs : Region.noSelect ops.toArray = true) (i : Nat) (hi : i < ops.length) {n : Nat} {listed : Array Bool} {a : Act} {w : World}
    (h1 : (Region.ready .any ops.toArray listed).contains i = true) (h2 : Region.free .any ops.toArray listed i = true) (hS : S w) {K : Act → Prop}
    (hK : ∀ a', K a' → wpAnyH P .any ops.toArray (Exit.then (fun a w => Q .normal a w) (OnlyOut Q)) S n (listed.setIfInBounds i true) a' w)
    (h : dryS P ops.toArray S ops[i] a K) : wpAnyH P .any ops.toArray (Exit.then (fun a w => Q .normal a w) (OnlyOut Q)) S (n + 1) listed a w := by
  have ho : ops.toArray[i]? = some ops[i] := by simp [hi]
  unfold dryS at h
  split at h
  · rename_i hw
    obtain ⟨v, hv, h⟩ := h
    exact wpAnyH_take ho hs h2 h1 (fun c a w x => by simp [Exit.then, OnlyOut] at x) (.inl ⟨hw, hv⟩) hS (hK _ h)
  · rename_i hw
    exact wpAnyH_take ho hs h2 h1 (fun c a w x => by simp [Exit.then, OnlyOut] at x) (.inr ⟨by simpa using hw, rfl⟩) hS (hK _ h)

theorem wpAny_flag {P : Program} {Q : Exit → Act → World → Prop} {S : World → Prop} (ops : List Oper) (hs : Region.noSelect ops.toArray = true) :
    ∀ (order : List (Nat × Nat)) (listed : Array Bool) (a : Act) (w : World), flagB ops.toArray order listed = true → (∀ x ∈ order, x.1 < ops.length) → S w →
      wpF P ops.toArray S Q (ordered ops order) a w → wpAnyH P .any ops.toArray (Exit.then (fun a w => Q .normal a w) (OnlyOut Q)) S order.length listed a w
  | [], listed, a, w, hB, _, hS, h => by
    refine wpAnyH_done (by simpa [flagB] using hB) ?_ _
    exact h
  | (i, 0) :: l, listed, a, w, hB, hl, hS, h => by
    simp only [flagB, Bool.and_eq_true, beq_iff_eq] at hB
    obtain ⟨h1, h3⟩ := hB
    have hi : i < ops.length := hl _ (List.mem_cons_self ..)
    have ho : ops.toArray[i]? = some ops[i] := by simp [hi]
    have hd : ops.getD i default = ops[i] := by simp [hi]
    simp only [ordered, List.map_cons, wpF, hd] at h
    refine wpAnyH_all h1 (by simp) (fun j hj => ?_)
    obtain rfl : j = i := by simpa using hj
    have key : ∀ a w, Both (S w) (wpF P ops.toArray S Q (ordered ops l) a w) → S w ∧ wpAnyH P .any ops.toArray (Exit.then (fun a w => Q .normal a w) (OnlyOut Q)) S l.length (listed.setIfInBounds j true) a w :=
      fun a w hh => ⟨hh.1, wpAny_flag ops hs l _ a w h3 (fun x hx => hl x (List.mem_cons_of_mem _ hx)) hh.1 hh.2⟩
    unfold wpOp
    simp only [ho]
    unfold wpList at h
    have hout : LetsOut (Exit.then (fun a' w' => Both (S w') (wpF P ops.toArray S Q (ordered ops l) a' w')) (OnlyOut Q)) → LetsOut (Exit.then (fun a w => Q .normal a w) (OnlyOut Q)) := by
      rintro ⟨a, w, x⟩
      exact ⟨a, w, x⟩
    split
    · rename_i hw
      rw [if_pos hw] at h
      rcases h with h | ⟨h, hx⟩
      · refine .inl ?_
        unfold Oper.wp at h ⊢
        generalize (execOp a.eval ops[j]).run P w = r at h
        cases r with
        | ok n w' =>
          cases n <;> simp only [Oper.upon] at h ⊢
          case value v => exact key _ _ h
          case skip => exact key _ _ h
          case defer d => exact key _ _ h
          case enter f args =>
            exact h.mono fun e w'' he => by
              cases e with
              | returned v => exact key _ _ he
              | panicked c => exact he
              | outgrown => exact hout he
          case row row args => exact h.mono fun v w'' he => key _ _ he
        | halt x w' => cases x <;> simp only [Oper.upon] at h ⊢ <;> exact h
      · exact .inr ⟨h, hout hx⟩
    · rename_i hw
      rw [if_neg hw] at h
      exact key _ _ h
  | (i, 1) :: l, listed, a, w, hB, hl, hS, h => by
    simp only [flagB, Bool.and_eq_true] at hB
    obtain ⟨⟨h1, h2⟩, h3⟩ := hB
    have hi : i < ops.length := hl _ (List.mem_cons_self ..)
    have hd : ops.getD i default = ops[i] := by simp [hi]
    simp only [ordered, List.map_cons, wpF, hd] at h
    exact take_dry ops hs i hi h1 h2 hS (fun a' hh => wpAny_flag ops hs l _ a' w h3 (fun x hx => hl x (List.mem_cons_of_mem _ hx)) hS hh) (dry_S h)
  | (i, k + 2) :: l, listed, a, w, hB, hl, hS, h => by
    simp only [flagB, Bool.and_eq_true] at hB
    obtain ⟨⟨h1, h2⟩, h3⟩ := hB
    have hi : i < ops.length := hl _ (List.mem_cons_self ..)
    have hd : ops.getD i default = ops[i] := by simp [hi]
    simp only [ordered, List.map_cons, wpF, hd] at h
    exact take_dry ops hs i hi h1 h2 hS (fun a' hh => wpAny_flag ops hs l _ a' w h3 (fun x hx => hl x (List.mem_cons_of_mem _ hx)) hS hh) h

/-- A region that draws its order. -/
theorem wp_region_flag {P : Program} {id : Nat} {Q : Exit → Act → World → Prop} {a : Act} {w : World} {l : List Oper} (S : World → Prop) (order : List (Nat × Nat)) (hm : P.follows .mixedOrders = true)
    (hB : (Region.noSelect l.toArray && order.all (fun x => decide (x.1 < l.length)) && (order.length == l.length) && flagB l.toArray order (Array.replicate l.length false)) = true) (hS : S w.drew)
    (h : wpF P l.toArray S Q (ordered l order) a w.drew) : (Code.region id l.toArray true).wp P Q a w := by
  simp only [Bool.and_eq_true, List.all_eq_true, decide_eq_true_eq, beq_iff_eq] at hB
  obtain ⟨⟨⟨h1, h2⟩, h3⟩, h4⟩ := hB
  refine Code.wp_mono (Q := Exit.then (fun a w => Q .normal a w) (OnlyOut Q)) ?_ ?_
  · intro e a w q
    cases e with
    | normal => exact q
    | outgrown => exact q
    | _ => exact q.elim
  · refine wp_region_held (S := S) hm ?_
    have := wpAny_flag l h1 order (Array.replicate l.length false) a w.drew h4 h2 hS h
    rw [h3] at this
    simpa using this

theorem wpF_nil {P : Program} {ops : Array Oper} {S : World → Prop} {Q : Exit → Act → World → Prop} {a : Act} {w : World} (h : Q .normal a w) : wpF P ops S Q [] a w := h
theorem wpF_dry {P : Program} {ops : Array Oper} {S : World → Prop} {Q : Exit → Act → World → Prop} {a : Act} {w : World} {o : Oper} {l : List (Oper × Nat)}
    (h : ∀ K : Act → Prop, (∀ a', wpF P ops S Q l a' w → K a') → dry P ops o a K) : wpF P ops S Q ((o, 1) :: l) a w := h _ (fun _ hh => hh)
theorem wpF_do {P : Program} {ops : Array Oper} {S : World → Prop} {Q : Exit → Act → World → Prop} {a : Act} {w : World} {o : Oper} {l : List (Oper × Nat)}
    (h : wpList P ops (Exit.then (fun a' w' => Both (S w') (wpF P ops S Q l a' w')) (OnlyOut Q)) [o] a w) : wpF P ops S Q ((o, 0) :: l) a w := h
theorem wpF_read {P : Program} {ops : Array Oper} {S : World → Prop} {Q : Exit → Act → World → Prop} {a : Act} {w : World} {o : Oper} {l : List (Oper × Nat)} (v : Value)
    (hw : Region.wanted o (yielded ops a.tmps) = true) (hv : ∀ w', S w' → (execOp a.eval o).run P w' = .ok (.value v) w')
    (h : ∀ K : Act → Prop, (∀ a', wpF P ops S Q l a' w → K a') → K (a.put o.dst v)) : wpF P ops S Q ((o, 2) :: l) a w := by
  show dryS P ops S o a _
  unfold dryS
  rw [if_pos hw]
  exact ⟨v, hv, h _ (fun _ hh => hh)⟩
theorem wpF_skip {P : Program} {ops : Array Oper} {S : World → Prop} {Q : Exit → Act → World → Prop} {a : Act} {w : World} {o : Oper} {l : List (Oper × Nat)}
    (h : ∀ K : Act → Prop, (∀ a', wpF P ops S Q l a' w → K a') → (if Region.wanted o (yielded ops a.tmps) then False else K (a.put o.dst undef))) : wpF P ops S Q ((o, 2) :: l) a w := by
  have := h _ (fun _ hh => hh)
  show dryS P ops S o a _
  unfold dryS
  split
  · rename_i hw; rw [if_pos hw] at this; exact this.elim
  · rename_i hw; rw [if_neg hw] at this; exact this
attribute [go_sem] dry
attribute [irreducible] wpF dryS
end Go.Proofs.YtmagidkgajmhoaaDoor
