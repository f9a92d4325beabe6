/- Reg3: as Reg2, and where three operations may come: all ways. -/
import Derived.Test.YtoolkamajlgcbaaReg
set_option linter.unusedVariables false
set_option linter.unusedSimpArgs false
namespace Go.Proofs.Ytoolkamajlgcbaa
open Go.RowKit

inductive Plan where
  | done
  | op (i f : Nat) (p : Plan)
  | two (i : Nat) (p : Plan) (j : Nat) (q : Plan)
  | three (i : Nat) (p : Plan) (j : Nat) (q : Plan) (k : Nat) (r : Plan)

def planB (ops : Array Oper) : Nat → Plan → Array Bool → Bool
  | _, .done, listed => (Region.ready .any ops listed).isEmpty
  | n + 1, .op i 0 p, listed => decide (i < ops.size) && (Region.ready .any ops listed == [i]) && planB ops n p (listed.setIfInBounds i true)
  | n + 1, .op i _ p, listed => decide (i < ops.size) && (Region.ready .any ops listed).contains i && Region.free .any ops listed i && planB ops n p (listed.setIfInBounds i true)
  | n + 1, .two i p j q, listed => decide (i < ops.size) && decide (j < ops.size) && (Region.ready .any ops listed == [i, j]) && planB ops n p (listed.setIfInBounds i true) && planB ops n q (listed.setIfInBounds j true)
  | n + 1, .three i p j q k r, listed => decide (i < ops.size) && decide (j < ops.size) && decide (k < ops.size) && (Region.ready .any ops listed == [i, j, k]) && planB ops n p (listed.setIfInBounds i true) && planB ops n q (listed.setIfInBounds j true) && planB ops n r (listed.setIfInBounds k true)
  | 0, _, _ => false

def wpP (P : Program) (ops : Array Oper) (l : List Oper) (S : World → Prop) (Q : Exit → Act → World → Prop) : Plan → Act → World → Prop
  | .done, a, w => Q .normal a w
  | .op i 0 p, a, w => wpList P ops (Exit.then (fun a' w' => Both (S w') (wpP P ops l S Q p a' w')) (OnlyOut Q)) [l.getD i default] a w
  | .op i 1 p, a, w => dry P ops (l.getD i default) a (fun a' => wpP P ops l S Q p a' w)
  | .op i _ p, a, w => dryS P ops S (l.getD i default) a (fun a' => wpP P ops l S Q p a' w)
  | .two i p j q, a, w => wpList P ops (Exit.then (fun a' w' => Both (S w') (wpP P ops l S Q p a' w')) (OnlyOut Q)) [l.getD i default] a w ∧
      wpList P ops (Exit.then (fun a' w' => Both (S w') (wpP P ops l S Q q a' w')) (OnlyOut Q)) [l.getD j default] a w
  | .three i p j q k r, a, w => wpList P ops (Exit.then (fun a' w' => Both (S w') (wpP P ops l S Q p a' w')) (OnlyOut Q)) [l.getD i default] a w ∧
      wpList P ops (Exit.then (fun a' w' => Both (S w') (wpP P ops l S Q q a' w')) (OnlyOut Q)) [l.getD j default] a w ∧
      wpList P ops (Exit.then (fun a' w' => Both (S w') (wpP P ops l S Q r a' w')) (OnlyOut Q)) [l.getD k default] a w

theorem do_one {P : Program} {Q : Exit → Act → World → Prop} {S : World → Prop} (ops : List Oper) (i : Nat) (hi : i < ops.length) {T U : Act → World → Prop} {a : Act} {w : World} (key : ∀ a w, Both (S w) (T a w) → U a w)
    (h : wpList P ops.toArray (Exit.then (fun a' w' => Both (S w') (T a' w')) (OnlyOut Q)) [ops[i]] a w) : wpOp P ops.toArray (Exit.then (fun a w => Q .normal a w) (OnlyOut Q)) i U a w := by
  have ho : ops.toArray[i]? = some ops[i] := by simp [hi]
  unfold wpOp
  simp only [ho]
  unfold wpList at h
  have hout : LetsOut (Exit.then (fun a' w' => Both (S w') (T a' w')) (OnlyOut Q)) → LetsOut (Exit.then (fun a w => Q .normal a w) (OnlyOut Q)) := by
    rintro ⟨a, w, x⟩
    exact ⟨a, w, x⟩
  split
  · rename_i hw
    rw [if_pos hw] at h
    rcases h with h | ⟨h, hx⟩
    · refine .inl ?_
      unfold Oper.wp at h ⊢
      generalize (execOp a.eval ops[i]).run P w = r at h
      cases r with
      | ok n w' =>
        cases n <;> simp only [Oper.upon] at h ⊢
        case value v => exact key _ _ h
        case skip => exact key _ _ h
        case defer d => exact key _ _ h
        case enter f args =>
          exact h.mono fun e w'' he => by
            cases e with
            | returned v => exact key _ _ he
            | panicked c => exact he
            | outgrown => exact hout he
        case row row args => exact h.mono fun v w'' he => key _ _ he
      | halt x w' => cases x <;> simp only [Oper.upon] at h ⊢ <;> exact h
    · exact .inr ⟨h, hout hx⟩
  · rename_i hw
    rw [if_neg hw] at h
    exact key _ _ h

theorem wpAny_plan {P : Program} {Q : Exit → Act → World → Prop} {S : World → Prop} (ops : List Oper) (hs : Region.noSelect ops.toArray = true) :
    ∀ (p : Plan) (n : Nat) (listed : Array Bool) (a : Act) (w : World), planB ops.toArray n p listed = true → S w →
      wpP P ops.toArray ops S Q p a w → wpAnyH P .any ops.toArray (Exit.then (fun a w => Q .normal a w) (OnlyOut Q)) S n listed a w
  | .done, n, listed, a, w, hB, hS, h => by
    refine wpAnyH_done (by cases n <;> simpa [planB] using hB) ?_ _
    exact h
  | .op i 0 p, 0, listed, a, w, hB, hS, h => by simp [planB] at hB
  | .op i (k + 1) p, 0, listed, a, w, hB, hS, h => by simp [planB] at hB
  | .two i p j q, 0, listed, a, w, hB, hS, h => by simp [planB] at hB
  | .three i p j q k r, 0, listed, a, w, hB, hS, h => by simp [planB] at hB
  | .op i 0 p, n + 1, listed, a, w, hB, hS, h => by
    simp only [planB, Bool.and_eq_true, beq_iff_eq, decide_eq_true_eq, List.size_toArray] at hB
    obtain ⟨⟨hi, h1⟩, h3⟩ := hB
    have hd : ops.getD i default = ops[i] := by simp [hi]
    simp only [wpP, hd] at h
    refine wpAnyH_all h1 (by simp) (fun j hj => ?_)
    obtain rfl : j = i := by simpa using hj
    exact do_one ops j hi (fun a w hh => ⟨hh.1, wpAny_plan ops hs p n _ a w h3 hh.1 hh.2⟩) h
  | .op i 1 p, n + 1, listed, a, w, hB, hS, h => by
    simp only [planB, Bool.and_eq_true, decide_eq_true_eq, List.size_toArray] at hB
    obtain ⟨⟨⟨hi, h1⟩, h2⟩, h3⟩ := hB
    have hd : ops.getD i default = ops[i] := by simp [hi]
    simp only [wpP, hd] at h
    exact take_dry ops hs i hi h1 h2 hS (fun a' hh => wpAny_plan ops hs p n _ a' w h3 hS hh) (dry_S h)
  | .op i (k + 2) p, n + 1, listed, a, w, hB, hS, h => by
    simp only [planB, Bool.and_eq_true, decide_eq_true_eq, List.size_toArray] at hB
    obtain ⟨⟨⟨hi, h1⟩, h2⟩, h3⟩ := hB
    have hd : ops.getD i default = ops[i] := by simp [hi]
    simp only [wpP, hd] at h
    exact take_dry ops hs i hi h1 h2 hS (fun a' hh => wpAny_plan ops hs p n _ a' w h3 hS hh) h
  | .two i p j q, n + 1, listed, a, w, hB, hS, h => by
    simp only [planB, Bool.and_eq_true, beq_iff_eq, decide_eq_true_eq, List.size_toArray] at hB
    obtain ⟨⟨⟨⟨hi, hj'⟩, h1⟩, h3⟩, h4⟩ := hB
    have hd : ops.getD i default = ops[i] := by simp [hi]
    have hd2 : ops.getD j default = ops[j] := by simp [hj']
    simp only [wpP, hd, hd2] at h
    refine wpAnyH_all h1 (by simp) (fun m hm => ?_)
    have hm' : m = i ∨ m = j := by simpa using hm
    rcases hm' with rfl | rfl
    · exact do_one ops m hi (fun a w hh => ⟨hh.1, wpAny_plan ops hs p n _ a w h3 hh.1 hh.2⟩) h.1
    · exact do_one ops m hj' (fun a w hh => ⟨hh.1, wpAny_plan ops hs q n _ a w h4 hh.1 hh.2⟩) h.2
  | .three i p j q k r, n + 1, listed, a, w, hB, hS, h => by
    simp only [planB, Bool.and_eq_true, beq_iff_eq, decide_eq_true_eq, List.size_toArray] at hB
    obtain ⟨⟨⟨⟨⟨⟨hi, hj'⟩, hk'⟩, h1⟩, h3⟩, h4⟩, h5⟩ := hB
    have hd : ops.getD i default = ops[i] := by simp [hi]
    have hd2 : ops.getD j default = ops[j] := by simp [hj']
    have hd3 : ops.getD k default = ops[k] := by simp [hk']
    simp only [wpP, hd, hd2, hd3] at h
    refine wpAnyH_all h1 (by simp) (fun m hm => ?_)
    have hm' : m = i ∨ m = j ∨ m = k := by simpa using hm
    rcases hm' with rfl | rfl | rfl
    · exact do_one ops m hi (fun a w hh => ⟨hh.1, wpAny_plan ops hs p n _ a w h3 hh.1 hh.2⟩) h.1
    · exact do_one ops m hj' (fun a w hh => ⟨hh.1, wpAny_plan ops hs q n _ a w h4 hh.1 hh.2⟩) h.2.1
    · exact do_one ops m hk' (fun a w hh => ⟨hh.1, wpAny_plan ops hs r n _ a w h5 hh.1 hh.2⟩) h.2.2

/-- A region that draws its order, by a plan. -/
theorem wp_region_plan {P : Program} {id : Nat} {Q : Exit → Act → World → Prop} {a : Act} {w : World} {l : List Oper} (S : World → Prop) (p : Plan) (hm : P.follows .mixedOrders = true)
    (hB : (Region.noSelect l.toArray && planB l.toArray l.length p (Array.replicate l.length false)) = true) (hS : S w.drew)
    (h : wpP P l.toArray l S Q p a w.drew) : (Code.region id l.toArray true).wp P Q a w := by
  simp only [Bool.and_eq_true] at hB
  obtain ⟨h1, h4⟩ := hB
  refine Code.wp_mono (Q := Exit.then (fun a w => Q .normal a w) (OnlyOut Q)) ?_ ?_
  · intro e a w q
    cases e with
    | normal => exact q
    | outgrown => exact q
    | _ => exact q.elim
  · refine wp_region_held (S := S) hm ?_
    have := wpAny_plan l h1 p l.length (Array.replicate l.length false) a w.drew h4 hS h
    simpa using this
theorem wpP_done {P : Program} {ops : Array Oper} {l : List Oper} {S : World → Prop} {Q : Exit → Act → World → Prop} {a : Act} {w : World} (h : Q .normal a w) : wpP P ops l S Q .done a w := h
theorem wpP_dry {P : Program} {ops : Array Oper} {l : List Oper} {S : World → Prop} {Q : Exit → Act → World → Prop} {a : Act} {w : World} {i : Nat} {p : Plan}
    (h : ∀ K : Act → Prop, (∀ a', wpP P ops l S Q p a' w → K a') → dry P ops (l.getD i default) a K) : wpP P ops l S Q (.op i 1 p) a w := h _ (fun _ hh => hh)
theorem wpP_do {P : Program} {ops : Array Oper} {l : List Oper} {S : World → Prop} {Q : Exit → Act → World → Prop} {a : Act} {w : World} {i : Nat} {p : Plan}
    (h : wpList P ops (Exit.then (fun a' w' => Both (S w') (wpP P ops l S Q p a' w')) (OnlyOut Q)) [l.getD i default] a w) : wpP P ops l S Q (.op i 0 p) a w := h
theorem wpP_read {P : Program} {ops : Array Oper} {l : List Oper} {S : World → Prop} {Q : Exit → Act → World → Prop} {a : Act} {w : World} {i : Nat} {p : Plan} (v : Value)
    (hw : Region.wanted (l.getD i default) (yielded ops a.tmps) = true) (hv : ∀ w', S w' → (execOp a.eval (l.getD i default)).run P w' = .ok (.value v) w')
    (h : ∀ K : Act → Prop, (∀ a', wpP P ops l S Q p a' w → K a') → K (a.put (l.getD i default).dst v)) : wpP P ops l S Q (.op i 2 p) a w := by
  show dryS _ _ _ _ _ _
  unfold dryS
  rw [if_pos hw]
  exact ⟨v, hv, h _ (fun _ hh => hh)⟩
theorem wpP_skip {P : Program} {ops : Array Oper} {l : List Oper} {S : World → Prop} {Q : Exit → Act → World → Prop} {a : Act} {w : World} {i : Nat} {p : Plan}
    (h : ∀ K : Act → Prop, (∀ a', wpP P ops l S Q p a' w → K a') → dry P ops (l.getD i default) a K) : wpP P ops l S Q (.op i 2 p) a w := dry_S (h _ (fun _ hh => hh))
theorem wpP_two {P : Program} {ops : Array Oper} {l : List Oper} {S : World → Prop} {Q : Exit → Act → World → Prop} {a : Act} {w : World} {i j : Nat} {p q : Plan}
    (h1 : wpList P ops (Exit.then (fun a' w' => Both (S w') (wpP P ops l S Q p a' w')) (OnlyOut Q)) [l.getD i default] a w)
    (h2 : wpList P ops (Exit.then (fun a' w' => Both (S w') (wpP P ops l S Q q a' w')) (OnlyOut Q)) [l.getD j default] a w) : wpP P ops l S Q (.two i p j q) a w := ⟨h1, h2⟩
theorem wpP_three {P : Program} {ops : Array Oper} {l : List Oper} {S : World → Prop} {Q : Exit → Act → World → Prop} {a : Act} {w : World} {i j k : Nat} {p q r : Plan}
    (h1 : wpList P ops (Exit.then (fun a' w' => Both (S w') (wpP P ops l S Q p a' w')) (OnlyOut Q)) [l.getD i default] a w)
    (h2 : wpList P ops (Exit.then (fun a' w' => Both (S w') (wpP P ops l S Q q a' w')) (OnlyOut Q)) [l.getD j default] a w)
    (h3 : wpList P ops (Exit.then (fun a' w' => Both (S w') (wpP P ops l S Q r a' w')) (OnlyOut Q)) [l.getD k default] a w) : wpP P ops l S Q (.three i p j q k r) a w := ⟨h1, h2, h3⟩
attribute [irreducible] wpP
end Go.Proofs.Ytoolkamajlgcbaa
