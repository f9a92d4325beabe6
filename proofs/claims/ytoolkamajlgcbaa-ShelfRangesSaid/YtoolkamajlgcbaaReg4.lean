/- Reg4: as Reg, by a plan whose last operation, for which all others must have come, may break S. -/
import Derived.Test.YtoolkamajlgcbaaReg3
set_option linter.unusedVariables false
set_option linter.unusedSimpArgs false
namespace Go.Proofs.Ytoolkamajlgcbaa
open Go.RowKit

/-- In whatever order; S holds behind each operation but L. -/
def anyL (P : Program) (ops : Array Oper) (Q : Exit → Act → World → Prop) (S : World → Prop) (L : Nat) : Nat → Array Bool → Act → World → Prop
  | 0, listed, a, w => Region.ready .any ops listed = [] ∧ Q .normal a w
  | n + 1, listed, a, w => (Region.ready .any ops listed = [] → Q .normal a w) ∧
      ∀ i ∈ Region.ready .any ops listed, wpOp P ops Q i (fun a' w' => (i ≠ L → S w') ∧ anyL P ops Q S L n (listed.setIfInBounds i true) a' w') a w
theorem any_of_anyL {P : Program} {ops : Array Oper} {Q : Exit → Act → World → Prop} {S : World → Prop} {L : Nat} : ∀ (n : Nat) (listed : Array Bool) (a : Act) (w : World), anyL P ops Q S L n listed a w → wpAny P .any ops Q n listed a w
  | 0, _, _, _, h => h
  | n + 1, _, _, _, h => ⟨h.1, fun i hi => wpOp_mono (fun a' w' h' => any_of_anyL n _ a' w' h'.2) (h.2 i hi)⟩
/-- L waits for i. -/
def waitsB (ops : Array Oper) (L i : Nat) : Bool := decide (i ≠ L) && (match ops[L]? with | some o => o.after.any (fun e => Region.binds .any e && (e.on == i)) | none => false)
theorem waits_not {ops : Array Oper} {L i : Nat} {listed : Array Bool} (h : waitsB ops L i = true) (hi : i ∈ Region.ready .any ops listed) : L ∉ Region.ready .any ops listed := by
  intro hL
  obtain ⟨_, o, ho, hall⟩ := mem_ready.1 hL
  simp only [waitsB, ho, Bool.and_eq_true] at h
  obtain ⟨_, h2⟩ := h
  rw [Array.any_eq_true'] at h2
  obtain ⟨e, he, h3⟩ := h2
  simp only [Bool.and_eq_true, beq_iff_eq] at h3
  have h1 := hall e he h3.1
  have h0 := (mem_ready.1 hi).1
  rw [h3.2] at h1
  rcases Nat.lt_or_ge i listed.size with h' | h'
  · simp [h'] at h0 h1; rw [h0] at h1; cases h1
  · simp [Array.getElem?_eq_none h'] at h1
theorem anyL_take {P : Program} {ops : Array Oper} {Q : Exit → Act → World → Prop} {S : World → Prop} {L i : Nat} {oi : Oper} {v : Value} (hi : ops[i]? = some oi) (hs : Region.noSelect ops = true) (hw : waitsB ops L i = true)
    (hQ : ∀ c a w, Q (.panic c) (a.put oi.dst v) w → Q (.panic c) a w) : ∀ (n : Nat) (listed : Array Bool) (a : Act) (w : World),
      (∀ j oj, ops[j]? = some oj → j ≠ i → listed.getD j true = false → (∀ e ∈ oj.after, Region.binds .any e = true → e.on ≠ i) → oi.apart ops oj = true) →
      i ∈ Region.ready .any ops listed → YieldsIf P ops S oi v a → S w → anyL P ops Q S L n (listed.setIfInBounds i true) (a.put oi.dst v) w → anyL P ops Q S L (n + 1) listed a w := by
  have hsel := Region.noSelect_spec hs
  intro n
  induction n with
  | zero =>
    intro listed a w _ hr hy hS H
    refine ⟨fun h => (by rw [h] at hr; cases hr), fun j hj => ?_⟩
    by_cases hji : j = i
    · subst hji; exact hy.wpOp hi hS ⟨fun _ => hS, H⟩
    · have := ready_mono hj hji
      rw [H.1] at this
      cases this
  | succ n ih =>
    intro listed a w hfree hr hy hS H
    refine ⟨fun h => (by rw [h] at hr; cases hr), fun j hj => ?_⟩
    by_cases hji : j = i
    · subst hji; exact hy.wpOp hi hS ⟨fun _ => hS, H⟩
    · have hjL : j ≠ L := fun e => waits_not hw hr (e ▸ hj)
      have h1 := H.2 j (ready_mono hj hji)
      obtain ⟨hjun, oj, hoj, hall⟩ := mem_ready.1 hj
      have hnot : ∀ e ∈ oj.after, Region.binds .any e = true → e.on ≠ i := fun e he hb heq => by
        have h1 := hall e he hb
        have h0 := (mem_ready.1 hr).1
        rw [heq] at h1
        rcases Nat.lt_or_ge i listed.size with h' | h'
        · simp [h'] at h0 h1; rw [h0] at h1; cases h1
        · simp [Array.getElem?_eq_none h'] at h1
      have h2 := wpOp_putIf hoj (hfree j oj hoj hji hjun hnot) (fun cs b => hsel i oi cs b hi) (fun cs b => hsel j oj cs b hoj) hQ hy h1
      have hfree' : ∀ k ok, ops[k]? = some ok → k ≠ i → (listed.setIfInBounds j true).getD k true = false →
          (∀ e ∈ ok.after, Region.binds .any e = true → e.on ≠ i) → oi.apart ops ok = true := fun k ok hk hki hun hno => by
        refine hfree k ok hk hki ?_ hno
        by_cases hjk : j = k
        · subst hjk; exact hjun
        · rw [getD_set_ne true hjk] at hun; exact hun
      refine wpOp_mono (fun a' w' h3 => ?_) h2
      have hS' := h3.2.1 hjL
      refine ⟨fun _ => hS', ih (listed.setIfInBounds j true) a' w' hfree' (ready_mono hr (Ne.symm hji)) h3.1 hS' ?_⟩
      rw [Array.setIfInBounds_comm _ _ hji]
      exact h3.2.2
theorem anyL_all {P : Program} {ops : Array Oper} {Q : Exit → Act → World → Prop} {S : World → Prop} {L i n : Nat} {listed : Array Bool} {a : Act} {w : World} (hr : Region.ready .any ops listed = [i])
    (h : wpOp P ops Q i (fun a' w' => (i ≠ L → S w') ∧ anyL P ops Q S L n (listed.setIfInBounds i true) a' w') a w) : anyL P ops Q S L (n + 1) listed a w :=
  ⟨fun h0 => absurd (hr ▸ h0) (by simp), fun j hj => by
    obtain rfl : j = i := by rw [hr] at hj; simpa using hj
    exact h⟩
theorem anyL_done {P : Program} {ops : Array Oper} {Q : Exit → Act → World → Prop} {S : World → Prop} {L : Nat} {listed : Array Bool} {a : Act} {w : World} (hr : Region.ready .any ops listed = []) (h : Q .normal a w) : ∀ n, anyL P ops Q S L n listed a w
  | 0 => ⟨hr, h⟩
  | _ + 1 => ⟨fun _ => h, by rw [hr]; simp⟩

/-- A plan: flags as in Reg; then L. -/
def planLB (ops : Array Oper) (L : Nat) : List (Nat × Nat) → Array Bool → Bool
  | [], listed => decide (L < ops.size) && (Region.ready .any ops listed == [L]) && (Region.ready .any ops (listed.setIfInBounds L true)).isEmpty
  | (i, 0) :: p, listed => decide (i < ops.size) && decide (i ≠ L) && (Region.ready .any ops listed == [i]) && planLB ops L p (listed.setIfInBounds i true)
  | (i, _) :: p, listed => decide (i < ops.size) && (Region.ready .any ops listed).contains i && Region.free .any ops listed i && waitsB ops L i && planLB ops L p (listed.setIfInBounds i true)
def wpL (P : Program) (ops : Array Oper) (l : List Oper) (S : World → Prop) (Q : Exit → Act → World → Prop) (L : Nat) : List (Nat × Nat) → Act → World → Prop
  | [], a, w => wpList P ops (Exit.then (fun a' w' => Both True (Q .normal a' w')) (OnlyOut Q)) [l.getD L default] a w
  | (i, 0) :: p, a, w => wpList P ops (Exit.then (fun a' w' => Both (S w') (wpL P ops l S Q L p a' w')) (OnlyOut Q)) [l.getD i default] a w
  | (i, 1) :: p, a, w => dry P ops (l.getD i default) a (fun a' => wpL P ops l S Q L p a' w)
  | (i, _) :: p, a, w => dryS P ops S (l.getD i default) a (fun a' => wpL P ops l S Q L p a' w)

theorem dryL {P : Program} {Q : Exit → Act → World → Prop} {S : World → Prop} {L : Nat} (ops : List Oper) (hs : Region.noSelect ops.toArray = true) (i : Nat) (hi : i < ops.length) {n : Nat} {listed : Array Bool} {a : Act} {w : World}
    (h1 : (Region.ready .any ops.toArray listed).contains i = true) (h2 : Region.free .any ops.toArray listed i = true) (h3 : waitsB ops.toArray L i = true) (hS : S w) {K : Act → Prop}
    (hK : ∀ a', K a' → anyL P ops.toArray (Exit.then (fun a w => Q .normal a w) (OnlyOut Q)) S L n (listed.setIfInBounds i true) a' w)
    (h : dryS P ops.toArray S ops[i] a K) : anyL P ops.toArray (Exit.then (fun a w => Q .normal a w) (OnlyOut Q)) S L (n + 1) listed a w := by
  have ho : ops.toArray[i]? = some ops[i] := by simp [hi]
  unfold dryS at h
  split at h
  · rename_i hw
    obtain ⟨v, hv, h⟩ := h
    exact anyL_take ho hs h3 (fun c a w x => by simp [Exit.then, OnlyOut] at x) n listed a w (Region.free_spec ho h2) (by simpa using h1) (.inl ⟨hw, hv⟩) hS (hK _ h)
  · rename_i hw
    exact anyL_take ho hs h3 (fun c a w x => by simp [Exit.then, OnlyOut] at x) n listed a w (Region.free_spec ho h2) (by simpa using h1) (.inr ⟨by simpa using hw, rfl⟩) hS (hK _ h)

theorem any_planL {P : Program} {Q : Exit → Act → World → Prop} {S : World → Prop} {L : Nat} (ops : List Oper) (hs : Region.noSelect ops.toArray = true) :
    ∀ (p : List (Nat × Nat)) (n : Nat) (listed : Array Bool) (a : Act) (w : World), planLB ops.toArray L p listed = true → n = p.length + 1 → S w →
      wpL P ops.toArray ops S Q L p a w → anyL P ops.toArray (Exit.then (fun a w => Q .normal a w) (OnlyOut Q)) S L n listed a w
  | [], n, listed, a, w, hB, hn, hS, h => by
    obtain rfl : n = 0 + 1 := hn
    simp only [planLB, Bool.and_eq_true, beq_iff_eq, decide_eq_true_eq, List.size_toArray] at hB
    obtain ⟨⟨hi, h1⟩, h3⟩ := hB
    have hd : ops.getD L default = ops[L] := by simp [hi]
    simp only [wpL, hd] at h
    exact anyL_all h1 (do_one (S := fun _ => True) (T := fun a w => Q .normal a w) ops L hi (fun a w hh => ⟨fun x => absurd rfl x, anyL_done (Q := Exit.then (fun a w => Q .normal a w) (OnlyOut Q)) (by simpa using h3) hh.2 _⟩) h)
  | (i, 0) :: p, n, listed, a, w, hB, hn, hS, h => by
    obtain rfl : n = (p.length + 1) + 1 := hn
    simp only [planLB, Bool.and_eq_true, beq_iff_eq, decide_eq_true_eq, List.size_toArray] at hB
    obtain ⟨⟨⟨hi, hL⟩, h1⟩, h3⟩ := hB
    have hd : ops.getD i default = ops[i] := by simp [hi]
    simp only [wpL, hd] at h
    exact anyL_all h1 (do_one ops i hi (fun a w hh => ⟨fun _ => hh.1, any_planL ops hs p _ _ a w h3 rfl hh.1 hh.2⟩) h)
  | (i, 1) :: p, n, listed, a, w, hB, hn, hS, h => by
    obtain rfl : n = (p.length + 1) + 1 := hn
    simp only [planLB, Bool.and_eq_true, decide_eq_true_eq, List.size_toArray] at hB
    obtain ⟨⟨⟨⟨hi, h1⟩, h2⟩, h4⟩, h3⟩ := hB
    have hd : ops.getD i default = ops[i] := by simp [hi]
    simp only [wpL, hd] at h
    exact dryL ops hs i hi h1 h2 h4 hS (fun a' hh => any_planL ops hs p _ _ a' w h3 rfl hS hh) (dry_S h)
  | (i, k + 2) :: p, n, listed, a, w, hB, hn, hS, h => by
    obtain rfl : n = (p.length + 1) + 1 := hn
    simp only [planLB, Bool.and_eq_true, decide_eq_true_eq, List.size_toArray] at hB
    obtain ⟨⟨⟨⟨hi, h1⟩, h2⟩, h4⟩, h3⟩ := hB
    have hd : ops.getD i default = ops[i] := by simp [hi]
    simp only [wpL, hd] at h
    exact dryL ops hs i hi h1 h2 h4 hS (fun a' hh => any_planL ops hs p _ _ a' w h3 rfl hS hh) h

/-- A region that draws its order, by a plan and its last operation. -/
theorem wp_region_last {P : Program} {id : Nat} {Q : Exit → Act → World → Prop} {a : Act} {w : World} {l : List Oper} (S : World → Prop) (p : List (Nat × Nat)) (L : Nat) (hm : P.follows .mixedOrders = true)
    (hB : (Region.noSelect l.toArray && planLB l.toArray L p (Array.replicate l.length false) && decide (l.length = p.length + 1)) = true) (hS : S w.drew)
    (h : wpL P l.toArray l S Q L p a w.drew) : (Code.region id l.toArray true).wp P Q a w := by
  simp only [Bool.and_eq_true, decide_eq_true_eq] at hB
  obtain ⟨⟨h1, h4⟩, h5⟩ := hB
  refine Code.wp_mono (Q := Exit.then (fun a w => Q .normal a w) (OnlyOut Q)) ?_ ?_
  · intro e a w q
    cases e with
    | normal => exact q
    | outgrown => exact q
    | _ => exact q.elim
  · refine wp_region_any hm (any_of_anyL (S := S) (L := L) _ _ _ _ ?_)
    have := any_planL l h1 p l.length (Array.replicate l.length false) a w.drew h4 h5 hS h
    simpa using this
theorem wpL_dry {P : Program} {ops : Array Oper} {l : List Oper} {S : World → Prop} {Q : Exit → Act → World → Prop} {L : Nat} {a : Act} {w : World} {i : Nat} {p : List (Nat × Nat)} (h : ∀ K : Act → Prop, (∀ a', wpL P ops l S Q L p a' w → K a') → dry P ops (l.getD i default) a K) : wpL P ops l S Q L ((i, 1) :: p) a w := h _ (fun _ hh => hh)
theorem wpL_do {P : Program} {ops : Array Oper} {l : List Oper} {S : World → Prop} {Q : Exit → Act → World → Prop} {L : Nat} {a : Act} {w : World} {i : Nat} {p : List (Nat × Nat)} (h : wpList P ops (Exit.then (fun a' w' => Both (S w') (wpL P ops l S Q L p a' w')) (OnlyOut Q)) [l.getD i default] a w) : wpL P ops l S Q L ((i, 0) :: p) a w := h
theorem wpL_last {P : Program} {ops : Array Oper} {l : List Oper} {S : World → Prop} {Q : Exit → Act → World → Prop} {L : Nat} {a : Act} {w : World} (h : wpList P ops (Exit.then (fun a' w' => Both True (Q .normal a' w')) (OnlyOut Q)) [l.getD L default] a w) : wpL P ops l S Q L [] a w := h
theorem wpL_read {P : Program} {ops : Array Oper} {l : List Oper} {S : World → Prop} {Q : Exit → Act → World → Prop} {L : Nat} {a : Act} {w : World} {i : Nat} {p : List (Nat × Nat)} (v : Value) (hw : Region.wanted (l.getD i default) (yielded ops a.tmps) = true) (hv : ∀ w', S w' → (execOp a.eval (l.getD i default)).run P w' = .ok (.value v) w')
    (h : ∀ K : Act → Prop, (∀ a', wpL P ops l S Q L p a' w → K a') → K (a.put (l.getD i default).dst v)) : wpL P ops l S Q L ((i, 2) :: p) a w := by
  show dryS _ _ _ _ _ _
  unfold dryS
  rw [if_pos hw]
  exact ⟨v, hv, h _ (fun _ hh => hh)⟩
theorem wpL_skip {P : Program} {ops : Array Oper} {l : List Oper} {S : World → Prop} {Q : Exit → Act → World → Prop} {L : Nat} {a : Act} {w : World} {i : Nat} {p : List (Nat × Nat)} (h : ∀ K : Act → Prop, (∀ a', wpL P ops l S Q L p a' w → K a') → dry P ops (l.getD i default) a K) : wpL P ops l S Q L ((i, 2) :: p) a w := dry_S (h _ (fun _ hh => hh))
attribute [irreducible] wpL
end Go.Proofs.Ytoolkamajlgcbaa
