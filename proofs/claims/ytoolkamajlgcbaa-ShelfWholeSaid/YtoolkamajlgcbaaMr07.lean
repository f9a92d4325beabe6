/- Reg4: as Reg, by a plan whose last operation, for which all others must have come, may break S. -/
import Derived.Test.YtoolkamajlgcbaaMr06
import Derived.RangeFuncBox
import Derived.Maps.AppendAt
set_option linter.unusedVariables false
set_option linter.unusedSimpArgs false
namespace Go.Proofs.Ytoolkamajlgcbaa
open Go.RowKit

/-- In whatever order; S holds behind each operation but L. -/
def anyL (P : Program) (ops : Array Oper) (Q : Exit → Act → World → Prop) (S : World → Prop) (L : Nat) : Nat → Array Bool → Act → World → Prop
  | 0, listed, a, w => Region.ready .any ops listed = [] ∧ Q .normal a w
  | n + 1, listed, a, w => (Region.ready .any ops listed = [] → Q .normal a w) ∧
      ∀ i ∈ Region.ready .any ops listed, wpOp P ops Q i (fun a' w' => (i ≠ L → S w') ∧ anyL P ops Q S L n (listed.setIfInBounds i true) a' w') a w
theorem any_of_anyL {P : Program} {ops : Array Oper} {Q : Exit → Act → World → Prop} {S : World → Prop} {L : Nat} : ∀ (n : Nat) (listed : Array Bool) (a : Act) (w : World), anyL P ops Q S L n listed a w → wpAny P .any ops Q n listed a w
  | 0, _, _, _, h => h
  | n + 1, _, _, _, h => ⟨h.1, fun i hi => wpOp_mono (fun a' w' h' => any_of_anyL n _ a' w' h'.2) (h.2 i hi)⟩
/-- L waits for i. -/
def waitsB (ops : Array Oper) (L i : Nat) : Bool := decide (i ≠ L) && (match ops[L]? with | some o => o.after.any (fun e => Region.binds .any e && (e.on == i)) | none => false)
theorem waits_not {ops : Array Oper} {L i : Nat} {listed : Array Bool} (h : waitsB ops L i = true) (hi : i ∈ Region.ready .any ops listed) : L ∉ Region.ready .any ops listed := by
  intro hL
  obtain ⟨_, o, ho, hall⟩ := mem_ready.1 hL
  simp only [waitsB, ho, Bool.and_eq_true] at h
  obtain ⟨_, h2⟩ := h
  rw [Array.any_eq_true'] at h2
  obtain ⟨e, he, h3⟩ := h2
  simp only [Bool.and_eq_true, beq_iff_eq] at h3
  have h1 := hall e he h3.1
  have h0 := (mem_ready.1 hi).1
  rw [h3.2] at h1
  rcases Nat.lt_or_ge i listed.size with h' | h'
  · simp [h'] at h0 h1; rw [h0] at h1; cases h1
  · simp [Array.getElem?_eq_none h'] at h1
theorem anyL_take {P : Program} {ops : Array Oper} {Q : Exit → Act → World → Prop} {S : World → Prop} {L i : Nat} {oi : Oper} {v : Value} (hi : ops[i]? = some oi) (hs : Region.noSelect ops = true) (hw : waitsB ops L i = true)
    (hQ : ∀ c a w, Q (.panic c) (a.put oi.dst v) w → Q (.panic c) a w) : ∀ (n : Nat) (listed : Array Bool) (a : Act) (w : World),
      (∀ j oj, ops[j]? = some oj → j ≠ i → listed.getD j true = false → (∀ e ∈ oj.after, Region.binds .any e = true → e.on ≠ i) → oi.apart ops oj = true) →
      i ∈ Region.ready .any ops listed → YieldsIf P ops S oi v a → S w → anyL P ops Q S L n (listed.setIfInBounds i true) (a.put oi.dst v) w → anyL P ops Q S L (n + 1) listed a w := by
  have hsel := Region.noSelect_spec hs
  intro n
  induction n with
  | zero =>
    intro listed a w _ hr hy hS H
    refine ⟨fun h => (by rw [h] at hr; cases hr), fun j hj => ?_⟩
    by_cases hji : j = i
    · subst hji; exact hy.wpOp hi hS ⟨fun _ => hS, H⟩
    · have := ready_mono hj hji
      rw [H.1] at this
      cases this
  | succ n ih =>
    intro listed a w hfree hr hy hS H
    refine ⟨fun h => (by rw [h] at hr; cases hr), fun j hj => ?_⟩
    by_cases hji : j = i
    · subst hji; exact hy.wpOp hi hS ⟨fun _ => hS, H⟩
    · have hjL : j ≠ L := fun e => waits_not hw hr (e ▸ hj)
      have h1 := H.2 j (ready_mono hj hji)
      obtain ⟨hjun, oj, hoj, hall⟩ := mem_ready.1 hj
      have hnot : ∀ e ∈ oj.after, Region.binds .any e = true → e.on ≠ i := fun e he hb heq => by
        have h1 := hall e he hb
        have h0 := (mem_ready.1 hr).1
        rw [heq] at h1
        rcases Nat.lt_or_ge i listed.size with h' | h'
        · simp [h'] at h0 h1; rw [h0] at h1; cases h1
        · simp [Array.getElem?_eq_none h'] at h1
      have h2 := wpOp_putIf hoj (hfree j oj hoj hji hjun hnot) (fun cs b => hsel i oi cs b hi) (fun cs b => hsel j oj cs b hoj) hQ hy h1
      have hfree' : ∀ k ok, ops[k]? = some ok → k ≠ i → (listed.setIfInBounds j true).getD k true = false →
          (∀ e ∈ ok.after, Region.binds .any e = true → e.on ≠ i) → oi.apart ops ok = true := fun k ok hk hki hun hno => by
        refine hfree k ok hk hki ?_ hno
        by_cases hjk : j = k
        · subst hjk; exact hjun
        · rw [getD_set_ne true hjk] at hun; exact hun
      refine wpOp_mono (fun a' w' h3 => ?_) h2
      have hS' := h3.2.1 hjL
      refine ⟨fun _ => hS', ih (listed.setIfInBounds j true) a' w' hfree' (ready_mono hr (Ne.symm hji)) h3.1 hS' ?_⟩
      rw [Array.setIfInBounds_comm _ _ hji]
      exact h3.2.2
theorem anyL_all {P : Program} {ops : Array Oper} {Q : Exit → Act → World → Prop} {S : World → Prop} {L i n : Nat} {listed : Array Bool} {a : Act} {w : World} (hr : Region.ready .any ops listed = [i])
    (h : wpOp P ops Q i (fun a' w' => (i ≠ L → S w') ∧ anyL P ops Q S L n (listed.setIfInBounds i true) a' w') a w) : anyL P ops Q S L (n + 1) listed a w :=
  ⟨fun h0 => absurd (hr ▸ h0) (by simp), fun j hj => by
    obtain rfl : j = i := by rw [hr] at hj; simpa using hj
    exact h⟩
theorem anyL_done {P : Program} {ops : Array Oper} {Q : Exit → Act → World → Prop} {S : World → Prop} {L : Nat} {listed : Array Bool} {a : Act} {w : World} (hr : Region.ready .any ops listed = []) (h : Q .normal a w) : ∀ n, anyL P ops Q S L n listed a w
  | 0 => ⟨hr, h⟩
  | _ + 1 => ⟨fun _ => h, by rw [hr]; simp⟩

/-- A plan: flags as in Reg; then L. -/
def planLB (ops : Array Oper) (L : Nat) : List (Nat × Nat) → Array Bool → Bool
  | [], listed => decide (L < ops.size) && (Region.ready .any ops listed == [L]) && (Region.ready .any ops (listed.setIfInBounds L true)).isEmpty
  | (i, 0) :: p, listed => decide (i < ops.size) && decide (i ≠ L) && (Region.ready .any ops listed == [i]) && planLB ops L p (listed.setIfInBounds i true)
  | (i, _) :: p, listed => decide (i < ops.size) && (Region.ready .any ops listed).contains i && Region.free .any ops listed i && waitsB ops L i && planLB ops L p (listed.setIfInBounds i true)
def wpL (P : Program) (ops : Array Oper) (l : List Oper) (S : World → Prop) (Q : Exit → Act → World → Prop) (L : Nat) : List (Nat × Nat) → Act → World → Prop
  | [], a, w => wpList P ops (Exit.then (fun a' w' => Both True (Q .normal a' w')) (OnlyOut Q)) [l.getD L default] a w
  | (i, 0) :: p, a, w => wpList P ops (Exit.then (fun a' w' => Both (S w') (wpL P ops l S Q L p a' w')) (OnlyOut Q)) [l.getD i default] a w
  | (i, 1) :: p, a, w => dry P ops (l.getD i default) a (fun a' => wpL P ops l S Q L p a' w)
  | (i, _) :: p, a, w => dryS P ops S (l.getD i default) a (fun a' => wpL P ops l S Q L p a' w)

theorem dryL {P : Program} {Q : Exit → Act → World → Prop} {S : World → Prop} {L : Nat} (ops : List Oper) (hs : Region.noSelect ops.toArray = true) (i : Nat) (hi : i < ops.length) {n : Nat} {listed : Array Bool} {a : Act} {w : World}
    (h1 : (Region.ready .any ops.toArray listed).contains i = true) (h2 : Region.free .any ops.toArray listed i = true) (h3 : waitsB ops.toArray L i = true) (hS : S w) {K : Act → Prop}
    (hK : ∀ a', K a' → anyL P ops.toArray (Exit.then (fun a w => Q .normal a w) (OnlyOut Q)) S L n (listed.setIfInBounds i true) a' w)
    (h : dryS P ops.toArray S ops[i] a K) : anyL P ops.toArray (Exit.then (fun a w => Q .normal a w) (OnlyOut Q)) S L (n + 1) listed a w := by
  have ho : ops.toArray[i]? = some ops[i] := by simp [hi]
  unfold dryS at h
  split at h
  · rename_i hw
    obtain ⟨v, hv, h⟩ := h
    exact anyL_take ho hs h3 (fun c a w x => by simp [Exit.then, OnlyOut] at x) n listed a w (Region.free_spec ho h2) (by simpa using h1) (.inl ⟨hw, hv⟩) hS (hK _ h)
  · rename_i hw
    exact anyL_take ho hs h3 (fun c a w x => by simp [Exit.then, OnlyOut] at x) n listed a w (Region.free_spec ho h2) (by simpa using h1) (.inr ⟨by simpa using hw, rfl⟩) hS (hK _ h)

theorem any_planL {P : Program} {Q : Exit → Act → World → Prop} {S : World → Prop} {L : Nat} (ops : List Oper) (hs : Region.noSelect ops.toArray = true) :
    ∀ (p : List (Nat × Nat)) (n : Nat) (listed : Array Bool) (a : Act) (w : World), planLB ops.toArray L p listed = true → n = p.length + 1 → S w →
      wpL P ops.toArray ops S Q L p a w → anyL P ops.toArray (Exit.then (fun a w => Q .normal a w) (OnlyOut Q)) S L n listed a w
  | [], n, listed, a, w, hB, hn, hS, h => by
    obtain rfl : n = 0 + 1 := hn
    simp only [planLB, Bool.and_eq_true, beq_iff_eq, decide_eq_true_eq, List.size_toArray] at hB
    obtain ⟨⟨hi, h1⟩, h3⟩ := hB
    have hd : ops.getD L default = ops[L] := by simp [hi]
    simp only [wpL, hd] at h
    exact anyL_all h1 (do_one (S := fun _ => True) (T := fun a w => Q .normal a w) ops L hi (fun a w hh => ⟨fun x => absurd rfl x, anyL_done (Q := Exit.then (fun a w => Q .normal a w) (OnlyOut Q)) (by simpa using h3) hh.2 _⟩) h)
  | (i, 0) :: p, n, listed, a, w, hB, hn, hS, h => by
    obtain rfl : n = (p.length + 1) + 1 := hn
    simp only [planLB, Bool.and_eq_true, beq_iff_eq, decide_eq_true_eq, List.size_toArray] at hB
    obtain ⟨⟨⟨hi, hL⟩, h1⟩, h3⟩ := hB
    have hd : ops.getD i default = ops[i] := by simp [hi]
    simp only [wpL, hd] at h
    exact anyL_all h1 (do_one ops i hi (fun a w hh => ⟨fun _ => hh.1, any_planL ops hs p _ _ a w h3 rfl hh.1 hh.2⟩) h)
  | (i, 1) :: p, n, listed, a, w, hB, hn, hS, h => by
    obtain rfl : n = (p.length + 1) + 1 := hn
    simp only [planLB, Bool.and_eq_true, decide_eq_true_eq, List.size_toArray] at hB
    obtain ⟨⟨⟨⟨hi, h1⟩, h2⟩, h4⟩, h3⟩ := hB
    have hd : ops.getD i default = ops[i] := by simp [hi]
    simp only [wpL, hd] at h
    exact dryL ops hs i hi h1 h2 h4 hS (fun a' hh => any_planL ops hs p _ _ a' w h3 rfl hS hh) (dry_S h)
  | (i, k + 2) :: p, n, listed, a, w, hB, hn, hS, h => by
    obtain rfl : n = (p.length + 1) + 1 := hn
    simp only [planLB, Bool.and_eq_true, decide_eq_true_eq, List.size_toArray] at hB
    obtain ⟨⟨⟨⟨hi, h1⟩, h2⟩, h4⟩, h3⟩ := hB
    have hd : ops.getD i default = ops[i] := by simp [hi]
    simp only [wpL, hd] at h
    exact dryL ops hs i hi h1 h2 h4 hS (fun a' hh => any_planL ops hs p _ _ a' w h3 rfl hS hh) h

/-- A region that draws its order, by a plan and its last operation. -/
theorem wp_region_last {P : Program} {id : Nat} {Q : Exit → Act → World → Prop} {a : Act} {w : World} {l : List Oper} (S : World → Prop) (p : List (Nat × Nat)) (L : Nat) (hm : P.follows .mixedOrders = true)
    (hB : (Region.noSelect l.toArray && planLB l.toArray L p (Array.replicate l.length false) && decide (l.length = p.length + 1)) = true) (hS : S w.drew)
    (h : wpL P l.toArray l S Q L p a w.drew) : (Code.region id l.toArray true).wp P Q a w := by
  simp only [Bool.and_eq_true, decide_eq_true_eq] at hB
  obtain ⟨⟨h1, h4⟩, h5⟩ := hB
  refine Code.wp_mono (Q := Exit.then (fun a w => Q .normal a w) (OnlyOut Q)) ?_ ?_
  · intro e a w q
    cases e with
    | normal => exact q
    | outgrown => exact q
    | _ => exact q.elim
  · refine wp_region_any hm (any_of_anyL (S := S) (L := L) _ _ _ _ ?_)
    have := any_planL l h1 p l.length (Array.replicate l.length false) a w.drew h4 h5 hS h
    simpa using this
theorem wpL_dry {P : Program} {ops : Array Oper} {l : List Oper} {S : World → Prop} {Q : Exit → Act → World → Prop} {L : Nat} {a : Act} {w : World} {i : Nat} {p : List (Nat × Nat)} (h : ∀ K : Act → Prop, (∀ a', wpL P ops l S Q L p a' w → K a') → dry P ops (l.getD i default) a K) : wpL P ops l S Q L ((i, 1) :: p) a w := h _ (fun _ hh => hh)
theorem wpL_do {P : Program} {ops : Array Oper} {l : List Oper} {S : World → Prop} {Q : Exit → Act → World → Prop} {L : Nat} {a : Act} {w : World} {i : Nat} {p : List (Nat × Nat)} (h : wpList P ops (Exit.then (fun a' w' => Both (S w') (wpL P ops l S Q L p a' w')) (OnlyOut Q)) [l.getD i default] a w) : wpL P ops l S Q L ((i, 0) :: p) a w := h
theorem wpL_last {P : Program} {ops : Array Oper} {l : List Oper} {S : World → Prop} {Q : Exit → Act → World → Prop} {L : Nat} {a : Act} {w : World} (h : wpList P ops (Exit.then (fun a' w' => Both True (Q .normal a' w')) (OnlyOut Q)) [l.getD L default] a w) : wpL P ops l S Q L [] a w := h
theorem wpL_read {P : Program} {ops : Array Oper} {l : List Oper} {S : World → Prop} {Q : Exit → Act → World → Prop} {L : Nat} {a : Act} {w : World} {i : Nat} {p : List (Nat × Nat)} (v : Value) (hw : Region.wanted (l.getD i default) (yielded ops a.tmps) = true) (hv : ∀ w', S w' → (execOp a.eval (l.getD i default)).run P w' = .ok (.value v) w')
    (h : ∀ K : Act → Prop, (∀ a', wpL P ops l S Q L p a' w → K a') → K (a.put (l.getD i default).dst v)) : wpL P ops l S Q L ((i, 2) :: p) a w := by
  show dryS _ _ _ _ _ _
  unfold dryS
  rw [if_pos hw]
  exact ⟨v, hv, h _ (fun _ hh => hh)⟩
theorem wpL_skip {P : Program} {ops : Array Oper} {l : List Oper} {S : World → Prop} {Q : Exit → Act → World → Prop} {L : Nat} {a : Act} {w : World} {i : Nat} {p : List (Nat × Nat)} (h : ∀ K : Act → Prop, (∀ a', wpL P ops l S Q L p a' w → K a') → dry P ops (l.getD i default) a K) : wpL P ops l S Q L ((i, 2) :: p) a w := dry_S (h _ (fun _ hh => hh))
attribute [irreducible] wpL
end Go.Proofs.Ytoolkamajlgcbaa
/- Reg5: as Reg, in two parts: behind the first the world meets more (S2). -/
set_option linter.unusedVariables false
set_option linter.unusedSimpArgs false
namespace Go.Proofs.Ytoolkamajlgcbaa
open Go.RowKit

theorem op_mono {P : Program} {ops : Array Oper} {Q : Exit → Act → World → Prop} {i : Nat} {K K' : Act → World → Prop} (hK : ∀ a w, K a w → K' a w) {a : Act} {w : World} (h : wpOp P ops Q i K a w) : wpOp P ops Q i K' a w := wpOp_mono hK h
theorem anyH_mono {P : Program} {md : Region.Mode} {ops : Array Oper} {Q : Exit → Act → World → Prop} {S S2 : World → Prop} (h12 : ∀ w, S2 w → S w) : ∀ (fuel : Nat) (listed : Array Bool) (a : Act) (w : World), wpAnyH P md ops Q S2 fuel listed a w → wpAnyH P md ops Q S fuel listed a w
  | 0, _, _, _, h => h
  | fuel + 1, _, _, _, h => ⟨h.1, fun i hi => wpOp_mono (fun a' w' h' => ⟨h12 _ h'.1, anyH_mono h12 fuel _ a' w' h'.2⟩) (h.2 i hi)⟩
def flagB2 (ops : Array Oper) (o2 : List (Nat × Nat)) : List (Nat × Nat) → Array Bool → Bool
  | [], listed => flagB ops o2 listed
  | (i, 0) :: l, listed => (Region.ready .any ops listed == [i]) && flagB2 ops o2 l (listed.setIfInBounds i true)
  | (i, _) :: l, listed => (Region.ready .any ops listed).contains i && Region.free .any ops listed i && flagB2 ops o2 l (listed.setIfInBounds i true)
/-- What follows the first part. -/
def Next2 (P : Program) (ops : List Oper) (S2 : World → Prop) (Q : Exit → Act → World → Prop) (o2 : List (Nat × Nat)) : Exit → Act → World → Prop
  | .normal, a, w => Both (S2 w) (wpF P ops.toArray S2 Q (ordered ops o2) a w)
  | .outgrown, a, w => Q .outgrown a w
  | _, _, _ => False

theorem wpAny_flag2 {P : Program} {Q : Exit → Act → World → Prop} {S S2 : World → Prop} (h12 : ∀ w, S2 w → S w) (ops : List Oper) (hs : Region.noSelect ops.toArray = true) (o2 : List (Nat × Nat)) (ho2 : ∀ x ∈ o2, x.1 < ops.length) :
    ∀ (order : List (Nat × Nat)) (listed : Array Bool) (a : Act) (w : World), flagB2 ops.toArray o2 order listed = true → (∀ x ∈ order, x.1 < ops.length) → S w →
      wpF P ops.toArray S (Next2 P ops S2 Q o2) (ordered ops order) a w → wpAnyH P .any ops.toArray (Exit.then (fun a w => Q .normal a w) (OnlyOut Q)) S (order.length + o2.length) listed a w
  | [], listed, a, w, hB, _, hS, h => by
    rw [show ordered ops [] = [] from rfl] at h
    unfold wpF at h
    unfold Next2 at h
    have := wpAny_flag ops hs o2 listed a w hB ho2 h.1 h.2
    rw [List.length_nil, Nat.zero_add]
    exact anyH_mono h12 _ _ _ _ this
  | (i, 0) :: l, listed, a, w, hB, hl, hS, h => by
    simp only [flagB2, Bool.and_eq_true, beq_iff_eq] at hB
    obtain ⟨h1, h3⟩ := hB
    have hi : i < ops.length := hl _ (List.mem_cons_self ..)
    rw [List.length_cons, show l.length + 1 + o2.length = (l.length + o2.length) + 1 by omega]
    have ho : ops.toArray[i]? = some ops[i] := by simp [hi]
    have hd : ops.getD i default = ops[i] := by simp [hi]
    simp only [ordered, List.map_cons, wpF, hd] at h
    refine wpAnyH_all h1 (by simp) (fun j hj => ?_)
    obtain rfl : j = i := by simpa using hj
    have key : ∀ a w, Both (S w) (wpF P ops.toArray S (Next2 P ops S2 Q o2) (ordered ops l) a w) → S w ∧ wpAnyH P .any ops.toArray (Exit.then (fun a w => Q .normal a w) (OnlyOut Q)) S (l.length + o2.length) (listed.setIfInBounds j true) a w :=
      fun a w hh => ⟨hh.1, wpAny_flag2 h12 ops hs o2 ho2 l _ a w h3 (fun x hx => hl x (List.mem_cons_of_mem _ hx)) hh.1 hh.2⟩
    unfold wpOp
    simp only [ho]
    unfold wpList at h
    have hout : LetsOut (Exit.then (fun a' w' => Both (S w') (wpF P ops.toArray S (Next2 P ops S2 Q o2) (ordered ops l) a' w')) (OnlyOut (Next2 P ops S2 Q o2))) → LetsOut (Exit.then (fun a w => Q .normal a w) (OnlyOut Q)) := by
      rintro ⟨a, w, x⟩
      exact ⟨a, w, x⟩
    split
    · rename_i hw
      rw [if_pos hw] at h
      rcases h with h | ⟨h, hx⟩
      · refine .inl ?_
        unfold Oper.wp at h ⊢
        generalize (execOp a.eval ops[j]).run P w = r at h
        cases r with
        | ok n w' =>
          cases n <;> simp only [Oper.upon] at h ⊢
          case value v => exact key _ _ h
          case skip => exact key _ _ h
          case defer d => exact key _ _ h
          case enter f args =>
            exact h.mono fun e w'' he => by
              cases e with
              | returned v => exact key _ _ he
              | panicked c => exact he
              | outgrown => exact hout he
          case row row args => exact h.mono fun v w'' he => key _ _ he
        | halt x w' => cases x <;> simp only [Oper.upon] at h ⊢ <;> exact h
      · exact .inr ⟨h, hout hx⟩
    · rename_i hw
      rw [if_neg hw] at h
      exact key _ _ h
  | (i, 1) :: l, listed, a, w, hB, hl, hS, h => by
    simp only [flagB2, Bool.and_eq_true] at hB
    obtain ⟨⟨h1, h2⟩, h3⟩ := hB
    have hi : i < ops.length := hl _ (List.mem_cons_self ..)
    rw [List.length_cons, show l.length + 1 + o2.length = (l.length + o2.length) + 1 by omega]
    have hd : ops.getD i default = ops[i] := by simp [hi]
    simp only [ordered, List.map_cons, wpF, hd] at h
    exact take_dry ops hs i hi h1 h2 hS (fun a' hh => wpAny_flag2 h12 ops hs o2 ho2 l _ a' w h3 (fun x hx => hl x (List.mem_cons_of_mem _ hx)) hS hh) (dry_S h)
  | (i, k + 2) :: l, listed, a, w, hB, hl, hS, h => by
    simp only [flagB2, Bool.and_eq_true] at hB
    obtain ⟨⟨h1, h2⟩, h3⟩ := hB
    have hi : i < ops.length := hl _ (List.mem_cons_self ..)
    rw [List.length_cons, show l.length + 1 + o2.length = (l.length + o2.length) + 1 by omega]
    have hd : ops.getD i default = ops[i] := by simp [hi]
    simp only [ordered, List.map_cons, wpF, hd] at h
    exact take_dry ops hs i hi h1 h2 hS (fun a' hh => wpAny_flag2 h12 ops hs o2 ho2 l _ a' w h3 (fun x hx => hl x (List.mem_cons_of_mem _ hx)) hS hh) h

/-- A region that draws its order, in two parts. -/
theorem wp_region_flag2 {P : Program} {id : Nat} {Q : Exit → Act → World → Prop} {a : Act} {w : World} {l : List Oper} (S S2 : World → Prop) (order o2 : List (Nat × Nat)) (hm : P.follows .mixedOrders = true)
    (hB : (Region.noSelect l.toArray && order.all (fun x => decide (x.1 < l.length)) && o2.all (fun x => decide (x.1 < l.length)) && (order.length + o2.length == l.length) && flagB2 l.toArray o2 order (Array.replicate l.length false)) = true) (h12 : ∀ w, S2 w → S w) (hS : S w.drew)
    (h : wpF P l.toArray S (Next2 P l S2 Q o2) (ordered l order) a w.drew) : (Code.region id l.toArray true).wp P Q a w := by
  simp only [Bool.and_eq_true, List.all_eq_true, decide_eq_true_eq, beq_iff_eq] at hB
  obtain ⟨⟨⟨⟨h1, h2⟩, h2'⟩, h3⟩, h4⟩ := hB
  refine Code.wp_mono (Q := Exit.then (fun a w => Q .normal a w) (OnlyOut Q)) ?_ ?_
  · intro e a w q
    cases e with
    | normal => exact q
    | outgrown => exact q
    | _ => exact q.elim
  · refine wp_region_held (S := S) hm ?_
    have := wpAny_flag2 h12 l h1 o2 h2' order (Array.replicate l.length false) a w.drew h4 h2 hS h
    rw [h3] at this
    simpa using this
theorem next2 {P : Program} {ops : List Oper} {S2 : World → Prop} {Q : Exit → Act → World → Prop} {o2 : List (Nat × Nat)} {a : Act} {w : World} (h2 : S2 w) (h : wpF P ops.toArray S2 Q (ordered ops o2) a w) : Next2 P ops S2 Q o2 .normal a w := ⟨h2, h⟩
end Go.Proofs.Ytoolkamajlgcbaa
/- JnIp: bytes, and runs that flush or write: what Commit and Open share. -/
set_option linter.unusedVariables false
set_option linter.unusedSimpArgs false
namespace Go.Proofs.Ytoolkamajlgcbaa
open Go.RowKit
/-- The mark that tells pages. -/
def mkK (l : List Chg) : List UInt8 := l.foldl (fun m c => m.set (c.1 / 8) (m.getD (c.1 / 8) 0 ||| UInt8.ofNat (2 ^ (c.1 % 8)))) (List.replicate 256 0)
theorem mkK_snoc (l : List Chg) (x : Chg) : mkK (l ++ [x]) = (mkK l).set (x.1 / 8) ((mkK l).getD (x.1 / 8) 0 ||| UInt8.ofNat (2 ^ (x.1 % 8))) := by unfold mkK; rw [List.foldl_append]; rfl
theorem foldl_len {α : Type} (f : List UInt8 → α → List UInt8) (hf : ∀ m x, (f m x).length = m.length) : ∀ (l : List α) (m : List UInt8), (l.foldl f m).length = m.length
  | [], m => rfl
  | x :: l, m => by rw [List.foldl_cons, foldl_len f hf l, hf]
theorem mkK_len (l : List Chg) : (mkK l).length = 256 := by unfold mkK; rw [foldl_len _ (fun m x => List.length_set ..), List.length_replicate]
def mkB (l : List Chg) : ByteArray := ⟨(mkK l).toArray⟩
theorem stop3 {d : Dk} {a : List Stp} (h : (run d a).2 ≠ 0) (b c e : List Stp) : run d (a ++ b ++ c ++ e) = run d a := by
  have h1 : run d (a ++ b) = run d a := run_stop h b
  have h2 : run d (a ++ b ++ c) = run d a := by rw [run_stop (by rw [h1]; exact h), h1]
  rw [run_stop (by rw [h2]; exact h), h2]
theorem stop2 {d : Dk} {a b : List Stp} (h : (run d a).2 = 0) (hb : (run (run d a).1 b).2 ≠ 0) (c e : List Stp) : run d (a ++ b ++ c ++ e) = run (run d a).1 b := by
  have h1 : run d (a ++ b) = run (run d a).1 b := run_go h b
  have h2 : run d (a ++ b ++ c) = run (run d a).1 b := by rw [run_stop (by rw [h1]; exact hb), h1]
  rw [run_stop (by rw [h2]; exact hb), h2]
theorem stop1 {d : Dk} {a b : List Stp} (h : (run d a).2 = 0) (hb : (run (run d a).1 b).2 ≠ 0) (e : List Stp) : run d (a ++ b ++ e) = run (run d a).1 b := by
  have h1 : run d (a ++ b) = run (run d a).1 b := run_go h b
  rw [run_stop (by rw [h1]; exact hb), h1]
theorem flushed_run (w : World) (F : Nat → Prop) (gj g P : Nat) (d : Dk) (S : List Stp) (r : Dk × Int) (hr : r = run d S) (h : HasDisk w F g r.1) (hj : Jb w gj g P) (hf : Fw 0 r.1) :
    Calls Try.prog 49 #[.pointer (some ⟨gj, 0, none⟩), .int .i64 r.2] w fun e w' => e = .returned (.int .i64 (run d (S ++ [flushS])).2) ∧ ∃ F', DTo w F g (run d (S ++ [flushS])).1 w' F' := by
  have := flushed_any w F gj g P r.1 h hj hf r.2
  by_cases hx : r.2 = 0
  · have e : run d (S ++ [flushS]) = (r.1.flush, r.1.use 0) := by
      subst hr
      rw [run_go hx, run_one]
      rfl
    rw [if_pos hx, if_pos hx] at this
    rw [e]
    exact this
  · have e : run d (S ++ [flushS]) = r := by
      subst hr
      exact run_stop hx _
    rw [if_neg hx, if_neg hx] at this
    rw [e]
    exact this
theorem write_run (w : World) (F : Nat → Prop) (g : Nat) (d : Dk) (h : HasDisk w F g d) (s : ByteArray) (hs : s.size ≤ 1000000) (hf : Fw 1 d) (r : Dk × Int) (hr : r = run d [(0, s)]) :
    Calls Try.prog 52 #[.pointer (some ⟨g, 0, none⟩), .int .i64 0, .string s] w fun e w' => e = .returned (.int .i64 r.2) ∧ ∃ F', DTo w F g r.1 w' F' := by
  have := write_h h 0 s (by omega) (by have := hf.w; omega) (by have := hf.c; omega)
  have e : r = (d.write 0 s, d.writeE 0 s) := by
    rw [hr, run_one]
    unfold step stepE
    rw [if_neg (by simp), if_neg (by simp)]
  rw [e]
  exact this
theorem or_u8 (b : UInt8) (r : Nat) (h : r < 8) : bits .or .u8 (b.toNat : Int) (2 ^ r % 256) = ((b ||| UInt8.ofNat (2 ^ r)).toNat : Int) := by
  have hb : BitVec.ofInt 8 (b.toNat : Int) = b.toBitVec := by
    rw [BitVec.ofInt_natCast]
    exact BitVec.ofNat_toNat _ b.toBitVec |>.trans (BitVec.setWidth_eq _)
  have hc : BitVec.ofInt 8 ((2 : Int) ^ r % 256) = (UInt8.ofNat (2 ^ r)).toBitVec := by
    match r, h with
    | 0, _ => decide
    | 1, _ => decide
    | 2, _ => decide
    | 3, _ => decide
    | 4, _ => decide
    | 5, _ => decide
    | 6, _ => decide
    | 7, _ => decide
  show IntKind.u8.wrap (((BitVec.ofInt 8 _ ||| BitVec.ofInt 8 _).toNat : Nat) : Int) = _
  rw [hb, hc, IntKind.wrap_u8, ← UInt8.toBitVec_or]
  have := UInt8.toNat_lt (b ||| UInt8.ofNat (2 ^ r))
  rw [UInt8.toNat_toBitVec]
  omega
theorem made256 : madeCells #[.int .u8 0] 256 = (u8s (List.replicate 256 0)).toArray := by
  rw [← Array.toList_inj, toList_madeCells_one]
  rw [show (u8s (List.replicate 256 0)).toArray.toList = u8s (List.replicate 256 0) from rfl, u8s, List.map_replicate]
  rfl
theorem conv_u8 {W : World} {b : Nat} {l : List UInt8} (hb : W.heap[b]? = some (.cells (u8s l).toArray 5 (0, 0))) (n cap : Nat) (hn : l.length = n) : (convert 51 9 (.slice (some ⟨b, 0, none⟩) n cap)).run Try.prog W = .ok (.string ⟨l.toArray⟩) W := by
  rw [← hn]
  exact run_convert_bytes_back (P := Try.prog) W 51 9 5 ⟨b, 0, none⟩ cap l Try.underlying51 Try.underlying5 Try.underlying9 (fun j hj => by
    rw [show (⟨b, 0, none⟩ : Addr).add j = ⟨b, j, none⟩ by simp [Addr.add]; omega, blk_cell hb]
    simp [u8s, hj])
theorem blk_u8 {l : List UInt8} {i : Nat} (h : i < l.length) : (u8s l).toArray[i]? = some (.int .u8 ((l.getD i 0).toNat : Int)) := by simp [u8s, h]
theorem blk_u8_set (l : List UInt8) (i : Nat) (b : UInt8) : (u8s l).toArray.setIfInBounds i (.int .u8 (b.toNat : Int)) = (u8s (l.set i b)).toArray := by simp [u8s, List.map_set]
theorem grown_put (W : World) (l : Nat) (o : Obj) : W.grownBy (W.putObj l o) (some l) :=
  ⟨rfl, rfl, rfl, by simp, fun k _ hk => World.putObj_heap_other (fun e => hk (by rw [e]))⟩
theorem grown_set (W : World) (b : Nat) (v : Value) : W.grownBy (W.setCell ⟨b, 0, none⟩ v) (some b) :=
  ⟨rfl, rfl, rfl, (KeepsWalks.setCell W _ v).size, fun k _ hk => Below.heap_setCell _ _ _ k (fun e => hk (by rw [e]))⟩
end Go.Proofs.Ytoolkamajlgcbaa
