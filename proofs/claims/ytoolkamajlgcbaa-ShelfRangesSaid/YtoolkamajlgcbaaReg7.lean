/- Reg7: as Reg4, by a plan with several last operations, one behind the other, that may break S. -/
import Derived.Test.YtoolkamajlgcbaaReg4
set_option linter.unusedVariables false
set_option linter.unusedSimpArgs false
namespace Go.Proofs.Ytoolkamajlgcbaa
open Go.RowKit

/-- None of L has come. -/
def cleanB (L : List Nat) (listed : Array Bool) : Bool := L.all (fun x => listed.getD x true == false)
theorem clean_ne {L : List Nat} {i : Nat} {listed : Array Bool} (hi : i ∉ L) (h : cleanB L (listed.setIfInBounds i true) = true) : cleanB L listed = true := by
  unfold cleanB at *
  rw [List.all_eq_true] at *
  intro x hx
  have := h x hx
  rwa [getD_set_ne true (fun e => hi (by rw [e]; exact hx))] at this
theorem clean_set {L : List Nat} {i : Nat} {listed : Array Bool} (hi : i ∉ L) (h : cleanB L listed = true) : cleanB L (listed.setIfInBounds i true) = true := by
  unfold cleanB at *
  rw [List.all_eq_true] at *
  intro x hx
  rw [getD_set_ne true (fun e => hi (by rw [e]; exact hx))]
  exact h x hx
theorem clean_not {L : List Nat} {i : Nat} {listed : Array Bool} (hi : i ∈ L) : ¬ cleanB L (listed.setIfInBounds i true) = true := fun h => by
  unfold cleanB at h
  rw [List.all_eq_true] at h
  have := h i hi
  rcases Nat.lt_or_ge i listed.size with h' | h'
  · simp [h'] at this
  · simp [h'] at this
/-- In whatever order; S holds behind each operation till one of L comes. -/
def anyT (P : Program) (ops : Array Oper) (Q : Exit → Act → World → Prop) (S : World → Prop) (L : List Nat) : Nat → Array Bool → Act → World → Prop
  | 0, listed, a, w => Region.ready .any ops listed = [] ∧ Q .normal a w
  | n + 1, listed, a, w => (Region.ready .any ops listed = [] → Q .normal a w) ∧
      ∀ i ∈ Region.ready .any ops listed, wpOp P ops Q i (fun a' w' => (cleanB L (listed.setIfInBounds i true) = true → S w') ∧ anyT P ops Q S L n (listed.setIfInBounds i true) a' w') a w
theorem any_of_anyT {P : Program} {ops : Array Oper} {Q : Exit → Act → World → Prop} {S : World → Prop} {L : List Nat} : ∀ (n : Nat) (listed : Array Bool) (a : Act) (w : World), anyT P ops Q S L n listed a w → wpAny P .any ops Q n listed a w
  | 0, _, _, _, h => h
  | n + 1, _, _, _, h => ⟨h.1, fun i hi => wpOp_mono (fun a' w' h' => any_of_anyT n _ a' w' h'.2) (h.2 i hi)⟩
def waitsT (ops : Array Oper) (L : List Nat) (i : Nat) : Bool := L.all (fun x => waitsB ops x i)
theorem waits_notT {ops : Array Oper} {L : List Nat} {i j : Nat} {listed : Array Bool} (h : waitsT ops L i = true) (hi : i ∈ Region.ready .any ops listed) (hj : j ∈ Region.ready .any ops listed) : j ∉ L := fun hL => by
  unfold waitsT at h
  rw [List.all_eq_true] at h
  exact waits_not (h j hL) hi hj
theorem anyT_read {P : Program} {ops : Array Oper} {Q : Exit → Act → World → Prop} {S : World → Prop} {L : List Nat} {i : Nat} {oi : Oper} {v : Value} (hi : ops[i]? = some oi) (hs : Region.noSelect ops = true) (hw : waitsT ops L i = true)
    (hQ : ∀ c a w, Q (.panic c) (a.put oi.dst v) w → Q (.panic c) a w) : ∀ (n : Nat) (listed : Array Bool) (a : Act) (w : World),
      (∀ j oj, ops[j]? = some oj → j ≠ i → listed.getD j true = false → (∀ e ∈ oj.after, Region.binds .any e = true → e.on ≠ i) → oi.apart ops oj = true) →
      i ∈ Region.ready .any ops listed → YieldsIf P ops S oi v a → cleanB L listed = true → S w → anyT P ops Q S L n (listed.setIfInBounds i true) (a.put oi.dst v) w → anyT P ops Q S L (n + 1) listed a w := by
  have hsel := Region.noSelect_spec hs
  have hiL : i ∉ L := fun h => by
    unfold waitsT at hw
    rw [List.all_eq_true] at hw
    have := hw i h
    simp [waitsB] at this
  intro n
  induction n with
  | zero =>
    intro listed a w _ hr hy hc hS H
    refine ⟨fun h => (by rw [h] at hr; cases hr), fun j hj => ?_⟩
    by_cases hji : j = i
    · subst hji; exact hy.wpOp hi hS ⟨fun _ => hS, H⟩
    · have := ready_mono hj hji
      rw [H.1] at this
      cases this
  | succ n ih =>
    intro listed a w hfree hr hy hc hS H
    refine ⟨fun h => (by rw [h] at hr; cases hr), fun j hj => ?_⟩
    by_cases hji : j = i
    · subst hji; exact hy.wpOp hi hS ⟨fun _ => hS, H⟩
    · have hjL : j ∉ L := waits_notT hw hr hj
      have h1 := H.2 j (ready_mono hj hji)
      obtain ⟨hjun, oj, hoj, hall⟩ := mem_ready.1 hj
      have hnot : ∀ e ∈ oj.after, Region.binds .any e = true → e.on ≠ i := fun e he hb heq => by
        have h1 := hall e he hb
        have h0 := (mem_ready.1 hr).1
        rw [heq] at h1
        rcases Nat.lt_or_ge i listed.size with h' | h'
        · simp [h'] at h0 h1; rw [h0] at h1; cases h1
        · simp [Array.getElem?_eq_none h'] at h1
      have h2 := wpOp_putIf hoj (hfree j oj hoj hji hjun hnot) (fun cs b => hsel i oi cs b hi) (fun cs b => hsel j oj cs b hoj) hQ hy h1
      have hfree' : ∀ k ok, ops[k]? = some ok → k ≠ i → (listed.setIfInBounds j true).getD k true = false →
          (∀ e ∈ ok.after, Region.binds .any e = true → e.on ≠ i) → oi.apart ops ok = true := fun k ok hk hki hun hno => by
        refine hfree k ok hk hki ?_ hno
        by_cases hjk : j = k
        · subst hjk; exact hjun
        · rw [getD_set_ne true hjk] at hun; exact hun
      refine wpOp_mono (fun a' w' h3 => ?_) h2
      have hS' := h3.2.1 (clean_set hjL (clean_set hiL hc))
      refine ⟨fun _ => hS', ih (listed.setIfInBounds j true) a' w' hfree' (ready_mono hr (Ne.symm hji)) h3.1 (clean_set hjL hc) hS' ?_⟩
      rw [Array.setIfInBounds_comm _ _ hji]
      exact h3.2.2
theorem anyT_dry {P : Program} {ops : Array Oper} {Q : Exit → Act → World → Prop} {S : World → Prop} {L : List Nat} {i : Nat} {oi : Oper} {v : Value} (hi : ops[i]? = some oi) (hs : Region.noSelect ops = true) (hw : i ∉ L)
    (hQ : ∀ c a w, Q (.panic c) (a.put oi.dst v) w → Q (.panic c) a w) : ∀ (n : Nat) (listed : Array Bool) (a : Act) (w : World),
      (∀ j oj, ops[j]? = some oj → j ≠ i → listed.getD j true = false → (∀ e ∈ oj.after, Region.binds .any e = true → e.on ≠ i) → oi.apart ops oj = true) →
      i ∈ Region.ready .any ops listed → YieldsIf P ops (fun _ => True) oi v a → (cleanB L listed = true → S w) → anyT P ops Q S L n (listed.setIfInBounds i true) (a.put oi.dst v) w → anyT P ops Q S L (n + 1) listed a w := by
  have hsel := Region.noSelect_spec hs
  intro n
  induction n with
  | zero =>
    intro listed a w _ hr hy hS H
    refine ⟨fun h => (by rw [h] at hr; cases hr), fun j hj => ?_⟩
    by_cases hji : j = i
    · subst hji; exact hy.wpOp hi trivial ⟨fun h => hS (clean_ne hw h), H⟩
    · have := ready_mono hj hji
      rw [H.1] at this
      cases this
  | succ n ih =>
    intro listed a w hfree hr hy hS H
    refine ⟨fun h => (by rw [h] at hr; cases hr), fun j hj => ?_⟩
    by_cases hji : j = i
    · subst hji; exact hy.wpOp hi trivial ⟨fun h => hS (clean_ne hw h), H⟩
    · skip
      have h1 := H.2 j (ready_mono hj hji)
      obtain ⟨hjun, oj, hoj, hall⟩ := mem_ready.1 hj
      have hnot : ∀ e ∈ oj.after, Region.binds .any e = true → e.on ≠ i := fun e he hb heq => by
        have h1 := hall e he hb
        have h0 := (mem_ready.1 hr).1
        rw [heq] at h1
        rcases Nat.lt_or_ge i listed.size with h' | h'
        · simp [h'] at h0 h1; rw [h0] at h1; cases h1
        · simp [Array.getElem?_eq_none h'] at h1
      have h2 := wpOp_putIf hoj (hfree j oj hoj hji hjun hnot) (fun cs b => hsel i oi cs b hi) (fun cs b => hsel j oj cs b hoj) hQ hy h1
      have hfree' : ∀ k ok, ops[k]? = some ok → k ≠ i → (listed.setIfInBounds j true).getD k true = false →
          (∀ e ∈ ok.after, Region.binds .any e = true → e.on ≠ i) → oi.apart ops ok = true := fun k ok hk hki hun hno => by
        refine hfree k ok hk hki ?_ hno
        by_cases hjk : j = k
        · subst hjk; exact hjun
        · rw [getD_set_ne true hjk] at hun; exact hun
      refine wpOp_mono (fun a' w' h3 => ?_) h2
      have hS' : cleanB L (listed.setIfInBounds j true) = true → S w' := fun h => h3.2.1 (by rw [Array.setIfInBounds_comm _ _ (Ne.symm hji)]; exact clean_set hw h)
      refine ⟨hS', ih (listed.setIfInBounds j true) a' w' hfree' (ready_mono hr (Ne.symm hji)) h3.1 hS' ?_⟩
      rw [Array.setIfInBounds_comm _ _ hji]
      exact h3.2.2
theorem anyT_all {P : Program} {ops : Array Oper} {Q : Exit → Act → World → Prop} {S : World → Prop} {L : List Nat} {i n : Nat} {listed : Array Bool} {a : Act} {w : World} (hr : Region.ready .any ops listed = [i])
    (h : wpOp P ops Q i (fun a' w' => (cleanB L (listed.setIfInBounds i true) = true → S w') ∧ anyT P ops Q S L n (listed.setIfInBounds i true) a' w') a w) : anyT P ops Q S L (n + 1) listed a w :=
  ⟨fun h0 => absurd (hr ▸ h0) (by simp), fun j hj => by
    obtain rfl : j = i := by rw [hr] at hj; simpa using hj
    exact h⟩
theorem anyT_done {P : Program} {ops : Array Oper} {Q : Exit → Act → World → Prop} {S : World → Prop} {L : List Nat} {listed : Array Bool} {a : Act} {w : World} (hr : Region.ready .any ops listed = []) (h : Q .normal a w) : ∀ n, anyT P ops Q S L n listed a w
  | 0 => ⟨hr, h⟩
  | _ + 1 => ⟨fun _ => h, by rw [hr]; simp⟩

/-- The last operations, one behind the other. -/
def tailB (ops : Array Oper) : List Nat → Array Bool → Bool
  | [], listed => (Region.ready .any ops listed).isEmpty
  | x :: t, listed => decide (x < ops.size) && (Region.ready .any ops listed == [x]) && tailB ops t (listed.setIfInBounds x true)
def wpE (P : Program) (ops : Array Oper) (l : List Oper) (Q : Exit → Act → World → Prop) : List Nat → Act → World → Prop
  | [], a, w => Q .normal a w
  | x :: t, a, w => wpList P ops (Exit.then (fun a' w' => Both True (wpE P ops l Q t a' w')) (OnlyOut Q)) [l.getD x default] a w
/-- A plan: flags as in Reg; then L. -/
def planTB (ops : Array Oper) (L : List Nat) : List (Nat × Nat) → Array Bool → Bool
  | [], listed => tailB ops L listed
  | (i, 0) :: p, listed => decide (i < ops.size) && cleanB L listed && !L.contains i && (Region.ready .any ops listed == [i]) && planTB ops L p (listed.setIfInBounds i true)
  | (i, 1) :: p, listed => decide (i < ops.size) && (Region.ready .any ops listed).contains i && Region.free .any ops listed i && !L.contains i && planTB ops L p (listed.setIfInBounds i true)
  | (i, _) :: p, listed => decide (i < ops.size) && (Region.ready .any ops listed).contains i && Region.free .any ops listed i && (waitsT ops L i && cleanB L listed) && planTB ops L p (listed.setIfInBounds i true)
def wpT (P : Program) (ops : Array Oper) (l : List Oper) (S : World → Prop) (Q : Exit → Act → World → Prop) (L : List Nat) : List (Nat × Nat) → Act → World → Prop
  | [], a, w => wpE P ops l Q L a w
  | (i, 0) :: p, a, w => wpList P ops (Exit.then (fun a' w' => Both (S w') (wpT P ops l S Q L p a' w')) (OnlyOut Q)) [l.getD i default] a w
  | (i, 1) :: p, a, w => dry P ops (l.getD i default) a (fun a' => wpT P ops l S Q L p a' w)
  | (i, _) :: p, a, w => dryS P ops S (l.getD i default) a (fun a' => wpT P ops l S Q L p a' w)

theorem dryT {P : Program} {Q : Exit → Act → World → Prop} {S : World → Prop} {L : List Nat} (ops : List Oper) (hs : Region.noSelect ops.toArray = true) (i : Nat) (hi : i < ops.length) {n : Nat} {listed : Array Bool} {a : Act} {w : World}
    (h1 : (Region.ready .any ops.toArray listed).contains i = true) (h2 : Region.free .any ops.toArray listed i = true) (h3 : waitsT ops.toArray L i = true) (hc : cleanB L listed = true) (hS : S w) {K : Act → Prop}
    (hK : ∀ a', K a' → anyT P ops.toArray (Exit.then (fun a w => Q .normal a w) (OnlyOut Q)) S L n (listed.setIfInBounds i true) a' w)
    (h : dryS P ops.toArray S ops[i] a K) : anyT P ops.toArray (Exit.then (fun a w => Q .normal a w) (OnlyOut Q)) S L (n + 1) listed a w := by
  have ho : ops.toArray[i]? = some ops[i] := by simp [hi]
  unfold dryS at h
  split at h
  · rename_i hw
    obtain ⟨v, hv, h⟩ := h
    exact anyT_read ho hs h3 (fun c a w x => by simp [Exit.then, OnlyOut] at x) n listed a w (Region.free_spec ho h2) (by simpa using h1) (.inl ⟨hw, hv⟩) hc hS (hK _ h)
  · rename_i hw
    exact anyT_read ho hs h3 (fun c a w x => by simp [Exit.then, OnlyOut] at x) n listed a w (Region.free_spec ho h2) (by simpa using h1) (.inr ⟨by simpa using hw, rfl⟩) hc hS (hK _ h)

theorem dryU {P : Program} {Q : Exit → Act → World → Prop} {S : World → Prop} {L : List Nat} (ops : List Oper) (hs : Region.noSelect ops.toArray = true) (i : Nat) (hi : i < ops.length) {n : Nat} {listed : Array Bool} {a : Act} {w : World}
    (h1 : (Region.ready .any ops.toArray listed).contains i = true) (h2 : Region.free .any ops.toArray listed i = true) (h3 : i ∉ L) (hS : cleanB L listed = true → S w) {K : Act → Prop}
    (hK : ∀ a', K a' → anyT P ops.toArray (Exit.then (fun a w => Q .normal a w) (OnlyOut Q)) S L n (listed.setIfInBounds i true) a' w)
    (h : dryS P ops.toArray (fun _ => True) ops[i] a K) : anyT P ops.toArray (Exit.then (fun a w => Q .normal a w) (OnlyOut Q)) S L (n + 1) listed a w := by
  have ho : ops.toArray[i]? = some ops[i] := by simp [hi]
  unfold dryS at h
  split at h
  · rename_i hw
    obtain ⟨v, hv, h⟩ := h
    exact anyT_dry ho hs h3 (fun c a w x => by simp [Exit.then, OnlyOut] at x) n listed a w (Region.free_spec ho h2) (by simpa using h1) (.inl ⟨hw, hv⟩) hS (hK _ h)
  · rename_i hw
    exact anyT_dry ho hs h3 (fun c a w x => by simp [Exit.then, OnlyOut] at x) n listed a w (Region.free_spec ho h2) (by simpa using h1) (.inr ⟨by simpa using hw, rfl⟩) hS (hK _ h)

theorem any_tail {P : Program} {Q : Exit → Act → World → Prop} {S : World → Prop} {L : List Nat} (ops : List Oper) :
    ∀ (t : List Nat) (n : Nat) (listed : Array Bool) (a : Act) (w : World), tailB ops.toArray t listed = true → (∀ x ∈ t, x ∈ L) → n = t.length →
      wpE P ops.toArray ops Q t a w → anyT P ops.toArray (Exit.then (fun a w => Q .normal a w) (OnlyOut Q)) S L n listed a w
  | [], n, listed, a, w, hB, _, hn, h => by
    obtain rfl : n = 0 := hn
    exact anyT_done (Q := Exit.then (fun a w => Q .normal a w) (OnlyOut Q)) (by simpa [tailB] using hB) h _
  | x :: t, n, listed, a, w, hB, hL, hn, h => by
    obtain rfl : n = t.length + 1 := hn
    simp only [tailB, Bool.and_eq_true, beq_iff_eq, decide_eq_true_eq, List.size_toArray] at hB
    obtain ⟨⟨hi, h1⟩, h3⟩ := hB
    have hd : ops.getD x default = ops[x] := by simp [hi]
    simp only [wpE, hd] at h
    exact anyT_all h1 (do_one (S := fun _ => True) ops x hi (fun a w hh => ⟨fun e => absurd e (clean_not (hL x (List.mem_cons_self ..))), any_tail ops t _ _ a w h3 (fun y hy => hL y (List.mem_cons_of_mem _ hy)) rfl hh.2⟩) h)
theorem any_planT {P : Program} {Q : Exit → Act → World → Prop} {S : World → Prop} {L : List Nat} (ops : List Oper) (hs : Region.noSelect ops.toArray = true) :
    ∀ (p : List (Nat × Nat)) (n : Nat) (listed : Array Bool) (a : Act) (w : World), planTB ops.toArray L p listed = true → n = p.length + L.length → S w →
      wpT P ops.toArray ops S Q L p a w → anyT P ops.toArray (Exit.then (fun a w => Q .normal a w) (OnlyOut Q)) S L n listed a w
  | [], n, listed, a, w, hB, hn, hS, h => by
    have hn' : n = L.length := by simpa using hn
    exact any_tail ops L n listed a w hB (fun x hx => hx) hn' h
  | (i, 0) :: p, n, listed, a, w, hB, hn, hS, h => by
    obtain rfl : n = (p.length + L.length) + 1 := by rw [hn, List.length_cons]; omega
    simp only [planTB, Bool.and_eq_true, beq_iff_eq, decide_eq_true_eq, List.size_toArray] at hB
    obtain ⟨⟨⟨⟨hi, hc⟩, hL⟩, h1⟩, h3⟩ := hB
    have hd : ops.getD i default = ops[i] := by simp [hi]
    simp only [wpT, hd] at h
    exact anyT_all h1 (do_one ops i hi (fun a w hh => ⟨fun _ => hh.1, any_planT ops hs p _ _ a w h3 rfl hh.1 hh.2⟩) h)
  | (i, 1) :: p, n, listed, a, w, hB, hn, hS, h => by
    obtain rfl : n = (p.length + L.length) + 1 := by rw [hn, List.length_cons]; omega
    simp only [planTB, Bool.and_eq_true, decide_eq_true_eq, List.size_toArray] at hB
    obtain ⟨⟨⟨⟨hi, h1⟩, h2⟩, h4⟩, h3⟩ := hB
    have hd : ops.getD i default = ops[i] := by simp [hi]
    simp only [wpT, hd] at h
    exact dryU ops hs i hi h1 h2 (by simpa using h4) (fun _ => hS) (fun a' hh => any_planT ops hs p _ _ a' w h3 rfl hS hh) (dry_S h)
  | (i, k + 2) :: p, n, listed, a, w, hB, hn, hS, h => by
    obtain rfl : n = (p.length + L.length) + 1 := by rw [hn, List.length_cons]; omega
    simp only [planTB, Bool.and_eq_true, decide_eq_true_eq, List.size_toArray] at hB
    obtain ⟨⟨⟨⟨hi, h1⟩, h2⟩, h4, hc⟩, h3⟩ := hB
    have hd : ops.getD i default = ops[i] := by simp [hi]
    simp only [wpT, hd] at h
    exact dryT ops hs i hi h1 h2 h4 hc hS (fun a' hh => any_planT ops hs p _ _ a' w h3 rfl hS hh) h

/-- A region that draws its order, by a plan and its last operation. -/
theorem wp_region_tail {P : Program} {id : Nat} {Q : Exit → Act → World → Prop} {a : Act} {w : World} {l : List Oper} (S : World → Prop) (p : List (Nat × Nat)) (L : List Nat) (hm : P.follows .mixedOrders = true)
    (hB : (Region.noSelect l.toArray && planTB l.toArray L p (Array.replicate l.length false) && decide (l.length = p.length + L.length)) = true) (hS : S w.drew)
    (h : wpT P l.toArray l S Q L p a w.drew) : (Code.region id l.toArray true).wp P Q a w := by
  simp only [Bool.and_eq_true, decide_eq_true_eq] at hB
  obtain ⟨⟨h1, h4⟩, h5⟩ := hB
  refine Code.wp_mono (Q := Exit.then (fun a w => Q .normal a w) (OnlyOut Q)) ?_ ?_
  · intro e a w q
    cases e with
    | normal => exact q
    | outgrown => exact q
    | _ => exact q.elim
  · refine wp_region_any hm (any_of_anyT (S := S) (L := L) _ _ _ _ ?_)
    have := any_planT l h1 p l.length (Array.replicate l.length false) a w.drew h4 h5 hS h
    simpa using this
theorem wpT_dry {P : Program} {ops : Array Oper} {l : List Oper} {S : World → Prop} {Q : Exit → Act → World → Prop} {L : List Nat} {a : Act} {w : World} {i : Nat} {p : List (Nat × Nat)} (h : ∀ K : Act → Prop, (∀ a', wpT P ops l S Q L p a' w → K a') → dry P ops (l.getD i default) a K) : wpT P ops l S Q L ((i, 1) :: p) a w := h _ (fun _ hh => hh)
theorem wpT_do {P : Program} {ops : Array Oper} {l : List Oper} {S : World → Prop} {Q : Exit → Act → World → Prop} {L : List Nat} {a : Act} {w : World} {i : Nat} {p : List (Nat × Nat)} (h : wpList P ops (Exit.then (fun a' w' => Both (S w') (wpT P ops l S Q L p a' w')) (OnlyOut Q)) [l.getD i default] a w) : wpT P ops l S Q L ((i, 0) :: p) a w := h
theorem wpT_tail {P : Program} {ops : Array Oper} {l : List Oper} {S : World → Prop} {Q : Exit → Act → World → Prop} {L : List Nat} {a : Act} {w : World} (h : wpE P ops l Q L a w) : wpT P ops l S Q L [] a w := h
theorem wpE_do {P : Program} {ops : Array Oper} {l : List Oper} {Q : Exit → Act → World → Prop} {x : Nat} {t : List Nat} {a : Act} {w : World} (h : wpList P ops (Exit.then (fun a' w' => Both True (wpE P ops l Q t a' w')) (OnlyOut Q)) [l.getD x default] a w) : wpE P ops l Q (x :: t) a w := h
theorem wpE_nil {P : Program} {ops : Array Oper} {l : List Oper} {Q : Exit → Act → World → Prop} {a : Act} {w : World} (h : Q .normal a w) : wpE P ops l Q [] a w := h
theorem wpT_read {P : Program} {ops : Array Oper} {l : List Oper} {S : World → Prop} {Q : Exit → Act → World → Prop} {L : List Nat} {a : Act} {w : World} {i : Nat} {p : List (Nat × Nat)} (v : Value) (hw : Region.wanted (l.getD i default) (yielded ops a.tmps) = true) (hv : ∀ w', S w' → (execOp a.eval (l.getD i default)).run P w' = .ok (.value v) w')
    (h : ∀ K : Act → Prop, (∀ a', wpT P ops l S Q L p a' w → K a') → K (a.put (l.getD i default).dst v)) : wpT P ops l S Q L ((i, 2) :: p) a w := by
  show dryS _ _ _ _ _ _
  unfold dryS
  rw [if_pos hw]
  exact ⟨v, hv, h _ (fun _ hh => hh)⟩
theorem wpT_skip {P : Program} {ops : Array Oper} {l : List Oper} {S : World → Prop} {Q : Exit → Act → World → Prop} {L : List Nat} {a : Act} {w : World} {i : Nat} {p : List (Nat × Nat)} (h : ∀ K : Act → Prop, (∀ a', wpT P ops l S Q L p a' w → K a') → dry P ops (l.getD i default) a K) : wpT P ops l S Q L ((i, 2) :: p) a w := dry_S (h _ (fun _ hh => hh))
attribute [irreducible] wpT wpE
end Go.Proofs.Ytoolkamajlgcbaa
