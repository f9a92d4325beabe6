/- Reg7: as Reg4, by a plan with several last operations, one behind the other, that may break S. -/
import Derived.Test.YtoolkamajlgcbaaMr11
import Derived.Maps.AppendAt
set_option linter.unusedVariables false
set_option linter.unusedSimpArgs false
namespace Go.Proofs.Ytoolkamajlgcbaa
open Go.RowKit

/-- None of L has come. -/
def cleanB (L : List Nat) (listed : Array Bool) : Bool := L.all (fun x => listed.getD x true == false)
theorem clean_ne {L : List Nat} {i : Nat} {listed : Array Bool} (hi : i ∉ L) (h : cleanB L (listed.setIfInBounds i true) = true) : cleanB L listed = true := by
  unfold cleanB at *
  rw [List.all_eq_true] at *
  intro x hx
  have := h x hx
  rwa [getD_set_ne true (fun e => hi (by rw [e]; exact hx))] at this
theorem clean_set {L : List Nat} {i : Nat} {listed : Array Bool} (hi : i ∉ L) (h : cleanB L listed = true) : cleanB L (listed.setIfInBounds i true) = true := by
  unfold cleanB at *
  rw [List.all_eq_true] at *
  intro x hx
  rw [getD_set_ne true (fun e => hi (by rw [e]; exact hx))]
  exact h x hx
theorem clean_not {L : List Nat} {i : Nat} {listed : Array Bool} (hi : i ∈ L) : ¬ cleanB L (listed.setIfInBounds i true) = true := fun h => by
  unfold cleanB at h
  rw [List.all_eq_true] at h
  have := h i hi
  rcases Nat.lt_or_ge i listed.size with h' | h'
  · simp [h'] at this
  · simp [h'] at this
/-- In whatever order; S holds behind each operation till one of L comes. -/
def anyT (P : Program) (ops : Array Oper) (Q : Exit → Act → World → Prop) (S : World → Prop) (L : List Nat) : Nat → Array Bool → Act → World → Prop
  | 0, listed, a, w => Region.ready .any ops listed = [] ∧ Q .normal a w
  | n + 1, listed, a, w => (Region.ready .any ops listed = [] → Q .normal a w) ∧
      ∀ i ∈ Region.ready .any ops listed, wpOp P ops Q i (fun a' w' => (cleanB L (listed.setIfInBounds i true) = true → S w') ∧ anyT P ops Q S L n (listed.setIfInBounds i true) a' w') a w
theorem any_of_anyT {P : Program} {ops : Array Oper} {Q : Exit → Act → World → Prop} {S : World → Prop} {L : List Nat} : ∀ (n : Nat) (listed : Array Bool) (a : Act) (w : World), anyT P ops Q S L n listed a w → wpAny P .any ops Q n listed a w
  | 0, _, _, _, h => h
  | n + 1, _, _, _, h => ⟨h.1, fun i hi => wpOp_mono (fun a' w' h' => any_of_anyT n _ a' w' h'.2) (h.2 i hi)⟩
def waitsT (ops : Array Oper) (L : List Nat) (i : Nat) : Bool := L.all (fun x => waitsB ops x i)
theorem waits_notT {ops : Array Oper} {L : List Nat} {i j : Nat} {listed : Array Bool} (h : waitsT ops L i = true) (hi : i ∈ Region.ready .any ops listed) (hj : j ∈ Region.ready .any ops listed) : j ∉ L := fun hL => by
  unfold waitsT at h
  rw [List.all_eq_true] at h
  exact waits_not (h j hL) hi hj
theorem anyT_read {P : Program} {ops : Array Oper} {Q : Exit → Act → World → Prop} {S : World → Prop} {L : List Nat} {i : Nat} {oi : Oper} {v : Value} (hi : ops[i]? = some oi) (hs : Region.noSelect ops = true) (hw : waitsT ops L i = true)
    (hQ : ∀ c a w, Q (.panic c) (a.put oi.dst v) w → Q (.panic c) a w) : ∀ (n : Nat) (listed : Array Bool) (a : Act) (w : World),
      (∀ j oj, ops[j]? = some oj → j ≠ i → listed.getD j true = false → (∀ e ∈ oj.after, Region.binds .any e = true → e.on ≠ i) → oi.apart ops oj = true) →
      i ∈ Region.ready .any ops listed → YieldsIf P ops S oi v a → cleanB L listed = true → S w → anyT P ops Q S L n (listed.setIfInBounds i true) (a.put oi.dst v) w → anyT P ops Q S L (n + 1) listed a w := by
  have hsel := Region.noSelect_spec hs
  have hiL : i ∉ L := fun h => by
    unfold waitsT at hw
    rw [List.all_eq_true] at hw
    have := hw i h
    simp [waitsB] at this
  intro n
  induction n with
  | zero =>
    intro listed a w _ hr hy hc hS H
    refine ⟨fun h => (by rw [h] at hr; cases hr), fun j hj => ?_⟩
    by_cases hji : j = i
    · subst hji; exact hy.wpOp hi hS ⟨fun _ => hS, H⟩
    · have := ready_mono hj hji
      rw [H.1] at this
      cases this
  | succ n ih =>
    intro listed a w hfree hr hy hc hS H
    refine ⟨fun h => (by rw [h] at hr; cases hr), fun j hj => ?_⟩
    by_cases hji : j = i
    · subst hji; exact hy.wpOp hi hS ⟨fun _ => hS, H⟩
    · have hjL : j ∉ L := waits_notT hw hr hj
      have h1 := H.2 j (ready_mono hj hji)
      obtain ⟨hjun, oj, hoj, hall⟩ := mem_ready.1 hj
      have hnot : ∀ e ∈ oj.after, Region.binds .any e = true → e.on ≠ i := fun e he hb heq => by
        have h1 := hall e he hb
        have h0 := (mem_ready.1 hr).1
        rw [heq] at h1
        rcases Nat.lt_or_ge i listed.size with h' | h'
        · simp [h'] at h0 h1; rw [h0] at h1; cases h1
        · simp [Array.getElem?_eq_none h'] at h1
      have h2 := wpOp_putIf hoj (hfree j oj hoj hji hjun hnot) (fun cs b => hsel i oi cs b hi) (fun cs b => hsel j oj cs b hoj) hQ hy h1
      have hfree' : ∀ k ok, ops[k]? = some ok → k ≠ i → (listed.setIfInBounds j true).getD k true = false →
          (∀ e ∈ ok.after, Region.binds .any e = true → e.on ≠ i) → oi.apart ops ok = true := fun k ok hk hki hun hno => by
        refine hfree k ok hk hki ?_ hno
        by_cases hjk : j = k
        · subst hjk; exact hjun
        · rw [getD_set_ne true hjk] at hun; exact hun
      refine wpOp_mono (fun a' w' h3 => ?_) h2
      have hS' := h3.2.1 (clean_set hjL (clean_set hiL hc))
      refine ⟨fun _ => hS', ih (listed.setIfInBounds j true) a' w' hfree' (ready_mono hr (Ne.symm hji)) h3.1 (clean_set hjL hc) hS' ?_⟩
      rw [Array.setIfInBounds_comm _ _ hji]
      exact h3.2.2
theorem anyT_dry {P : Program} {ops : Array Oper} {Q : Exit → Act → World → Prop} {S : World → Prop} {L : List Nat} {i : Nat} {oi : Oper} {v : Value} (hi : ops[i]? = some oi) (hs : Region.noSelect ops = true) (hw : i ∉ L)
    (hQ : ∀ c a w, Q (.panic c) (a.put oi.dst v) w → Q (.panic c) a w) : ∀ (n : Nat) (listed : Array Bool) (a : Act) (w : World),
      (∀ j oj, ops[j]? = some oj → j ≠ i → listed.getD j true = false → (∀ e ∈ oj.after, Region.binds .any e = true → e.on ≠ i) → oi.apart ops oj = true) →
      i ∈ Region.ready .any ops listed → YieldsIf P ops (fun _ => True) oi v a → (cleanB L listed = true → S w) → anyT P ops Q S L n (listed.setIfInBounds i true) (a.put oi.dst v) w → anyT P ops Q S L (n + 1) listed a w := by
  have hsel := Region.noSelect_spec hs
  intro n
  induction n with
  | zero =>
    intro listed a w _ hr hy hS H
    refine ⟨fun h => (by rw [h] at hr; cases hr), fun j hj => ?_⟩
    by_cases hji : j = i
    · subst hji; exact hy.wpOp hi trivial ⟨fun h => hS (clean_ne hw h), H⟩
    · have := ready_mono hj hji
      rw [H.1] at this
      cases this
  | succ n ih =>
    intro listed a w hfree hr hy hS H
    refine ⟨fun h => (by rw [h] at hr; cases hr), fun j hj => ?_⟩
    by_cases hji : j = i
    · subst hji; exact hy.wpOp hi trivial ⟨fun h => hS (clean_ne hw h), H⟩
    · skip
      have h1 := H.2 j (ready_mono hj hji)
      obtain ⟨hjun, oj, hoj, hall⟩ := mem_ready.1 hj
      have hnot : ∀ e ∈ oj.after, Region.binds .any e = true → e.on ≠ i := fun e he hb heq => by
        have h1 := hall e he hb
        have h0 := (mem_ready.1 hr).1
        rw [heq] at h1
        rcases Nat.lt_or_ge i listed.size with h' | h'
        · simp [h'] at h0 h1; rw [h0] at h1; cases h1
        · simp [Array.getElem?_eq_none h'] at h1
      have h2 := wpOp_putIf hoj (hfree j oj hoj hji hjun hnot) (fun cs b => hsel i oi cs b hi) (fun cs b => hsel j oj cs b hoj) hQ hy h1
      have hfree' : ∀ k ok, ops[k]? = some ok → k ≠ i → (listed.setIfInBounds j true).getD k true = false →
          (∀ e ∈ ok.after, Region.binds .any e = true → e.on ≠ i) → oi.apart ops ok = true := fun k ok hk hki hun hno => by
        refine hfree k ok hk hki ?_ hno
        by_cases hjk : j = k
        · subst hjk; exact hjun
        · rw [getD_set_ne true hjk] at hun; exact hun
      refine wpOp_mono (fun a' w' h3 => ?_) h2
      have hS' : cleanB L (listed.setIfInBounds j true) = true → S w' := fun h => h3.2.1 (by rw [Array.setIfInBounds_comm _ _ (Ne.symm hji)]; exact clean_set hw h)
      refine ⟨hS', ih (listed.setIfInBounds j true) a' w' hfree' (ready_mono hr (Ne.symm hji)) h3.1 hS' ?_⟩
      rw [Array.setIfInBounds_comm _ _ hji]
      exact h3.2.2
theorem anyT_all {P : Program} {ops : Array Oper} {Q : Exit → Act → World → Prop} {S : World → Prop} {L : List Nat} {i n : Nat} {listed : Array Bool} {a : Act} {w : World} (hr : Region.ready .any ops listed = [i])
    (h : wpOp P ops Q i (fun a' w' => (cleanB L (listed.setIfInBounds i true) = true → S w') ∧ anyT P ops Q S L n (listed.setIfInBounds i true) a' w') a w) : anyT P ops Q S L (n + 1) listed a w :=
  ⟨fun h0 => absurd (hr ▸ h0) (by simp), fun j hj => by
    obtain rfl : j = i := by rw [hr] at hj; simpa using hj
    exact h⟩
theorem anyT_done {P : Program} {ops : Array Oper} {Q : Exit → Act → World → Prop} {S : World → Prop} {L : List Nat} {listed : Array Bool} {a : Act} {w : World} (hr : Region.ready .any ops listed = []) (h : Q .normal a w) : ∀ n, anyT P ops Q S L n listed a w
  | 0 => ⟨hr, h⟩
  | _ + 1 => ⟨fun _ => h, by rw [hr]; simp⟩

/-- The last operations, one behind the other. -/
def tailB (ops : Array Oper) : List Nat → Array Bool → Bool
  | [], listed => (Region.ready .any ops listed).isEmpty
  | x :: t, listed => decide (x < ops.size) && (Region.ready .any ops listed == [x]) && tailB ops t (listed.setIfInBounds x true)
def wpE (P : Program) (ops : Array Oper) (l : List Oper) (Q : Exit → Act → World → Prop) : List Nat → Act → World → Prop
  | [], a, w => Q .normal a w
  | x :: t, a, w => wpList P ops (Exit.then (fun a' w' => Both True (wpE P ops l Q t a' w')) (OnlyOut Q)) [l.getD x default] a w
/-- A plan: flags as in Reg; then L. -/
def planTB (ops : Array Oper) (L : List Nat) : List (Nat × Nat) → Array Bool → Bool
  | [], listed => tailB ops L listed
  | (i, 0) :: p, listed => decide (i < ops.size) && cleanB L listed && !L.contains i && (Region.ready .any ops listed == [i]) && planTB ops L p (listed.setIfInBounds i true)
  | (i, 1) :: p, listed => decide (i < ops.size) && (Region.ready .any ops listed).contains i && Region.free .any ops listed i && !L.contains i && planTB ops L p (listed.setIfInBounds i true)
  | (i, _) :: p, listed => decide (i < ops.size) && (Region.ready .any ops listed).contains i && Region.free .any ops listed i && (waitsT ops L i && cleanB L listed) && planTB ops L p (listed.setIfInBounds i true)
def wpT (P : Program) (ops : Array Oper) (l : List Oper) (S : World → Prop) (Q : Exit → Act → World → Prop) (L : List Nat) : List (Nat × Nat) → Act → World → Prop
  | [], a, w => wpE P ops l Q L a w
  | (i, 0) :: p, a, w => wpList P ops (Exit.then (fun a' w' => Both (S w') (wpT P ops l S Q L p a' w')) (OnlyOut Q)) [l.getD i default] a w
  | (i, 1) :: p, a, w => dry P ops (l.getD i default) a (fun a' => wpT P ops l S Q L p a' w)
  | (i, _) :: p, a, w => dryS P ops S (l.getD i default) a (fun a' => wpT P ops l S Q L p a' w)

theorem dryT {P : Program} {Q : Exit → Act → World → Prop} {S : World → Prop} {L : List Nat} (ops : List Oper) (hs : Region.noSelect ops.toArray = true) (i : Nat) (hi : i < ops.length) {n : Nat} {listed : Array Bool} {a : Act} {w : World}
    (h1 : (Region.ready .any ops.toArray listed).contains i = true) (h2 : Region.free .any ops.toArray listed i = true) (h3 : waitsT ops.toArray L i = true) (hc : cleanB L listed = true) (hS : S w) {K : Act → Prop}
    (hK : ∀ a', K a' → anyT P ops.toArray (Exit.then (fun a w => Q .normal a w) (OnlyOut Q)) S L n (listed.setIfInBounds i true) a' w)
    (h : dryS P ops.toArray S ops[i] a K) : anyT P ops.toArray (Exit.then (fun a w => Q .normal a w) (OnlyOut Q)) S L (n + 1) listed a w := by
  have ho : ops.toArray[i]? = some ops[i] := by simp [hi]
  unfold dryS at h
  split at h
  · rename_i hw
    obtain ⟨v, hv, h⟩ := h
    exact anyT_read ho hs h3 (fun c a w x => by simp [Exit.then, OnlyOut] at x) n listed a w (Region.free_spec ho h2) (by simpa using h1) (.inl ⟨hw, hv⟩) hc hS (hK _ h)
  · rename_i hw
    exact anyT_read ho hs h3 (fun c a w x => by simp [Exit.then, OnlyOut] at x) n listed a w (Region.free_spec ho h2) (by simpa using h1) (.inr ⟨by simpa using hw, rfl⟩) hc hS (hK _ h)

theorem dryU {P : Program} {Q : Exit → Act → World → Prop} {S : World → Prop} {L : List Nat} (ops : List Oper) (hs : Region.noSelect ops.toArray = true) (i : Nat) (hi : i < ops.length) {n : Nat} {listed : Array Bool} {a : Act} {w : World}
    (h1 : (Region.ready .any ops.toArray listed).contains i = true) (h2 : Region.free .any ops.toArray listed i = true) (h3 : i ∉ L) (hS : cleanB L listed = true → S w) {K : Act → Prop}
    (hK : ∀ a', K a' → anyT P ops.toArray (Exit.then (fun a w => Q .normal a w) (OnlyOut Q)) S L n (listed.setIfInBounds i true) a' w)
    (h : dryS P ops.toArray (fun _ => True) ops[i] a K) : anyT P ops.toArray (Exit.then (fun a w => Q .normal a w) (OnlyOut Q)) S L (n + 1) listed a w := by
  have ho : ops.toArray[i]? = some ops[i] := by simp [hi]
  unfold dryS at h
  split at h
  · rename_i hw
    obtain ⟨v, hv, h⟩ := h
    exact anyT_dry ho hs h3 (fun c a w x => by simp [Exit.then, OnlyOut] at x) n listed a w (Region.free_spec ho h2) (by simpa using h1) (.inl ⟨hw, hv⟩) hS (hK _ h)
  · rename_i hw
    exact anyT_dry ho hs h3 (fun c a w x => by simp [Exit.then, OnlyOut] at x) n listed a w (Region.free_spec ho h2) (by simpa using h1) (.inr ⟨by simpa using hw, rfl⟩) hS (hK _ h)

theorem any_tail {P : Program} {Q : Exit → Act → World → Prop} {S : World → Prop} {L : List Nat} (ops : List Oper) :
    ∀ (t : List Nat) (n : Nat) (listed : Array Bool) (a : Act) (w : World), tailB ops.toArray t listed = true → (∀ x ∈ t, x ∈ L) → n = t.length →
      wpE P ops.toArray ops Q t a w → anyT P ops.toArray (Exit.then (fun a w => Q .normal a w) (OnlyOut Q)) S L n listed a w
  | [], n, listed, a, w, hB, _, hn, h => by
    obtain rfl : n = 0 := hn
    exact anyT_done (Q := Exit.then (fun a w => Q .normal a w) (OnlyOut Q)) (by simpa [tailB] using hB) h _
  | x :: t, n, listed, a, w, hB, hL, hn, h => by
    obtain rfl : n = t.length + 1 := hn
    simp only [tailB, Bool.and_eq_true, beq_iff_eq, decide_eq_true_eq, List.size_toArray] at hB
    obtain ⟨⟨hi, h1⟩, h3⟩ := hB
    have hd : ops.getD x default = ops[x] := by simp [hi]
    simp only [wpE, hd] at h
    exact anyT_all h1 (do_one (S := fun _ => True) ops x hi (fun a w hh => ⟨fun e => absurd e (clean_not (hL x (List.mem_cons_self ..))), any_tail ops t _ _ a w h3 (fun y hy => hL y (List.mem_cons_of_mem _ hy)) rfl hh.2⟩) h)
theorem any_planT {P : Program} {Q : Exit → Act → World → Prop} {S : World → Prop} {L : List Nat} (ops : List Oper) (hs : Region.noSelect ops.toArray = true) :
    ∀ (p : List (Nat × Nat)) (n : Nat) (listed : Array Bool) (a : Act) (w : World), planTB ops.toArray L p listed = true → n = p.length + L.length → S w →
      wpT P ops.toArray ops S Q L p a w → anyT P ops.toArray (Exit.then (fun a w => Q .normal a w) (OnlyOut Q)) S L n listed a w
  | [], n, listed, a, w, hB, hn, hS, h => by
    have hn' : n = L.length := by simpa using hn
    exact any_tail ops L n listed a w hB (fun x hx => hx) hn' h
  | (i, 0) :: p, n, listed, a, w, hB, hn, hS, h => by
    obtain rfl : n = (p.length + L.length) + 1 := by rw [hn, List.length_cons]; omega
    simp only [planTB, Bool.and_eq_true, beq_iff_eq, decide_eq_true_eq, List.size_toArray] at hB
    obtain ⟨⟨⟨⟨hi, hc⟩, hL⟩, h1⟩, h3⟩ := hB
    have hd : ops.getD i default = ops[i] := by simp [hi]
    simp only [wpT, hd] at h
    exact anyT_all h1 (do_one ops i hi (fun a w hh => ⟨fun _ => hh.1, any_planT ops hs p _ _ a w h3 rfl hh.1 hh.2⟩) h)
  | (i, 1) :: p, n, listed, a, w, hB, hn, hS, h => by
    obtain rfl : n = (p.length + L.length) + 1 := by rw [hn, List.length_cons]; omega
    simp only [planTB, Bool.and_eq_true, decide_eq_true_eq, List.size_toArray] at hB
    obtain ⟨⟨⟨⟨hi, h1⟩, h2⟩, h4⟩, h3⟩ := hB
    have hd : ops.getD i default = ops[i] := by simp [hi]
    simp only [wpT, hd] at h
    exact dryU ops hs i hi h1 h2 (by simpa using h4) (fun _ => hS) (fun a' hh => any_planT ops hs p _ _ a' w h3 rfl hS hh) (dry_S h)
  | (i, k + 2) :: p, n, listed, a, w, hB, hn, hS, h => by
    obtain rfl : n = (p.length + L.length) + 1 := by rw [hn, List.length_cons]; omega
    simp only [planTB, Bool.and_eq_true, decide_eq_true_eq, List.size_toArray] at hB
    obtain ⟨⟨⟨⟨hi, h1⟩, h2⟩, h4, hc⟩, h3⟩ := hB
    have hd : ops.getD i default = ops[i] := by simp [hi]
    simp only [wpT, hd] at h
    exact dryT ops hs i hi h1 h2 h4 hc hS (fun a' hh => any_planT ops hs p _ _ a' w h3 rfl hS hh) h

/-- A region that draws its order, by a plan and its last operation. -/
theorem wp_region_tail {P : Program} {id : Nat} {Q : Exit → Act → World → Prop} {a : Act} {w : World} {l : List Oper} (S : World → Prop) (p : List (Nat × Nat)) (L : List Nat) (hm : P.follows .mixedOrders = true)
    (hB : (Region.noSelect l.toArray && planTB l.toArray L p (Array.replicate l.length false) && decide (l.length = p.length + L.length)) = true) (hS : S w.drew)
    (h : wpT P l.toArray l S Q L p a w.drew) : (Code.region id l.toArray true).wp P Q a w := by
  simp only [Bool.and_eq_true, decide_eq_true_eq] at hB
  obtain ⟨⟨h1, h4⟩, h5⟩ := hB
  refine Code.wp_mono (Q := Exit.then (fun a w => Q .normal a w) (OnlyOut Q)) ?_ ?_
  · intro e a w q
    cases e with
    | normal => exact q
    | outgrown => exact q
    | _ => exact q.elim
  · refine wp_region_any hm (any_of_anyT (S := S) (L := L) _ _ _ _ ?_)
    have := any_planT l h1 p l.length (Array.replicate l.length false) a w.drew h4 h5 hS h
    simpa using this
theorem wpT_dry {P : Program} {ops : Array Oper} {l : List Oper} {S : World → Prop} {Q : Exit → Act → World → Prop} {L : List Nat} {a : Act} {w : World} {i : Nat} {p : List (Nat × Nat)} (h : ∀ K : Act → Prop, (∀ a', wpT P ops l S Q L p a' w → K a') → dry P ops (l.getD i default) a K) : wpT P ops l S Q L ((i, 1) :: p) a w := h _ (fun _ hh => hh)
theorem wpT_do {P : Program} {ops : Array Oper} {l : List Oper} {S : World → Prop} {Q : Exit → Act → World → Prop} {L : List Nat} {a : Act} {w : World} {i : Nat} {p : List (Nat × Nat)} (h : wpList P ops (Exit.then (fun a' w' => Both (S w') (wpT P ops l S Q L p a' w')) (OnlyOut Q)) [l.getD i default] a w) : wpT P ops l S Q L ((i, 0) :: p) a w := h
theorem wpT_tail {P : Program} {ops : Array Oper} {l : List Oper} {S : World → Prop} {Q : Exit → Act → World → Prop} {L : List Nat} {a : Act} {w : World} (h : wpE P ops l Q L a w) : wpT P ops l S Q L [] a w := h
theorem wpE_do {P : Program} {ops : Array Oper} {l : List Oper} {Q : Exit → Act → World → Prop} {x : Nat} {t : List Nat} {a : Act} {w : World} (h : wpList P ops (Exit.then (fun a' w' => Both True (wpE P ops l Q t a' w')) (OnlyOut Q)) [l.getD x default] a w) : wpE P ops l Q (x :: t) a w := h
theorem wpE_nil {P : Program} {ops : Array Oper} {l : List Oper} {Q : Exit → Act → World → Prop} {a : Act} {w : World} (h : Q .normal a w) : wpE P ops l Q [] a w := h
theorem wpT_read {P : Program} {ops : Array Oper} {l : List Oper} {S : World → Prop} {Q : Exit → Act → World → Prop} {L : List Nat} {a : Act} {w : World} {i : Nat} {p : List (Nat × Nat)} (v : Value) (hw : Region.wanted (l.getD i default) (yielded ops a.tmps) = true) (hv : ∀ w', S w' → (execOp a.eval (l.getD i default)).run P w' = .ok (.value v) w')
    (h : ∀ K : Act → Prop, (∀ a', wpT P ops l S Q L p a' w → K a') → K (a.put (l.getD i default).dst v)) : wpT P ops l S Q L ((i, 2) :: p) a w := by
  show dryS _ _ _ _ _ _
  unfold dryS
  rw [if_pos hw]
  exact ⟨v, hv, h _ (fun _ hh => hh)⟩
theorem wpT_skip {P : Program} {ops : Array Oper} {l : List Oper} {S : World → Prop} {Q : Exit → Act → World → Prop} {L : List Nat} {a : Act} {w : World} {i : Nat} {p : List (Nat × Nat)} (h : ∀ K : Act → Prop, (∀ a', wpT P ops l S Q L p a' w → K a') → dry P ops (l.getD i default) a K) : wpT P ops l S Q L ((i, 2) :: p) a w := dry_S (h _ (fun _ hh => hh))
attribute [irreducible] wpT wpE
end Go.Proofs.Ytoolkamajlgcbaa
/- ShG: the first entry of a shelf. -/
set_option linter.unusedVariables false
set_option linter.unusedSimpArgs false
namespace Go.Proofs.Ytoolkamajlgcbaa
open Go.RowKit

set_option maxRecDepth 100000 in
theorem may_ok (w : World) (a b : ByteArray) (h1 : 1 ≤ a.size) (h2 : a.size ≤ 64) (h3 : b.size ≤ 400) : Calls Try.prog 41 #[.string a, .string b] w fun e w' => e = .returned (.bool true) ∧ w = w' := by
  have d1 : decide (1 ≤ (a.size : Int)) = true := by simp; omega
  have d2 : decide ((a.size : Int) ≤ 64) = true := by simp; omega
  have d3 : decide ((b.size : Int) ≤ 400) = true := by simp; omega
  have e1 : decide (1 ≤ a.size) = true := by simpa using h1
  have e2 : decide (a.size ≤ 64) = true := by simpa using h2
  have e3 : decide (b.size ≤ 400) = true := by simpa using h3
  go_enter Try.func41, Try.ntmps41
  go_wp2
  go_ret
  exact ⟨rfl, rfl⟩
theorem infoLf : (Try.prog.info? 82).map (fun i => (i.zero, i.size, i.bytes)) = some (some (.agg #[.int .i64 0, .slice none 0 0]), 2, 32) := by kernel_rfl
theorem infoPr : (Try.prog.info? 47).map (fun i => (i.zero, i.size, i.bytes)) = some (some (.agg #[.string ByteArray.empty, .string ByteArray.empty]), 2, 32) := by kernel_rfl
theorem two_new (w : World) (a b : Value) (t : TypeId) : ∀ j u, [a, b][j]? = some u → (w.alloc (.cells #[a, b] t)).cell? ((⟨w.heap.size, 0, none⟩ : Addr).add j) = some u := by
  intro j u hj
  have h := blk_new w (.cells #[a, b] t)
  match j, hj with
  | 0, hj => rw [show (⟨w.heap.size, 0, none⟩ : Addr).add 0 = ⟨w.heap.size, 0, none⟩ from rfl, blk_cell h 0]; simpa using hj
  | 1, hj => rw [show (⟨w.heap.size, 0, none⟩ : Addr).add 1 = ⟨w.heap.size, 1, none⟩ from rfl, blk_cell h 1]; simpa using hj
  | j + 2, hj => simp at hj
/-- A shelf of one leaf. -/
structure OneS (w : World) (base gs gj bl c : Nat) (A : Option Addr) (n c2 : Nat) (l : PL) : Prop where
  box : ShB w gs gj (.slice (some ⟨bl, 0, none⟩) 1 c)
  row : w.ownsRow base 82 2 (.slice (some ⟨bl, 0, none⟩) 1 c) 1 [.int .i64 1, .slice A n c2]
  hlen : n = l.length
  cap : n ≤ c2
  rd : RdPr w A l
theorem shRd_nil {w : World} {gs gj : Nat} (h : ShB w gs gj (.slice none 0 0)) : ShRd w gs [] := ⟨none, 0, by have := blk_cell h 1; simpa using this, Nat.le_refl _, fun h => by simp at h⟩
set_option maxHeartbeats 3200000 in
set_option maxRecDepth 100000 in
theorem put_first (w : World) (gs gj : Nat) (hb : ShB w gs gj (.slice none 0 0)) (a x : ByteArray) (h1 : 1 ≤ a.size) (h2 : a.size ≤ 64) (h3 : x.size ≤ 400) :
    Calls Try.prog 17 #[.pointer (some ⟨gs, 0, none⟩), .string a, .string x] w fun e w' => e = .returned (.int .i64 0) ∧ Touch (fun k => k = gs) w w' ∧ ∃ bl c bp, OneS w' w.heap.size gs gj bl c (some ⟨bp, 0, none⟩) 1 1 [(a, x)] := by
  obtain ⟨i0, hi, hz0, hz1, hz2⟩ := info_parts infoLf
  have MY := Lib.hid (may_ok w a x h1 h2 h3)
  obtain ⟨W1, hW1⟩ : ∃ W1, W1 = w.alloc (.cells #[.string a, .string x] 47) := ⟨_, rfl⟩
  have Q1 : Below w.heap.size w W1 := by rw [hW1]; exact (Below.refl _ w).alloc (Nat.le_refl _) _
  have B1 := (hb : ShB w gs gj (.slice none 0 0))
  have hb1 : ShB W1 gs gj (.slice none 0 0) := (Q1.block _ (lt_of_block hb)).trans hb
  have hp1 : W1.heap[w.heap.size]? = some (.cells #[.string a, .string x] 47 (0, 0)) := by rw [hW1]; exact blk_new w _
  have FN := Lib.hid (find_any W1 gs [] (shRd_nil hb1) (fun i h => by simp at h) (by simp) (fun i => by simp [lfA]) a)
  have r0 : fI [] a = 0 ∧ fK [] a = 0 := by unfold fI fK; refine ⟨?_, rfl⟩; rw [srch]; rfl
  rw [r0.1, r0.2, hW1] at FN
  have Q1h := Lib.hid Q1; have HB1 := Lib.hid hb1; have HP1 := Lib.hid hp1
  clear r0 Q1 hb1 hp1
  go_enter Try.func17, Try.ntmps17
  go_wp2_with fail
  refine MY.out.mono ?_
  rintro e w' ⟨rfl, rfl⟩
  go_wp2_with fail
  refine FN.out.mono ?_
  rw [← hW1]
  rintro e w2 ⟨rfl, q2⟩
  have hb2 : ShB w2 gs gj (.slice none 0 0) := (q2.block _ (lt_of_block HB1.out)).trans HB1.out
  have hp2 : w2.heap[w.heap.size]? = some (.cells #[.string a, .string x] 47 (0, 0)) := (q2.block _ (lt_of_block HP1.out)).trans HP1.out
  have Q2 : Hid (Below w.heap.size w w2) := Q1h.out.trans (q2.mono Q1h.out.size)
  have c0 := blk_cell hb2 0; have c1 := blk_cell hb2 1
  have p0 := blk_cell hp2 0; have p1 := blk_cell hp2 1
  have f1 := blk_free hb2 1
  simp at c0 c1 p0 p1
  have HB2 := Lib.hid hb2; have HP2 := Lib.hid hp2
  clear q2 FN hW1 hb2 hp2
  go_wp2_with fail
  refine wp_region_tail (fun w' => w'.cell? ⟨gs, 1, none⟩ = some (.slice none 0 0)) [(0, 1), (1, 1), (2, 1), (3, 1), (4, 2), (5, 0), (6, 0), (7, 1), (8, 0), (9, 0), (10, 1), (11, 1)] [12] (by kernel_rfl) (by kernel_rfl) c1 ?_
  repeat (refine wpT_dry (fun K hK => ?_); go_simp; refine hK _ ?_; clear hK K)
  refine wpT_read (.slice none 0 0) rfl (fun w' hS => by go_simp) (fun K hK => ?_)
  go_simp
  refine hK _ ?_
  clear hK K
  refine wpT_do ?_
  go_wp2_with fail
  refine ⟨c1, ?_⟩
  obtain ⟨W3, hW3⟩ : ∃ W3, W3 = (w2.alloc (.cells #[.string a, .string x] 47)).drew := ⟨_, rfl⟩
  have q23 : Below w2.heap.size w2 W3 := by rw [hW3]; exact ((Below.refl _ w2).alloc (Nat.le_refl _) _).drew
  have b3 : W3.heap[w2.heap.size]? = some (.cells #[.string a, .string x] 47 (0, 0)) := by rw [hW3]; exact blk_new w2 _
  have HB3 : Hid (ShB W3 gs gj (.slice none 0 0)) := (q23.block _ (lt_of_block HB2.out)).trans HB2.out
  have k2 := blk_cell HB3.out 1
  simp at k2
  have K2 := Lib.hid k2; have B3 := Lib.hid b3; have HW3 := Lib.hid hW3; have Q23 := Lib.hid q23
  refine wpT_do ?_
  clear b3 hW3 k2 q23
  go_wp2_with fail
  rw [← HW3.out]
  refine ⟨K2.out, ?_⟩
  repeat (refine wpT_dry (fun K hK => ?_); go_simp; refine hK _ ?_; clear hK K)
  obtain ⟨W4, hW4⟩ : ∃ W4, W4 = W3.alloc (.cells #[.int .i64 1, .slice (some ⟨w2.heap.size, 0, none⟩) 1 1] 82) := ⟨_, rfl⟩
  have q34 : Below W3.heap.size W3 W4 := by rw [hW4]; exact (Below.refl _ W3).alloc (Nat.le_refl _) _
  have HB4 : Hid (ShB W4 gs gj (.slice none 0 0)) := (q34.block _ (lt_of_block HB3.out)).trans HB3.out
  have k3 := blk_cell HB4.out 1
  simp at k3
  have NW : Hid (∀ j u, [Value.int .i64 1, .slice (some ⟨w2.heap.size, 0, none⟩) 1 1][j]? = some u → W4.cell? ((⟨W3.heap.size, 0, none⟩ : Addr).add j) = some u) := by unfold Hid; rw [hW4]; exact two_new _ _ _ _
  have SZ4 : Hid (W3.heap.size < W4.heap.size) := by rw [hW4]; unfold Hid; simp
  have K3 := Lib.hid k3; have HW4 := Lib.hid hW4; have Q34 := Lib.hid q34
  refine wpT_do ?_
  clear hW4 k3 q34
  go_wp2_with fail
  rw [← HW4.out]
  refine ⟨K3.out, ?_⟩
  refine wpT_do ?_
  simp only [List.getD_cons_zero, List.getD_cons_succ]
  refine (wpList_append_own_at _ rfl (.tmp 44) (.tmp 48) 83 rfl w.heap.size 82 i0 _ 2 32 Try.underlying83 hi hz0 hz1 hz2 rfl (by decide) (.slice none 0 0) 0 [] rfl (World.ownsRow_nil _ _ _ _) ⟨W3.heap.size, 0, none⟩ 1 1 [.int .i64 1, .slice (some ⟨w2.heap.size, 0, none⟩) 1 1] rfl rfl NW.out (by simp [Value.oneCell']) (by decide) (by decide) (by have := SZ4.out; have := Q23.out.size; have := Q2.out.size; omega) ?_)
  intro v5 w5 ho5 hg5 _ hat5
  obtain ⟨bl, c5, rfl⟩ := own_shape ho5
  have hbl : bl = W4.heap.size := by
    rcases hat5 with h | h
    · cases h
    · exact Option.some.inj h
  have HB5 : Hid (ShB w5 gs gj (.slice none 0 0)) := (hg5.block _ (lt_of_block HB4.out) (by intro h; cases h)).trans HB4.out
  have g54 : Below W4.heap.size W4 w5 := (Below.refl W4.heap.size W4).grown hg5 (Nat.le_refl _) (fun j hj => by cases hj)
  have HP5 : Hid (w5.heap[w2.heap.size]? = some (.cells #[.string a, .string x] 47 (0, 0))) := (g54.block _ (by have := SZ4.out; have := lt_of_block B3.out; omega)).trans ((Q34.out.block _ (lt_of_block B3.out)).trans B3.out)
  have B5 : Hid (Below w.heap.size w w5) := ((Q2.out.trans (Q23.out.mono Q2.out.size)).trans (Q34.out.mono (Nat.le_trans Q2.out.size Q23.out.size))).trans (g54.mono (by have := SZ4.out; have := Q23.out.size; have := Q2.out.size; omega))
  have HO5 := Lib.hid ho5
  have k4 := blk_cell HB5.out 1
  have f4 := blk_free HB5.out 1
  simp at k4
  have hgs : gs < W4.heap.size := lt_of_block HB4.out
  have HBL : Hid (bl ≠ gs ∧ w2.heap.size ≠ gs) := ⟨by omega, fun e => by have h1 := lt_of_block HB2.out; omega⟩
  have ZW : Hid (w.heap.size ≤ w2.heap.size) := Q2.out.size
  clear ho5 hg5 hat5 hbl g54 hgs
  go_wp2_with fail
  refine ⟨trivial, ?_⟩
  repeat (refine wpT_dry (fun K hK => ?_); go_simp; refine hK _ ?_; clear hK K)
  refine wpT_tail ?_
  refine wpE_do ?_
  go_wp2_with fail
  refine ⟨trivial, ?_⟩
  refine wpE_nil ?_
  go_wp2
  go_ret
  have tt : Touch (fun k => k = gs) w5 (w5.setCell ⟨gs, 1, none⟩ (.slice (some ⟨bl, 0, none⟩) 1 c5)) := (Touch.refl (fun k => k = gs) w5).setCell (p := ⟨gs, 1, none⟩) (.inl rfl) _
  refine ⟨rfl, (Touch.of_below B5.out : Touch (fun k => k = gs) w w5).trans tt (fun _ _ h => h), bl, c5, w2.heap.size, ?_, ?_, rfl, Nat.le_refl _, ?_⟩
  · exact blk_set HB5.out 1 _
  · exact own_touch HO5.out tt (fun k hk e => by
      cases hk
      exact HBL.out.1 e)
  · intro _
    refine ⟨w2.heap.size, 0, rfl, fun k hk => ?_⟩
    obtain rfl : k = 0 := by simpa using hk
    have hb := blk_touch tt HP5.out HBL.out.2
    have y0 := blk_cell hb 0; have y1 := blk_cell hb 1
    simp at y0 y1
    exact ⟨y0, y1⟩
end Go.Proofs.Ytoolkamajlgcbaa
/- ShH: tidy of a shelf of one leaf; at of a place behind its leaf. -/
set_option linter.unusedVariables false
set_option linter.unusedSimpArgs false
namespace Go.Proofs.Ytoolkamajlgcbaa
open Go.RowKit

set_option maxHeartbeats 1600000 in
set_option maxRecDepth 100000 in
theorem at_far (w : World) (gs : Nat) (sh : List (Nat × PL)) (hs : ShRd w gs sh) (i k : Nat) (hi : i < sh.length) (hk : (lfA sh i).length ≤ k) (key : ByteArray) :
    Calls Try.prog 38 #[.pointer (some ⟨gs, 0, none⟩), .int .i64 (i : Int), .int .i64 (k : Int), .string key] w fun e w' => e = .returned (.pointer none) ∧ w = w' := by
  obtain ⟨A, c, g1, g2, g3⟩ := hs
  obtain ⟨b, o, rfl, hc⟩ := g3 (by omega)
  obtain ⟨_, A', c', z1, _, _⟩ := hc i hi
  rw [← lfA_get hi] at z1
  have d1 : decide ((sh.length : Int) ≤ (i : Int)) = false := by simp; omega
  have d1' : decide (sh.length ≤ i) = false := by simp; omega
  have d2 : decide (((lfA sh i).length : Int) ≤ (k : Int)) = true := by simp; omega
  have d2' : decide ((lfA sh i).length ≤ k) = true := by simp; omega
  have hil : (i : Int) < (sh.length : Int) := by omega
  clear hc g3
  go_enter Try.func38, Try.ntmps38
  go_wp2
  go_ret
  exact ⟨rfl, rfl⟩
set_option maxHeartbeats 3200000 in
set_option maxRecDepth 100000 in
theorem tidy_one (w : World) (gs : Nat) (A : Option Addr) (c : Nat) (hs : w.cell? ⟨gs, 1, none⟩ = some (.slice A 1 c)) :
    Calls Try.prog 39 #[.pointer (some ⟨gs, 0, none⟩), .int .i64 0] w fun e w' => e = .returned (.tuple #[]) ∧ Below w.heap.size w w' := by
  have HS := Lib.hid hs
  obtain ⟨W1, hW1⟩ : ∃ W1, W1 = w.alloc (.cells #[.int .i64 0, .int .i64 (-1)] 3) := ⟨_, rfl⟩
  have Q1 : Hid (Below w.heap.size w W1) := by rw [hW1]; exact (Below.refl _ w).alloc (Nat.le_refl _) _
  have hb : W1.heap[w.heap.size]? = some (.cells #[.int .i64 0, .int .i64 (-1)] 3 (0, 0)) := by rw [hW1]; exact blk_new w _
  have y0 := blk_cell hb 0; have y1 := blk_cell hb 1
  simp at y0 y1
  have Y0 := Lib.hid y0; have Y1 := Lib.hid y1
  clear hb hs y0 y1
  go_enter Try.func39, Try.ntmps39
  go_wp2_with fail
  rw [← hW1]
  clear hW1
  go_loopw [11] (fun iv wr => ∃ i : Nat, i ≤ 2 ∧ iv = .int .i64 i ∧ Hid (Below W1.heap.size W1 wr)) (fun iv _ => 2 - (intOf iv).toNat)
  case atStart => exact ⟨0, by decide, rfl, Below.refl _ _⟩
  case round =>
    obtain ⟨i, hi, rfl, hb⟩ := hrel
    have c1 := cell_below (Q1.out.trans (hb.out.mono Q1.out.size)) HS.out
    have y0 := cell_below hb.out Y0.out
    have y1 := cell_below hb.out Y1.out
    by_cases h2 : i = 2
    · subst h2
      have R := Lib.hid (Q1.out.trans (hb.out.mono Q1.out.size))
      go_wp2
      go_end0
      exact ⟨rfl, R.out⟩
    · have hex : i = 0 ∨ i = 1 := by omega
      clear h2 hi
      have wr1 : IntKind.i64.wrap 1 = 1 := by decide
      have wr0 : IntKind.i64.wrap 0 = 0 := by decide
      rcases hex with rfl | rfl
      · have c1d : wr.drew.cell? ⟨gs, 1, none⟩ = some (.slice A 1 c) := c1
        go_wp2_with fail
        refine wp_region_flag (fun w' => w'.cell? ⟨gs, 1, none⟩ = some (.slice A 1 c)) [(0, 1), (1, 1), (2, 1), (3, 1), (4, 1), (5, 1), (6, 1), (7, 1), (8, 0), (9, 1), (10, 1), (11, 1), (12, 1), (13, 1), (14, 1), (15, 1), (17, 1), (22, 1), (23, 1), (24, 1), (26, 1), (27, 1), (16, 2), (18, 1), (19, 1), (20, 2), (25, 2), (28, 1), (29, 1), (30, 2), (21, 0), (31, 0), (32, 1), (33, 1), (34, 1)] (by kernel_rfl) (by kernel_rfl) c1d ?_
        simp only [ordered, List.map_cons, List.map_nil, List.getD_cons_zero, List.getD_cons_succ]
        repeat (refine wpF_dry (fun K hK => ?_); go_simp; refine hK _ ?_; clear hK K)
        refine wpF_do ?_
        go_wp2_with fail
        refine ⟨c1d, ?_⟩
        repeat (refine wpF_dry (fun K hK => ?_); go_simp; refine hK _ ?_; clear hK K)
        refine wpF_skip (fun K hK => ?_)
        go_simp
        refine hK _ ?_
        clear hK K
        repeat (refine wpF_dry (fun K hK => ?_); go_simp; refine hK _ ?_; clear hK K)
        refine wpF_skip (fun K hK => ?_)
        go_simp
        refine hK _ ?_
        clear hK K
        refine wpF_skip (fun K hK => ?_)
        go_simp
        refine hK _ ?_
        clear hK K
        repeat (refine wpF_dry (fun K hK => ?_); go_simp; refine hK _ ?_; clear hK K)
        refine wpF_skip (fun K hK => ?_)
        go_simp
        refine hK _ ?_
        clear hK K
        refine wpF_do ?_
        go_wp2_with fail
        refine ⟨c1d, ?_⟩
        refine wpF_do ?_
        go_wp2_with fail
        refine ⟨c1d, ?_⟩
        repeat (refine wpF_dry (fun K hK => ?_); go_simp; refine hK _ ?_; clear hK K)
        refine wpF_nil ?_
        have B2 := Lib.hid hb.out.drew
        go_wp2
        go_roundw
        case rel => first | exact ⟨1, by decide, by go_num, B2⟩ | ((repeat apply Exists.intro); refine ⟨?_, rfl⟩; exact ⟨1, by decide, by go_num, B2⟩)
        case measure => simp [intOf]
      · have c1d : wr.drew.cell? ⟨gs, 1, none⟩ = some (.slice A 1 c) := c1
        go_wp2_with fail
        refine wp_region_flag (fun w' => w'.cell? ⟨gs, 1, none⟩ = some (.slice A 1 c)) [(0, 1), (1, 1), (2, 1), (3, 1), (4, 1), (5, 1), (6, 1), (7, 1), (8, 0), (9, 1), (10, 1), (11, 1), (12, 1), (13, 1), (14, 1), (15, 1), (17, 1), (22, 1), (23, 1), (24, 1), (26, 1), (27, 1), (16, 2), (18, 1), (19, 1), (20, 2), (25, 2), (28, 1), (29, 1), (30, 2), (21, 0), (31, 0), (32, 1), (33, 1), (34, 1)] (by kernel_rfl) (by kernel_rfl) c1d ?_
        simp only [ordered, List.map_cons, List.map_nil, List.getD_cons_zero, List.getD_cons_succ]
        repeat (refine wpF_dry (fun K hK => ?_); go_simp; refine hK _ ?_; clear hK K)
        refine wpF_do ?_
        go_wp2_with fail
        refine ⟨c1d, ?_⟩
        repeat (refine wpF_dry (fun K hK => ?_); go_simp; refine hK _ ?_; clear hK K)
        refine wpF_skip (fun K hK => ?_)
        go_simp
        refine hK _ ?_
        clear hK K
        repeat (refine wpF_dry (fun K hK => ?_); go_simp; refine hK _ ?_; clear hK K)
        refine wpF_skip (fun K hK => ?_)
        go_simp
        refine hK _ ?_
        clear hK K
        refine wpF_skip (fun K hK => ?_)
        go_simp
        refine hK _ ?_
        clear hK K
        repeat (refine wpF_dry (fun K hK => ?_); go_simp; refine hK _ ?_; clear hK K)
        refine wpF_skip (fun K hK => ?_)
        go_simp
        refine hK _ ?_
        clear hK K
        refine wpF_do ?_
        go_wp2_with fail
        refine ⟨c1d, ?_⟩
        refine wpF_do ?_
        go_wp2_with fail
        refine ⟨c1d, ?_⟩
        repeat (refine wpF_dry (fun K hK => ?_); go_simp; refine hK _ ?_; clear hK K)
        refine wpF_nil ?_
        have B2 := Lib.hid hb.out.drew
        go_wp2
        go_roundw
        case rel => first | exact ⟨2, by decide, by go_num, B2⟩ | ((repeat apply Exists.intro); refine ⟨?_, rfl⟩; exact ⟨2, by decide, by go_num, B2⟩)
        case measure => simp [intOf]
end Go.Proofs.Ytoolkamajlgcbaa
