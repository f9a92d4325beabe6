/- GlP: plain laws: what is met by a row of parts: told from the left, from the right, by marks, by a table. -/
import Derived.Test.YtmagidkgajmhoaaDoorPathP
set_option linter.unusedVariables false
set_option linter.unusedSimpArgs false
namespace Go.Proofs.YtmagidkgajmhoaaDoor

/-- Some end of a list. -/
def someEnd {β : Type} (f : List β → Bool) : List β → Bool
  | [] => f []
  | c :: n => f (c :: n) || someEnd f n
/-- Do parts, of which some stand for any number, meet a list? -/
def gm {α β : Type} (many : α → Bool) (has : α → β → Bool) : List α → List β → Bool
  | [], n => n.isEmpty
  | t :: ts, n => if many t then someEnd (gm many has ts) n else match n with
    | [] => false
    | c :: n' => has t c && gm many has ts n'
section
variable {α β : Type} {many : α → Bool} {has : α → β → Bool}
theorem someEnd_or (f g : List β → Bool) : ∀ n, someEnd (fun x => f x || g x) n = (someEnd f n || someEnd g n)
  | [] => rfl
  | c :: n => by
    simp only [someEnd, someEnd_or f g n]
    cases f (c :: n) <;> cases g (c :: n) <;> cases someEnd f n <;> cases someEnd g n <;> rfl
theorem someEnd_snoc (f : List β → Bool) (c : β) : ∀ n, someEnd f (n ++ [c]) = (someEnd (fun x => f (x ++ [c])) n || f [])
  | [] => rfl
  | d :: n => by
    have := someEnd_snoc f c n
    simp only [List.cons_append, someEnd, this, Bool.or_assoc]
theorem someEnd_congr {f g : List β → Bool} (h : ∀ x, f x = g x) : ∀ n, someEnd f n = someEnd g n
  | [] => h []
  | c :: n => by simp only [someEnd, h, someEnd_congr h n]
theorem gm_nil_nil : gm many has ([] : List α) ([] : List β) = true := rfl
theorem gm_many {t : α} {ts : List α} {n : List β} (h : many t = true) : gm many has (t :: ts) n = someEnd (gm many has ts) n := by cases n <;> (unfold gm; rw [if_pos h])
theorem gm_many_cons {t : α} {ts : List α} {c : β} {n : List β} (h : many t = true) : gm many has (t :: ts) (c :: n) = (gm many has ts (c :: n) || gm many has (t :: ts) n) := by rw [gm_many h, gm_many h]; rfl
theorem gm_many_nil {t : α} {ts : List α} (h : many t = true) : gm many has (t :: ts) ([] : List β) = gm many has ts [] := by rw [gm_many h]; rfl
theorem gm_one_cons {t : α} {ts : List α} {c : β} {n : List β} (h : many t = false) : gm many has (t :: ts) (c :: n) = (has t c && gm many has ts n) := by rw [gm, if_neg (by rw [h]; decide)]
theorem gm_one_nil {t : α} {ts : List α} (h : many t = false) : gm many has (t :: ts) ([] : List β) = false := by unfold gm; rw [if_neg (by rw [h]; decide)]
theorem gm_snoc_nil (t : α) : ∀ ts : List α, gm many has (ts ++ [t]) ([] : List β) = (gm many has ts [] && many t)
  | [] => by
    cases h : many t with
    | true => rw [List.nil_append, gm_many_nil h]; rfl
    | false => rw [List.nil_append, gm_one_nil h]; rfl
  | s :: ts => by
    rw [List.cons_append]
    cases h : many s with
    | true => rw [gm_many_nil h, gm_many_nil h, gm_snoc_nil t ts]
    | false => rw [gm_one_nil h, gm_one_nil h]; rfl
theorem someEnd_true {f : List β → Bool} (h : f [] = true) : ∀ n, someEnd f n = true
  | [] => h
  | c :: n => by rw [someEnd, someEnd_true h n, Bool.or_true]
/-- From the right: the last part stands for any number. -/
theorem gm_snoc_many {t : α} (ht : many t = true) (c : β) : ∀ (ts : List α) (p : List β), gm many has (ts ++ [t]) (p ++ [c]) = (gm many has (ts ++ [t]) p || gm many has ts (p ++ [c]))
  | [], p => by
    rw [List.nil_append, gm_many ht, gm_many ht, someEnd_true rfl, someEnd_true rfl]
    rfl
  | s :: ts, p => by
    rw [List.cons_append]
    cases h : many s with
    | true =>
      rw [gm_many h, gm_many h, gm_many h, someEnd_snoc, someEnd_snoc, someEnd_congr (gm_snoc_many ht c ts), someEnd_or, gm_snoc_nil, ht, Bool.and_true, Bool.or_assoc]
    | false =>
      cases p with
      | nil => rw [List.nil_append, gm_one_cons h, gm_one_nil h, gm_one_cons h, gm_snoc_nil, ht, Bool.and_true, Bool.false_or]
      | cons d p =>
        rw [List.cons_append, gm_one_cons h, gm_one_cons h, gm_one_cons h, gm_snoc_many ht c ts p]
        cases has s d <;> simp
/-- From the right: the last part stands for one. -/
theorem gm_snoc_one {t : α} (ht : many t = false) (c : β) : ∀ (ts : List α) (p : List β), gm many has (ts ++ [t]) (p ++ [c]) = (gm many has ts p && has t c)
  | [], p => by
    rw [List.nil_append]
    cases p with
    | nil => rw [List.nil_append, gm_one_cons ht]; simp [gm]
    | cons d p => rw [List.cons_append, gm_one_cons ht]; simp [gm]
  | s :: ts, p => by
    rw [List.cons_append]
    cases h : many s with
    | true =>
      rw [gm_many h, gm_many h, someEnd_snoc, someEnd_congr (gm_snoc_one ht c ts), gm_snoc_nil, ht, Bool.and_false, Bool.or_false]
      have : ∀ n : List β, someEnd (fun x => gm many has ts x && has t c) n = (someEnd (gm many has ts) n && has t c) := by
        intro n
        induction n with
        | nil => rfl
        | cons d n ih =>
          simp only [someEnd, ih]
          cases gm many has ts (d :: n) <;> cases has t c <;> simp
      exact this p
    | false =>
      cases p with
      | nil => rw [List.nil_append, gm_one_cons h, gm_one_nil h, gm_snoc_nil, ht, Bool.and_false, Bool.and_false, Bool.false_and]
      | cons d p => rw [List.cons_append, gm_one_cons h, gm_one_cons h, gm_snoc_one ht c ts p, Bool.and_assoc]

/-! The marks. -/
/-- What is marked behind p: the parts ahead of i meet it, or i goes on. -/
def mkB (many : α → Bool) (has : α → β → Bool) (l : List α) (p : List β) (i : Nat) : Bool := if h : i < l.length then (if many l[i] then gm many has (l.take (i + 1)) p else gm many has (l.take i) p) else gm many has (l.take i) p
def bget (r : List Bool) (i : Nat) : Bool := r.getD i false
/-- Marks spread: behind k rounds. -/
def sprK (many : α → Bool) (l : List α) (r : List Bool) : Nat → List Bool
  | 0 => r
  | k + 1 => if h : k < l.length then (if bget (sprK many l r k) k && many l[k] then (sprK many l r k).set (k + 1) true else sprK many l r k) else sprK many l r k
/-- The marks behind one more: behind k rounds. -/
def nxtK (many : α → Bool) (has : α → β → Bool) (l : List α) (r : List Bool) (c : β) : Nat → List Bool
  | 0 => List.replicate (l.length + 1) false
  | k + 1 => if h : k < l.length then (if bget r k && many l[k] then (nxtK many has l r c k).set k true else if bget r k && has l[k] c then (nxtK many has l r c k).set (k + 1) true else nxtK many has l r c k) else nxtK many has l r c k
def spr (many : α → Bool) (l : List α) (r : List Bool) : List Bool := sprK many l r l.length
def nxt (many : α → Bool) (has : α → β → Bool) (l : List α) (r : List Bool) (c : β) : List Bool := spr many l (nxtK many has l r c l.length)
theorem sprK_len (many : α → Bool) (l : List α) (r : List Bool) : ∀ k, (sprK many l r k).length = r.length
  | 0 => rfl
  | k + 1 => by
    rw [sprK]
    split
    · split
      · rw [List.length_set, sprK_len many l r k]
      · exact sprK_len many l r k
    · exact sprK_len many l r k
theorem nxtK_len (many : α → Bool) (has : α → β → Bool) (l : List α) (r : List Bool) (c : β) : ∀ k, (nxtK many has l r c k).length = l.length + 1
  | 0 => List.length_replicate ..
  | k + 1 => by
    rw [nxtK]
    split
    · split
      · rw [List.length_set, nxtK_len many has l r c k]
      · split
        · rw [List.length_set, nxtK_len many has l r c k]
        · exact nxtK_len many has l r c k
    · exact nxtK_len many has l r c k
theorem bget_set (r : List Bool) (i j : Nat) (h : i < r.length) : bget (r.set i true) j = (bget r j || decide (i = j)) := by
  unfold bget
  rw [List.getD_eq_getElem?_getD, List.getD_eq_getElem?_getD]
  by_cases e : i = j
  · subst e
    rw [List.getElem?_set_self h]
    simp
  · rw [List.getElem?_set_ne e]
    simp [e]
def manyAt (many : α → Bool) (l : List α) (i : Nat) : Bool := if h : i < l.length then many l[i] else false
def hasAt (has : α → β → Bool) (l : List α) (i : Nat) (c : β) : Bool := if h : i < l.length then has l[i] c else false
theorem sprK_get {many : α → Bool} {l : List α} {r : List Bool} (hr : r.length = l.length + 1) : ∀ k, k ≤ l.length → (∀ j, k < j → bget (sprK many l r k) j = bget r j) ∧ (∀ j, j ≤ k → bget (sprK many l r k) j = (bget r j || (decide (0 < j) && bget (sprK many l r k) (j - 1) && manyAt many l (j - 1))))
  | 0, _ => ⟨fun j _ => rfl, fun j hj => by
    obtain rfl : j = 0 := by omega
    simp [sprK]⟩
  | k + 1, hk => by
    obtain ⟨h1, h2⟩ := sprK_get hr k (by omega)
    have hl := sprK_len many l r k
    have ma : manyAt many l k = many l[k] := by unfold manyAt; rw [dif_pos (by omega)]
    have key : ∀ j, bget (sprK many l r (k + 1)) j = (bget (sprK many l r k) j || (decide (j = k + 1) && bget (sprK many l r k) k && many l[k])) := fun j => by
      rw [sprK, dif_pos (by omega)]
      split
      · rename_i hc
        rw [bget_set _ _ _ (by omega)]
        simp only [Bool.and_eq_true] at hc
        rw [hc.1, hc.2]
        by_cases e : j = k + 1
        · subst e; simp
        · simp [e, Ne.symm e]
      · rename_i hc
        have hc : (bget (sprK many l r k) k && many l[k]) = false := by simpa using hc
        rw [Bool.and_assoc, hc]
        simp
    refine ⟨fun j hj => ?_, fun j hj => ?_⟩
    · rw [key, h1 j (by omega)]
      have : decide (j = k + 1) = false := decide_eq_false (by omega)
      rw [this]
      simp
    · rw [key j, key (j - 1)]
      have e1 : decide (j - 1 = k + 1) = false := decide_eq_false (by omega)
      rw [e1]
      simp only [Bool.false_and, Bool.or_false]
      by_cases e : j = k + 1
      · subst e
        rw [h1 (k + 1) (by omega)]
        simp [ma]
      · have e2 : decide (j = k + 1) = false := decide_eq_false e
        rw [e2, h2 j (by omega)]
        simp
theorem spr_get {many : α → Bool} {l : List α} {r : List Bool} (hr : r.length = l.length + 1) (j : Nat) (hj : j ≤ l.length) : bget (spr many l r) j = (bget r j || (decide (0 < j) && bget (spr many l r) (j - 1) && manyAt many l (j - 1))) := (sprK_get hr l.length (Nat.le_refl _)).2 j hj
theorem nxtK_get {many : α → Bool} {has : α → β → Bool} {l : List α} {r : List Bool} {c : β} : ∀ k, k ≤ l.length → ∀ j, bget (nxtK many has l r c k) j = ((decide (j < k) && bget r j && manyAt many l j) || (decide (0 < j) && decide (j - 1 < k) && bget r (j - 1) && !manyAt many l (j - 1) && hasAt has l (j - 1) c))
  | 0, _, j => by
    unfold nxtK bget
    rw [List.getD_eq_getElem?_getD]
    by_cases h : j < l.length + 1
    · rw [List.getElem?_replicate_of_lt h]; simp
    · rw [List.getElem?_eq_none (by rw [List.length_replicate]; omega)]; simp
  | k + 1, hk, j => by
    have ih := nxtK_get (many := many) (has := has) (l := l) (r := r) (c := c) k (by omega) j
    have hl := nxtK_len many has l r c k
    have ma : manyAt many l k = many l[k] := by unfold manyAt; rw [dif_pos (by omega)]
    have ha : hasAt has l k c = has l[k] c := by unfold hasAt; rw [dif_pos (by omega)]
    have key : bget (nxtK many has l r c (k + 1)) j = (bget (nxtK many has l r c k) j || (decide (k = j) && bget r k && many l[k]) || (decide (k + 1 = j) && bget r k && !many l[k] && has l[k] c)) := by
      rw [nxtK, dif_pos (by omega)]
      cases hr : bget r k <;> cases hm : many l[k] <;> cases hh : has l[k] c <;> simp only [Bool.and_true, Bool.and_false, Bool.true_and, Bool.false_and, if_true, Bool.not_true, Bool.not_false, Bool.or_false, if_false, Bool.false_eq_true]
      · rw [bget_set _ _ _ (by omega)]
      · rw [bget_set _ _ _ (by omega)]
      · rw [bget_set _ _ _ (by omega)]
    rw [key, ih]
    by_cases e1 : k = j
    · subst e1
      have d1 : decide (k < k) = false := by simp
      have d2 : decide (k + 1 = k) = false := by simp
      have d3 : decide (k < k + 1) = true := by simp
      have d4 : decide (k - 1 < k + 1) = true := by simp; omega
      rw [d1, d2, d3, d4, ma]
      rcases Nat.eq_zero_or_pos k with h0 | h0
      · have : decide (0 < k) = false := by simp; omega
        rw [this]
        simp
      · have : decide (k - 1 < k) = true := by simp; omega
        rw [this]
        simp [Bool.or_comm]
    · have d0 : decide (k = j) = false := decide_eq_false e1
      rw [d0]
      by_cases e2 : k + 1 = j
      · subst e2
        have d1 : decide (k + 1 < k) = false := by simp
        have d2 : decide (k + 1 < k + 1) = false := by simp
        have d3 : decide (k + 1 - 1 < k) = false := by simp
        have d4 : decide (k + 1 - 1 < k + 1) = true := by simp
        have d5 : decide (0 < k + 1) = true := by simp
        rw [d1, d2, d3, d4, d5, Nat.add_sub_cancel, ma, ha]
        simp
      · have d1 : decide (k + 1 = j) = false := decide_eq_false e2
        have d2 : decide (j < k) = decide (j < k + 1) := by rw [decide_eq_decide]; omega
        have d3 : decide (0 < j) = true → decide (j - 1 < k) = decide (j - 1 < k + 1) := fun h => by
          have h : 0 < j := by simpa using h
          rw [decide_eq_decide]
          omega
        rw [d1, d2]
        cases hz : decide (0 < j) with
        | false => simp
        | true => rw [d3 hz]; simp
/-- Marks that tell what meets p. -/
def Marks (many : α → Bool) (has : α → β → Bool) (l : List α) (p : List β) (r : List Bool) : Prop := r.length = l.length + 1 ∧ ∀ i, i ≤ l.length → bget r i = mkB many has l p i
theorem take_snoc (l : List α) (i : Nat) (h : i < l.length) : l.take (i + 1) = l.take i ++ [l[i]] := List.take_succ_eq_append_getElem h
theorem marks_first (l : List α) : Marks many has l ([] : List β) (spr many l ((List.replicate (l.length + 1) false).set 0 true)) := by
  have hr : ((List.replicate (l.length + 1) false).set 0 true).length = l.length + 1 := by simp
  have A : ∀ i, i ≤ l.length → bget (spr many l ((List.replicate (l.length + 1) false).set 0 true)) i = gm many has (l.take i) ([] : List β) := by
    intro i
    induction i with
    | zero =>
      intro _
      rw [spr_get hr 0 (Nat.zero_le _), bget_set _ _ _ (by simp)]
      simp [gm]
    | succ i ih =>
      intro hi
      rw [spr_get hr (i + 1) hi, bget_set _ _ _ (by simp), Nat.add_sub_cancel, ih (by omega), take_snoc l i (by omega), gm_snoc_nil]
      have : bget (List.replicate (l.length + 1) false) (i + 1) = false := by
        unfold bget
        rw [List.getD_eq_getElem?_getD]
        by_cases h : i + 1 < l.length + 1
        · rw [List.getElem?_replicate_of_lt h]; rfl
        · rw [List.getElem?_eq_none (by rw [List.length_replicate]; omega)]; rfl
      rw [this]
      have ma : manyAt many l i = many l[i] := by unfold manyAt; rw [dif_pos (by omega)]
      rw [ma]
      simp
  refine ⟨by unfold spr; rw [sprK_len, hr], fun i hi => ?_⟩
  rw [A i hi]
  unfold mkB
  split
  · rename_i h
    split
    · rename_i hm
      rw [take_snoc l i h, gm_snoc_nil, hm, Bool.and_true]
    · rfl
  · rfl
theorem marks_next {l : List α} {p : List β} {r : List Bool} (h : Marks many has l p r) (c : β) : Marks many has l (p ++ [c]) (nxt many has l r c) := by
  obtain ⟨hl, hr⟩ := h
  have nl := nxtK_len many has l r c l.length
  have gn := nxtK_get (many := many) (has := has) (l := l) (r := r) (c := c) l.length (Nat.le_refl _)
  refine ⟨by unfold nxt spr; rw [sprK_len, nl], fun i => ?_⟩
  induction i with
  | zero =>
    intro _
    unfold nxt
    rw [spr_get nl 0 (Nat.zero_le _), gn 0]
    simp only [Nat.lt_irrefl, decide_false, Bool.false_and, Bool.or_false]
    unfold mkB manyAt
    by_cases h0 : 0 < l.length
    · rw [dif_pos h0, dif_pos h0, hr 0 (Nat.zero_le _), decide_eq_true h0, Bool.true_and]
      unfold mkB
      rw [dif_pos h0]
      cases hm : many l[0] with
      | true =>
        simp only [if_true, Bool.and_true]
        rw [take_snoc l 0 h0, gm_snoc_many hm]
        simp [gm]
      | false => simp [gm]
    · rw [dif_neg h0, dif_neg h0]
      simp [gm]
  | succ i ih =>
    intro hi
    have hm1 : i < l.length := by omega
    unfold nxt
    rw [spr_get nl (i + 1) hi, gn (i + 1), Nat.add_sub_cancel]
    have ih' : bget (spr many l (nxtK many has l r c l.length)) i = mkB many has l (p ++ [c]) i := ih (by omega)
    rw [ih', hr (i + 1) hi, hr i (by omega)]
    have ma : manyAt many l i = many l[i] := by unfold manyAt; rw [dif_pos hm1]
    have ha : hasAt has l i c = has l[i] c := by unfold hasAt; rw [dif_pos hm1]
    have B1 : mkB many has l (p ++ [c]) i = if many l[i] then gm many has (l.take (i + 1)) (p ++ [c]) else gm many has (l.take i) (p ++ [c]) := by unfold mkB; rw [dif_pos hm1]
    have B2 : mkB many has l p i = if many l[i] then gm many has (l.take (i + 1)) p else gm many has (l.take i) p := by unfold mkB; rw [dif_pos hm1]
    rw [ma, ha, B1, B2]
    have T : gm many has (l.take (i + 1)) (p ++ [c]) = if many l[i] then (gm many has (l.take (i + 1)) p || gm many has (l.take i) (p ++ [c])) else (gm many has (l.take i) p && has l[i] c) := by
      split
      · rename_i hm
        rw [take_snoc l i hm1, gm_snoc_many hm]
      · rename_i hm
        rw [take_snoc l i hm1, gm_snoc_one (by simpa using hm)]
    have d1 : decide (0 < i + 1) = true := by simp
    have d2 : decide (i < l.length) = true := by simpa using hm1
    rw [d1, d2]
    simp only [Bool.true_and]
    -- the first half: what goes on at i + 1
    have G : mkB many has l (p ++ [c]) (i + 1) = ((decide (i + 1 < l.length) && mkB many has l p (i + 1) && manyAt many l (i + 1)) || gm many has (l.take (i + 1)) (p ++ [c])) := by
      unfold mkB manyAt
      by_cases h2 : i + 1 < l.length
      · simp only [dif_pos h2, decide_eq_true h2, Bool.true_and]
        cases hm2 : many l[i + 1] with
        | true =>
          simp only [if_true, Bool.and_true]
          rw [take_snoc l (i + 1) h2, gm_snoc_many hm2]
        | false => simp
      · simp only [dif_neg h2, decide_eq_false h2]
        simp
    rw [G, T]
    cases hm : many l[i] with
    | true => simp [Bool.or_assoc]
    | false => simp [Bool.or_assoc]
theorem marks_last {l : List α} {p : List β} {r : List Bool} (h : Marks many has l p r) : bget r l.length = gm many has l p := by
  rw [h.2 l.length (Nat.le_refl _)]
  unfold mkB
  rw [dif_neg (Nat.lt_irrefl _), List.take_length]

/-! The table, from the end. -/
/-- Row i: of each end of the list, whether the parts from i on meet it. -/
def tabR (many : α → Bool) (has : α → β → Bool) (ts : List α) (n : List β) : List Bool := (List.range (n.length + 1)).map (fun k => gm many has ts (n.drop k))
theorem tabR_len (ts : List α) (n : List β) : (tabR many has ts n).length = n.length + 1 := by unfold tabR; rw [List.length_map, List.length_range]
theorem tabR_get {ts : List α} {n : List β} {k : Nat} (hk : k ≤ n.length) : bget (tabR many has ts n) k = gm many has ts (n.drop k) := by
  unfold bget tabR
  rw [List.getD_eq_getElem?_getD, List.getElem?_map, List.getElem?_range (by omega)]
  rfl
theorem tabR_nil (n : List β) : tabR many has ([] : List α) n = (List.replicate (n.length + 1) false).set n.length true := by
  refine List.ext_getElem (by rw [tabR_len]; simp) (fun k h1 h2 => ?_)
  rw [tabR_len] at h1
  have e0 : (tabR many has ([] : List α) n)[k]'(by rw [tabR_len]; exact h1) = gm many has ([] : List α) (n.drop k) := by simp [tabR]
  rw [e0, List.getElem_set]
  by_cases e : n.length = k
  · rw [if_pos e, List.drop_eq_nil_of_le (by omega)]; rfl
  · rw [if_neg e, List.getElem_replicate]
    have : n.drop k ≠ [] := by intro h; have := congrArg List.length h; rw [List.length_drop] at this; simp at this; omega
    cases hd : n.drop k with
    | nil => exact absurd hd this
    | cons c r => rfl
theorem tab_step {t : α} {ts : List α} {n : List β} {k : Nat} (hk : k ≤ n.length) : gm many has (t :: ts) (n.drop k) = if many t then (gm many has ts (n.drop k) || (decide (k < n.length) && gm many has (t :: ts) (n.drop (k + 1)))) else (if h : k < n.length then has t n[k] && gm many has ts (n.drop (k + 1)) else false) := by
  by_cases h : k < n.length
  · rw [List.drop_eq_getElem_cons h, dif_pos h, decide_eq_true h, Bool.true_and]
    split
    · rename_i hm; rw [gm_many_cons hm]
    · rename_i hm; rw [gm_one_cons (by simpa using hm)]
  · rw [List.drop_eq_nil_of_le (by omega), dif_neg h, decide_eq_false h]
    split
    · rename_i hm; rw [gm_many_nil hm]; simp
    · rename_i hm; rw [gm_one_nil (by simpa using hm)]
end
end Go.Proofs.YtmagidkgajmhoaaDoor
