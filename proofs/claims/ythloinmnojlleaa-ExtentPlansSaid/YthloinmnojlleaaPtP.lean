/- PtP: plain laws for ExtentPlans: the moves of a plan, done in their order. -/
import Derived.Test.YthloinmnojlleaaPnC
import Derived.Test.YthloinmnojlleaaOnceP
set_option linter.unusedVariables false
set_option linter.unusedSimpArgs false
namespace Go.Proofs.Ythloinmnojlleaa
open Go.RowKit

/-- Spans in order, from lo on, none over another one. -/
def Chn (n : Nat) : Nat → List (Nat × Nat) → Prop
  | _, [] => True
  | lo, x :: l => lo ≤ x.1 ∧ 1 ≤ x.2 ∧ x.1 + x.2 ≤ n ∧ Chn n (x.1 + x.2) l
theorem chn_of {n : Nat} : ∀ {lo : Nat} {M : List (Nat × Nat)}, Ord M → M.Pairwise Dis → (∀ x ∈ M, 1 ≤ x.2 ∧ x.1 + x.2 ≤ n) → (∀ x ∈ M, lo ≤ x.1) → Chn n lo M
  | lo, [], _, _, _, _ => trivial
  | lo, x :: l, hO, hD, hI, hl => by
    have hx := hI x (List.mem_cons_self ..)
    refine ⟨hl x (List.mem_cons_self ..), hx.1, hx.2, chn_of (List.Pairwise.of_cons hO) (List.Pairwise.of_cons hD) (fun y hy => hI y (List.mem_cons_of_mem _ hy)) (fun y hy => ?_)⟩
    have h1 := List.rel_of_pairwise_cons hO hy
    have h2 := List.rel_of_pairwise_cons hD hy
    have h3 := hI y (List.mem_cons_of_mem _ hy)
    unfold Dis at h2
    omega
theorem chn_mono {n : Nat} : ∀ {lo lo' : Nat} {M : List (Nat × Nat)}, Chn n lo M → lo' ≤ lo → Chn n lo' M
  | _, _, [], _, _ => trivial
  | _, _, x :: l, h, hl => ⟨Nat.le_trans hl h.1, h.2.1, h.2.2.1, h.2.2.2⟩
theorem chn_get {n : Nat} : ∀ {lo : Nat} {M : List (Nat × Nat)}, Chn n lo M → ∀ i (hi : i < M.length), lo + sm (M.take i) ≤ M[i].1 ∧ 1 ≤ M[i].2 ∧ M[i].1 + M[i].2 ≤ n
  | lo, x :: l, h, 0, _ => by simp [sm]; exact ⟨h.1, h.2.1, h.2.2.1⟩
  | lo, x :: l, h, i + 1, hi => by
    have := chn_get h.2.2.2 i (by simpa using hi)
    have h1 := h.1
    simp only [List.take_succ_cons, sm, List.getElem_cons_succ]
    omega
theorem chn_lt {n : Nat} : ∀ {lo : Nat} {M : List (Nat × Nat)}, Chn n lo M → ∀ i j (hi : i < j) (hj : j < M.length), (M[i]'(by omega)).1 + (M[i]'(by omega)).2 ≤ M[j].1
  | lo, x :: l, h, 0, j + 1, _, hj => by
    have := (chn_get h.2.2.2 j (by simpa using hj)).1
    simp only [List.getElem_cons_zero, List.getElem_cons_succ]
    omega
  | lo, x :: l, h, i + 1, j + 1, hi, hj => by
    have := chn_lt h.2.2.2 i j (by omega) (by simpa using hj)
    simpa using this
/-- A move, byte by byte. -/
def mvStep (arr : List Nat) (f t : Nat) : Nat → List Nat
  | 0 => arr
  | k + 1 => (mvStep arr f t k).set (t + k) ((mvStep arr f t k).getD (f + k) 0)
theorem mvStep_length (arr : List Nat) (f t : Nat) : ∀ k, (mvStep arr f t k).length = arr.length
  | 0 => rfl
  | k + 1 => by rw [mvStep, List.length_set, mvStep_length arr f t k]
theorem getD_set {l : List Nat} {i : Nat} {v : Nat} (h : i < l.length) (p : Nat) : (l.set i v).getD p 0 = if p = i then v else l.getD p 0 := by
  simp only [List.getD_eq_getElem?_getD, List.getElem?_set]
  by_cases e : i = p
  · subst e; simp [h]
  · rw [if_neg e, if_neg (fun x => e x.symm)]
theorem mvStep_get {arr : List Nat} {f t : Nat} (htf : t ≤ f) : ∀ {k : Nat}, f + k ≤ arr.length → ∀ p, (mvStep arr f t k).getD p 0 = if t ≤ p ∧ p < t + k then arr.getD (f + (p - t)) 0 else arr.getD p 0
  | 0, _, p => by rw [mvStep, if_neg (by omega)]
  | k + 1, hk, p => by
    rw [mvStep, getD_set (by rw [mvStep_length]; omega), mvStep_get htf (by omega), if_neg (show ¬ (t ≤ f + k ∧ f + k < t + k) by omega)]
    by_cases e : p = t + k
    · subst e
      rw [if_pos rfl, if_pos (by omega), show t + k - t = k by omega]
    · rw [if_neg e, mvStep_get htf (by omega)]
      by_cases h : t ≤ p ∧ p < t + k
      · rw [if_pos h, if_pos (by omega)]
      · rw [if_neg h, if_neg (by omega)]
def mvRun (arr : List Nat) (m : Nat × Nat × Nat) : List Nat := mvStep arr m.1 m.2.1 m.2.2
theorem moved {n : Nat} : ∀ (M : List (Nat × Nat)) (p lo : Nat) (arr : List Nat), Chn n lo M → p ≤ lo → arr.length = n → (∀ q, lo ≤ q → q < n → arr.getD q 0 = q) →
    ((mvs p M).foldl mvRun arr).length = n ∧ (∀ q, q < p → ((mvs p M).foldl mvRun arr).getD q 0 = arr.getD q 0) ∧ ∀ i (hi : i < M.length), ∀ t, t < M[i].2 → ((mvs p M).foldl mvRun arr).getD (p + sm (M.take i) + t) 0 = M[i].1 + t
  | [], p, lo, arr, _, _, hl, _ => ⟨hl, fun _ _ => rfl, fun i hi => absurd hi (by simp)⟩
  | x :: M, p, lo, arr, hc, hp, hl, hq => by
    obtain ⟨c1, c2, c3, c4⟩ := hc
    obtain ⟨arr1, ha, h1, h2, h3⟩ : ∃ arr1, (mvs p (x :: M)).foldl mvRun arr = (mvs (p + x.2) M).foldl mvRun arr1 ∧ arr1.length = n ∧ (∀ q, x.1 + x.2 ≤ q → q < n → arr1.getD q 0 = q) ∧
        ((∀ t, t < x.2 → arr1.getD (p + t) 0 = x.1 + t) ∧ ∀ q, q < p → arr1.getD q 0 = arr.getD q 0) := by
      by_cases e : x.1 = p
      · refine ⟨arr, by simp only [mvs]; rw [if_pos e]; rfl, hl, fun q a b => hq q (by omega) b, fun t ht => ?_, fun _ _ => rfl⟩
        rw [hq (p + t) (by omega) (by omega)]
        omega
      · have hg := fun q => mvStep_get (arr := arr) (f := x.1) (t := p) (by omega) (k := x.2) (by omega) q
        refine ⟨mvRun arr (x.1, p, x.2), by simp only [mvs]; rw [if_neg e]; rfl, by unfold mvRun; rw [mvStep_length]; exact hl, fun q a b => ?_, fun t ht => ?_, fun q hqp => ?_⟩
        · unfold mvRun
          rw [hg, if_neg (by omega)]
          exact hq q (by omega) b
        · unfold mvRun
          rw [hg, if_pos (by omega), show p + t - p = t by omega]
          exact hq _ (by omega) (by omega)
        · unfold mvRun
          rw [hg, if_neg (by omega)]
    rw [ha]
    obtain ⟨r1, r2, r3⟩ := moved M (p + x.2) (x.1 + x.2) arr1 c4 (by omega) h1 h2
    refine ⟨r1, fun q hqp => by rw [r2 q (by omega), h3.2 q hqp], fun i hi t ht => ?_⟩
    cases i with
    | zero =>
      simp only [List.take_zero, sm, List.getElem_cons_zero] at ht ⊢
      rw [Nat.add_zero, r2 _ (by omega)]
      exact h3.1 t ht
    | succ i =>
      simp only [List.take_succ_cons, sm, List.getElem_cons_succ] at ht ⊢
      have := r3 i (by simpa using hi) t ht
      rw [← this]
      congr 1
      omega
theorem mvs_in {n : Nat} : ∀ {M : List (Nat × Nat)} {p lo : Nat}, Chn n lo M → p ≤ lo → ∀ m ∈ mvs p M, 1 ≤ m.2.2 ∧ m.1 + m.2.2 ≤ n ∧ m.2.1 + m.2.2 ≤ n
  | [], p, lo, _, _, m, hm => by simp [mvs] at hm
  | x :: M, p, lo, hc, hp, m, hm => by
    obtain ⟨c1, c2, c3, c4⟩ := hc
    simp only [mvs, List.mem_append] at hm
    rcases hm with hm | hm
    · by_cases e : x.1 = p
      · rw [if_pos e] at hm; simp at hm
      · rw [if_neg e] at hm
        simp only [List.mem_singleton] at hm
        subst hm
        simp only
        omega
    · exact mvs_in c4 (by omega) m hm
/-- The first of the spans that may be, so far. -/
def leastK (n : Nat) (L : List (Nat × Nat)) (ok : Nat × Nat → Bool) : Nat → Nat × Nat
  | 0 => (n, 0)
  | i + 1 => if (L.getD i (0, 0)).1 < (leastK n L ok i).1 ∧ ok (L.getD i (0, 0)) = true then L.getD i (0, 0) else leastK n L ok i
theorem leastK_or (n : Nat) (L : List (Nat × Nat)) (ok : Nat × Nat → Bool) : ∀ k, k ≤ L.length → (leastK n L ok k = (n, 0) ∨ (leastK n L ok k ∈ L ∧ ok (leastK n L ok k) = true)) ∧ ∀ i, i < k → ok (L.getD i (0, 0)) = true → (leastK n L ok k).1 ≤ (L.getD i (0, 0)).1
  | 0, _ => ⟨.inl rfl, fun i h => absurd h (Nat.not_lt_zero _)⟩
  | k + 1, hk => by
    obtain ⟨h1, h2⟩ := leastK_or n L ok k (by omega)
    rw [leastK]
    by_cases c : (L.getD k (0, 0)).1 < (leastK n L ok k).1 ∧ ok (L.getD k (0, 0)) = true
    · rw [if_pos c]
      refine ⟨.inr ⟨by rw [getD_get (show k < L.length by omega)]; exact List.getElem_mem _, c.2⟩, fun i hi ho => ?_⟩
      by_cases e : i = k
      · subst e; exact Nat.le_refl _
      · have := h2 i (by omega) ho
        omega
    · rw [if_neg c]
      refine ⟨h1, fun i hi ho => ?_⟩
      by_cases e : i = k
      · subst e
        have : ¬ (L.getD i (0, 0)).1 < (leastK n L ok i).1 := fun h => c ⟨h, ho⟩
        omega
      · exact h2 i (by omega) ho
/-- May a span be the next one? -/
def okAt (arr : List Nat) (p : Nat) (x : Nat × Nat) : Bool := decide (p = 0) || decide (arr.getD (p - 1) 0 < x.1)
theorem sm_pos {n : Nat} : ∀ {lo : Nat} {M : List (Nat × Nat)}, Chn n lo M → ∀ j, 0 < j → j ≤ M.length → 0 < sm (M.take j)
  | lo, [], _, j, h1, h2 => by simp at h2; omega
  | lo, x :: l, h, j + 1, _, _ => by
    have := h.2.1
    simp only [List.take_succ_cons, sm]
    omega
theorem least_is {n : Nat} {L M : List (Nat × Nat)} {arr : List Nat} (hc : Chn n 0 M) (hp : M.Perm L) (ha : ∀ i (hi : i < M.length), ∀ t, t < M[i].2 → arr.getD (sm (M.take i) + t) 0 = M[i].1 + t) (j : Nat) (hj : j < M.length) :
    leastK n L (okAt arr (sm (M.take j))) L.length = M[j] := by
  have hok : ∀ i (hi : i < M.length), okAt arr (sm (M.take j)) M[i] = decide (j ≤ i) := fun i hi => by
    unfold okAt
    rcases Nat.eq_zero_or_pos j with h0 | h0
    · subst h0
      simp [sm]
    · have hs := sm_pos hc j h0 (by omega)
      have e : sm (M.take j) = sm (M.take (j - 1)) + (M[j - 1]'(by omega)).2 := by
        have : M.take j = M.take (j - 1) ++ [M[j - 1]'(by omega)] := by
          have := List.take_succ_eq_append_getElem (l := M) (i := j - 1) (by omega)
          rwa [show j - 1 + 1 = j by omega] at this
        rw [this, sm_snoc]
      have h2 := (chn_get hc (j - 1) (by omega)).2.1
      have h3 := ha (j - 1) (by omega) ((M[j - 1]'(by omega)).2 - 1) (by omega)
      rw [show sm (M.take (j - 1)) + ((M[j - 1]'(by omega)).2 - 1) = sm (M.take j) - 1 by omega] at h3
      rw [decide_eq_false (by omega), Bool.false_or, h3]
      by_cases hij : j ≤ i
      · have := chn_lt hc (j - 1) i (by omega) hi
        rw [decide_eq_true (by omega), decide_eq_true hij]
      · have h4 : M[i].1 ≤ (M[j - 1]'(by omega)).1 := by
          by_cases e2 : i = j - 1
          · subst e2; exact Nat.le_refl _
          · have := chn_lt hc i (j - 1) (by omega) (by omega)
            omega
        rw [decide_eq_false (by omega), decide_eq_false hij]
  obtain ⟨h1, h2⟩ := leastK_or n L (okAt arr (sm (M.take j))) L.length (Nat.le_refl _)
  have hm := chn_get hc j hj
  obtain ⟨q, hq, eq⟩ := List.getElem_of_mem (hp.subset (List.getElem_mem hj))
  have hb := h2 q hq (by rw [getD_get hq, eq, hok j hj]; simp)
  rw [getD_get hq, eq] at hb
  rcases h1 with h1 | ⟨h1, h3⟩
  · rw [h1] at hb
    simp only at hb
    omega
  · obtain ⟨i, hi, ei⟩ := List.getElem_of_mem (hp.symm.subset h1)
    rw [← ei] at h3 hb ⊢
    rw [hok i hi, decide_eq_true_eq] at h3
    by_cases e : i = j
    · subst e; rfl
    · have := chn_lt hc j i (by omega) hi
      omega
theorem dis_comm {x y : Nat × Nat} (h : Dis x y) : Dis y x := by unfold Dis at *; omega
theorem tot_perm {L L' : List (Nat × Nat)} (h : L.Perm L') : tot L = tot L' := by
  induction h with
  | nil => rfl
  | cons x _ ih => rw [tot_cons, tot_cons, ih]
  | swap x y l => rw [tot_cons, tot_cons, tot_cons, tot_cons]; omega
  | trans _ _ h1 h2 => exact h1.trans h2
theorem inv_perm {n : Nat} {a : Ar} {L L' : List (Nat × Nat)} (h : Inv n a L) (hp : L.Perm L') : Inv n a L' :=
  ⟨h.ok, h.size, fun x hx => h.inn x (hp.symm.subset hx), fun x hx => h.far x (hp.symm.subset hx), hp.pairwise h.pair (fun h => dis_comm h), by
    have : tot L = tot L' := tot_perm hp
    rw [← this]
    exact h.sum⟩
theorem ok_inv {n : Nat} {a : Ar} {L M : List (Nat × Nat)} (h : Inv n a L) (hp : M.Perm L) (hO : Ord M) : ∀ i, i < M.length → okI a.holes M i = true := by
  have hI := inv_perm h hp.symm
  have hc : Chn n 0 M := chn_of hO hI.pair hI.inn (fun _ _ => Nat.zero_le _)
  intro i hi
  have hf := fun hl => inv_free hI hi hl
  unfold okI tknB
  rw [getD_get hi, Bool.and_eq_true]
  constructor
  · have := behind_le a.holes (M[i].1 : Int)
    rcases Nat.lt_or_ge (behindI a.holes (M[i].1 : Int)) a.holes.length with h1 | h1
    · have h2 := hf h1
      rw [getD_get h1, decide_eq_true (show M[i].1 + M[i].2 ≤ _ from h2), Bool.or_true]
    · rw [decide_eq_true (show behindI a.holes (M[i].1 : Int) = a.holes.length by omega), Bool.true_or]
  · rcases Nat.eq_zero_or_pos i with h0 | h0
    · rw [decide_eq_true h0, Bool.true_or]
    · have := chn_lt hc (i - 1) i (by omega) hi
      rw [getD_get (show i - 1 < M.length by omega), decide_eq_true (show _ + _ ≤ _ from this), Bool.or_true]
end Go.Proofs.Ythloinmnojlleaa
