/- PlP: which bytes are free, one by one: plain laws. -/
import Derived.Test.YthloinmnojlleaaOnceP
set_option linter.unusedVariables false
set_option linter.unusedSimpArgs false
namespace Go.Proofs.Ythloinmnojlleaa
open Go.RowKit

/-- A byte lies in one of some extents. -/
def inR (k : Nat) (R : List (Nat × Nat)) : Prop := ∃ h ∈ R, h.1 ≤ k ∧ k < h.1 + h.2
theorem inR_nil (k : Nat) : ¬ inR k [] := by rintro ⟨h, hh, _⟩; simp at hh
theorem inR_cons (k : Nat) (h : Nat × Nat) (R : List (Nat × Nat)) : inR k (h :: R) ↔ (h.1 ≤ k ∧ k < h.1 + h.2) ∨ inR k R := by
  constructor
  · rintro ⟨x, hx, hk⟩
    rcases List.mem_cons.1 hx with rfl | hx
    · exact .inl hk
    · exact .inr ⟨x, hx, hk⟩
  · rintro (hk | ⟨x, hx, hk⟩)
    · exact ⟨h, List.mem_cons_self .., hk⟩
    · exact ⟨x, List.mem_cons_of_mem _ hx, hk⟩
theorem inR_lo {N : Nat} : ∀ {lo k : Nat} {R : List (Nat × Nat)}, Lies N lo R → inR k R → lo ≤ k ∧ k < N
  | lo, k, [], _, h => absurd h (inR_nil k)
  | lo, k, x :: R, hl, h => by
    obtain ⟨h1, h2, h3, h4⟩ := hl
    rcases (inR_cons k x R).1 h with h | h
    · omega
    · have := inR_lo h4 h
      omega
/-- Extents as far as a place. -/
def upTo (k : Nat) : List (Nat × Nat) → List (Nat × Nat)
  | [] => []
  | h :: l => if k ≤ h.1 then [] else if h.1 + h.2 ≤ k then h :: upTo k l else [(h.1, k - h.1)]
/-- The last one longer by one. -/
def bump : List (Nat × Nat) → List (Nat × Nat)
  | [] => []
  | [x] => [(x.1, x.2 + 1)]
  | x :: y :: l => x :: bump (y :: l)
theorem bump_cons (x : Nat × Nat) {l : List (Nat × Nat)} (h : l ≠ []) : bump (x :: l) = x :: bump l := by
  cases l with
  | nil => exact absurd rfl h
  | cons y l => rfl
theorem upTo_lo {N : Nat} : ∀ {lo k : Nat} {R : List (Nat × Nat)}, Lies N lo R → k ≤ lo → upTo k R = []
  | lo, k, [], _, _ => rfl
  | lo, k, x :: R, h, hk => by rw [upTo, if_pos (by have := h.1; omega)]
theorem upTo_end {N : Nat} : ∀ {lo k : Nat} {R : List (Nat × Nat)}, Lies N lo R → N ≤ k → upTo k R = R
  | lo, k, [], _, _ => rfl
  | lo, k, x :: R, h, hk => by
    obtain ⟨h1, h2, h3, h4⟩ := h
    rw [upTo, if_neg (by omega), if_pos (by omega), upTo_end h4 hk]
theorem upTo_out {N : Nat} : ∀ {lo k : Nat} {R : List (Nat × Nat)}, Lies N lo R → ¬ inR k R → upTo (k + 1) R = upTo k R
  | lo, k, [], _, _ => rfl
  | lo, k, x :: R, h, hk => by
    obtain ⟨h1, h2, h3, h4⟩ := h
    rw [inR_cons] at hk
    have hx : ¬ (x.1 ≤ k ∧ k < x.1 + x.2) := fun e => hk (.inl e)
    have hr : ¬ inR k R := fun e => hk (.inr e)
    rw [upTo, upTo]
    by_cases e : k < x.1
    · rw [if_pos (by omega), if_pos (by omega)]
    · rw [if_neg (show ¬ k + 1 ≤ x.1 by omega), if_neg (show ¬ k ≤ x.1 by omega), if_pos (show x.1 + x.2 ≤ k + 1 by omega), if_pos (show x.1 + x.2 ≤ k by omega), upTo_out h4 hr]
theorem upTo_new {N : Nat} : ∀ {lo k : Nat} {R : List (Nat × Nat)}, Lies N lo R → inR k R → (k = 0 ∨ ¬ inR (k - 1) R) → upTo (k + 1) R = upTo k R ++ [(k, 1)]
  | lo, k, [], _, h, _ => absurd h (inR_nil k)
  | lo, k, x :: R, h, hk, hp => by
    obtain ⟨h1, h2, h3, h4⟩ := h
    rw [inR_cons] at hk
    rw [inR_cons] at hp
    rw [upTo, upTo]
    rcases hk with hk | hk
    · have e : x.1 = k := by
        rcases hp with hp | hp
        · omega
        · have : ¬ (x.1 ≤ k - 1 ∧ k - 1 < x.1 + x.2) := fun e => hp (.inl e)
          omega
      rw [if_neg (show ¬ k + 1 ≤ x.1 by omega), if_pos (show k ≤ x.1 by omega)]
      by_cases h2' : x.1 + x.2 ≤ k + 1
      · rw [if_pos h2', upTo_lo h4 (by omega), List.nil_append]
        have : x = (k, 1) := by
          cases x
          simp only at *
          congr 1
          omega
        rw [this]
      · rw [if_neg h2', List.nil_append, e, show k + 1 - k = 1 by omega]
    · have := inR_lo h4 hk
      rw [if_neg (show ¬ k + 1 ≤ x.1 by omega), if_neg (show ¬ k ≤ x.1 by omega), if_pos (show x.1 + x.2 ≤ k + 1 by omega), if_pos (show x.1 + x.2 ≤ k by omega)]
      rw [upTo_new h4 hk (hp.imp id (fun hp e => hp (.inr e)))]
      rfl
theorem upTo_more {N : Nat} : ∀ {lo k : Nat} {R : List (Nat × Nat)}, Lies N lo R → inR (k + 1) R → inR k R → upTo (k + 1) R ≠ [] ∧ upTo (k + 2) R = bump (upTo (k + 1) R)
  | lo, k, [], _, h, _ => absurd h (inR_nil _)
  | lo, k, x :: R, h, hk, hp => by
    obtain ⟨h1, h2, h3, h4⟩ := h
    rw [inR_cons] at hk hp
    rw [upTo, upTo]
    rcases hk with hk | hk
    · rcases hp with hp | hp
      · rw [if_neg (show ¬ k + 1 ≤ x.1 by omega), if_neg (show ¬ k + 2 ≤ x.1 by omega), if_neg (show ¬ x.1 + x.2 ≤ k + 1 by omega)]
        refine ⟨by simp, ?_⟩
        by_cases e : x.1 + x.2 ≤ k + 2
        · rw [if_pos e, upTo_lo h4 (by omega)]
          unfold bump
          have : x.2 = k + 1 - x.1 + 1 := by omega
          rw [← this]
        · rw [if_neg e]
          unfold bump
          rw [show k + 2 - x.1 = k + 1 - x.1 + 1 by omega]
      · have := inR_lo h4 hp
        omega
    · have hlo := inR_lo h4 hk
      rcases hp with hp | hp
      · omega
      · obtain ⟨e1, e2⟩ := upTo_more h4 hk hp
        rw [if_neg (show ¬ k + 1 ≤ x.1 by omega), if_neg (show ¬ k + 2 ≤ x.1 by omega), if_pos (show x.1 + x.2 ≤ k + 2 by omega), if_pos (show x.1 + x.2 ≤ k + 1 by omega)]
        exact ⟨by simp, by rw [bump_cons _ e1, e2]⟩
/-- The runs of b in the first k of some bits. -/
def runsK (b : Bool) (l : List Bool) : Nat → List (Nat × Nat)
  | 0 => []
  | k + 1 => if l.getD k (!b) = b then (if 0 < k ∧ l.getD (k - 1) (!b) = b then bump (runsK b l k) else runsK b l k ++ [(k, 1)]) else runsK b l k
theorem runs_upTo {N : Nat} {b : Bool} {l : List Bool} {R : List (Nat × Nat)} (hl : Lies N 0 R) (hb : ∀ i, i < N → (l.getD i (!b) = b ↔ inR i R)) : ∀ k, k ≤ N → runsK b l k = upTo k R
  | 0, _ => by rw [runsK, upTo_lo hl (Nat.le_refl _)]
  | k + 1, h => by
    have ih := runs_upTo hl hb k (by omega)
    rw [runsK, ih]
    by_cases h1 : l.getD k (!b) = b
    · rw [if_pos h1]
      have i1 := (hb k (by omega)).1 h1
      by_cases h2 : 0 < k ∧ l.getD (k - 1) (!b) = b
      · rw [if_pos h2]
        obtain ⟨j, rfl⟩ : ∃ j, k = j + 1 := ⟨k - 1, by omega⟩
        have i2 := (hb j (by omega)).1 (by have := h2.2; rw [Nat.add_sub_cancel] at this; exact this)
        exact (upTo_more hl i1 i2).2.symm
      · rw [if_neg h2]
        refine (upTo_new hl i1 ?_).symm
        by_cases h0 : k = 0
        · exact .inl h0
        · exact .inr fun hi => h2 ⟨by omega, (hb (k - 1) (by omega)).2 hi⟩
    · rw [if_neg h1]
      exact (upTo_out hl (fun hi => h1 ((hb k (by omega)).2 hi))).symm
theorem runs_eq {N : Nat} {b : Bool} {l : List Bool} {R : List (Nat × Nat)} (hl : Lies N 0 R) (hb : ∀ i, i < N → (l.getD i (!b) = b ↔ inR i R)) : runsK b l N = R := by
  rw [runs_upTo hl hb N (Nat.le_refl _), upTo_end hl (Nat.le_refl _)]

/-- What is taken: what lies between holes. -/
def takenL (N : Nat) : Nat → List (Nat × Nat) → List (Nat × Nat)
  | e, [] => if e < N then [(e, N - e)] else []
  | e, h :: l => (if e < h.1 then [(e, h.1 - e)] else []) ++ takenL N (h.1 + h.2) l
theorem takenL_nil (N e : Nat) : takenL N e [] = if e < N then [(e, N - e)] else [] := by rw [takenL]
theorem takenL_cons (N e : Nat) (h : Nat × Nat) (l : List (Nat × Nat)) : takenL N e (h :: l) = (if e < h.1 then [(e, h.1 - e)] else []) ++ takenL N (h.1 + h.2) l := by rw [takenL]
theorem lies_taken {N : Nat} : ∀ {lo e : Nat} {R : List (Nat × Nat)}, Lies N lo R → e ≤ lo → (0 < e → e + 1 ≤ lo ∨ R = []) → Lies N e (takenL N e R)
  | lo, e, [], _, _, _ => by
    rw [takenL_nil]
    split
    · exact ⟨Nat.le_refl _, by simp only; omega, by simp only; omega, trivial⟩
    · trivial
  | lo, e, x :: R, h, he, _ => by
    obtain ⟨h1, h2, h3, h4⟩ := h
    have ih := lies_taken h4 (e := x.1 + x.2) (by omega) (fun _ => .inl (Nat.le_refl _))
    rw [takenL_cons]
    split
    · exact ⟨Nat.le_refl _, by simp only; omega, by simp only; omega, lies_weaken ih (by simp only; omega)⟩
    · simp only [List.nil_append]
      exact lies_weaken ih (by omega)
theorem inR_taken {N : Nat} : ∀ {lo e k : Nat} {R : List (Nat × Nat)}, Lies N lo R → e ≤ lo → e ≤ k → k < N → (inR k (takenL N e R) ↔ ¬ inR k R)
  | lo, e, k, [], _, _, hk, hN => by
    rw [takenL_nil]
    rw [if_pos (by omega)]
    constructor
    · exact fun _ => inR_nil k
    · exact fun _ => ⟨(e, N - e), by simp, hk, by simp only; omega⟩
  | lo, e, k, x :: R, h, he, hk, hN => by
    obtain ⟨h1, h2, h3, h4⟩ := h
    have key : inR k (takenL N e (x :: R)) ↔ (e ≤ k ∧ k < x.1) ∨ inR k (takenL N (x.1 + x.2) R) := by
      rw [takenL_cons]
      split
      · rw [show [(e, x.1 - e)] ++ takenL N (x.1 + x.2) R = (e, x.1 - e) :: takenL N (x.1 + x.2) R from rfl, inR_cons]
        simp only
        rw [show e + (x.1 - e) = x.1 by omega]
      · rw [List.nil_append]
        constructor
        · exact .inr
        · rintro (h | h)
          · omega
          · exact h
    rw [key, inR_cons]
    have ht := lies_taken h4 (e := x.1 + x.2) (by omega) (fun _ => .inl (Nat.le_refl _))
    by_cases hx : x.1 + x.2 ≤ k
    · rw [inR_taken h4 (by omega) hx hN]
      constructor
      · rintro (h | h)
        · omega
        · rintro (h' | h')
          · omega
          · exact h h'
      · exact fun h => .inr fun h' => h (.inr h')
    · constructor
      · rintro (h | h)
        · rintro (h' | h')
          · omega
          · have := inR_lo h4 h'; omega
        · have := inR_lo ht h; omega
      · intro h
        have hn : ¬ (x.1 ≤ k ∧ k < x.1 + x.2) := fun e => h (.inl e)
        exact .inl (by omega)

/-- Cut out of a hole. -/
theorem inR_cut {N : Nat} {L : List (Nat × Nat)} (hl : Lies N 0 L) {j : Nat} (hj : j < L.length) {f m : Nat} (h1 : L[j].1 ≤ f) (h2 : f + m ≤ L[j].1 + L[j].2) (k : Nat) : inR k (cutL L j L[j] f m) ↔ inR k L ∧ ¬ (f ≤ k ∧ k < f + m) := by
  constructor
  · rintro ⟨h, hm, hk⟩
    unfold cutL front back at hm
    simp only [List.mem_append] at hm
    rcases hm with hm | (hm | hm) | hm
    · obtain ⟨i, hi, e⟩ := List.mem_iff_getElem.1 hm
      rw [List.length_take] at hi
      rw [List.getElem_take] at e
      have := lies_mono hl i j (by omega) hj
      rw [e] at this
      exact ⟨⟨h, List.mem_of_mem_take hm, hk⟩, by omega⟩
    · split at hm
      · simp only [List.mem_singleton] at hm
        subst hm
        simp only at hk
        exact ⟨⟨L[j], List.getElem_mem hj, by omega⟩, by omega⟩
      · simp at hm
    · split at hm
      · simp only [List.mem_singleton] at hm
        subst hm
        simp only at hk
        exact ⟨⟨L[j], List.getElem_mem hj, by omega⟩, by omega⟩
      · simp at hm
    · obtain ⟨i, hi, e⟩ := List.mem_iff_getElem.1 hm
      rw [List.length_drop] at hi
      rw [List.getElem_drop] at e
      have := lies_mono hl j (j + 1 + i) (by omega) (by omega)
      rw [e] at this
      exact ⟨⟨h, List.mem_of_mem_drop hm, hk⟩, by omega⟩
  · rintro ⟨⟨h, hm, hk⟩, hn⟩
    obtain ⟨i, hi, rfl⟩ := List.mem_iff_getElem.1 hm
    unfold cutL front back
    rcases Nat.lt_trichotomy i j with hij | rfl | hij
    · exact ⟨L[i], List.mem_append_left _ (List.mem_iff_getElem.2 ⟨i, by rw [List.length_take]; omega, by rw [List.getElem_take]⟩), hk⟩
    · by_cases hkf : k < f
      · rw [if_pos (by omega)]
        exact ⟨(L[i].1, f - L[i].1), List.mem_append_right _ (List.mem_append_left _ (List.mem_append_left _ (List.mem_singleton.2 rfl))), hk.1, by simp only; omega⟩
      · rw [if_pos (show f + m < L[i].1 + L[i].2 by omega)]
        exact ⟨(f + m, L[i].1 + L[i].2 - f - m), List.mem_append_right _ (List.mem_append_left _ (List.mem_append_right _ (List.mem_singleton.2 rfl))), by simp only; omega, by simp only; omega⟩
    · exact ⟨L[i], List.mem_append_right _ (List.mem_append_right _ (List.mem_iff_getElem.2 ⟨i - (j + 1), by rw [List.length_drop]; omega, by rw [List.getElem_drop]; congr 1; omega⟩)), hk⟩
/-- Given back. -/
theorem inR_give {L : List (Nat × Nat)} {i : Nat} (hi : i ≤ L.length) {f s : Nat} (k : Nat) : inR k (giveL L i f s) ↔ inR k L ∨ (f ≤ k ∧ k < f + s) := by
  have hJ : joinsL L i f = true → 0 < i ∧ ∃ h : i - 1 < L.length, L[i - 1].1 + L[i - 1].2 = f := by
    intro h
    unfold joinsL at h
    simp only [Bool.and_eq_true, decide_eq_true_eq] at h
    have hp : i - 1 < L.length := by omega
    rw [getD_get hp] at h
    exact ⟨h.1, hp, h.2⟩
  have hR : joinsR L i (f + s) = true → ∃ h : i < L.length, L[i].1 = f + s := by
    intro h
    unfold joinsR at h
    simp only [Bool.and_eq_true, decide_eq_true_eq] at h
    rw [getD_get h.1] at h
    exact ⟨h.1, h.2⟩
  constructor
  · rintro ⟨h, hm, hk⟩
    rcases giveL_mem hi hm with hm | ⟨e1, e2⟩
    · exact .inl ⟨h, hm, hk⟩
    · rw [e1, e2] at hk
      by_cases hf : f ≤ k
      · by_cases hs : k < f + s
        · exact .inr ⟨hf, hs⟩
        · cases hr : joinsR L i (f + s) with
          | false => rw [hr] at hk; simp only [Bool.false_eq_true, if_false] at hk; omega
          | true =>
            obtain ⟨h1, h2⟩ := hR hr
            rw [hr] at hk
            simp only [if_true] at hk
            rw [getD_get h1] at hk
            exact .inl ⟨L[i], List.getElem_mem h1, by omega, hk.2⟩
      · cases hj : joinsL L i f with
        | false => rw [hj] at hk; simp only [Bool.false_eq_true, if_false] at hk; omega
        | true =>
          obtain ⟨h0, h1, h2⟩ := hJ hj
          rw [hj] at hk
          simp only [if_true] at hk
          rw [getD_get h1] at hk
          exact .inl ⟨L[i - 1], List.getElem_mem h1, hk.1, by omega⟩
  · have hmid : ∀ k, ((if joinsL L i f then (L.getD (i - 1) (0, 0)).1 else f) ≤ k ∧ k < (if joinsL L i f then (L.getD (i - 1) (0, 0)).1 else f) + ((if joinsL L i f then (L.getD (i - 1) (0, 0)).2 + s else s) + (if joinsR L i (f + s) then (L.getD i (0, 0)).2 else 0))) → inR k (giveL L i f s) := fun k hk =>
      ⟨_, List.mem_append_right _ (List.mem_cons_self ..), hk⟩
    rintro (⟨h, hm, hk⟩ | hk)
    · obtain ⟨p, hp, rfl⟩ := List.mem_iff_getElem.1 hm
      have htk : ∀ q, p < q → L[p] ∈ L.take q := fun q hq => List.mem_iff_getElem.2 ⟨p, by rw [List.length_take]; omega, by rw [List.getElem_take]⟩
      have hdr : ∀ q, q ≤ p → L[p] ∈ L.drop q := fun q hq => List.mem_iff_getElem.2 ⟨p - q, by rw [List.length_drop]; omega, by rw [List.getElem_drop]; congr 1; omega⟩
      cases hj : joinsL L i f <;> cases hr : joinsR L i (f + s)
      · by_cases hpi : p < i
        · exact ⟨L[p], List.mem_append_left _ (by rw [hj]; exact htk _ hpi), hk⟩
        · exact ⟨L[p], List.mem_append_right _ (List.mem_cons_of_mem _ (by rw [hr]; exact hdr _ (by simp; omega))), hk⟩
      · by_cases hpi : p < i
        · exact ⟨L[p], List.mem_append_left _ (by rw [hj]; exact htk _ hpi), hk⟩
        · by_cases he : p = i
          · subst he
            obtain ⟨h1, h2⟩ := hR hr
            refine hmid k ?_
            rw [hj, hr, getD_get h1]
            simp only [Bool.false_eq_true, if_false, if_true]
            omega
          · exact ⟨L[p], List.mem_append_right _ (List.mem_cons_of_mem _ (by rw [hr]; exact hdr _ (by simp; omega))), hk⟩
      · obtain ⟨h0, h1, h2⟩ := hJ hj
        by_cases hpi : p < i - 1
        · exact ⟨L[p], List.mem_append_left _ (by rw [hj]; exact htk _ hpi), hk⟩
        · by_cases he : p = i - 1
          · subst he
            refine hmid k ?_
            rw [hj, hr, getD_get h1]
            simp only [Bool.false_eq_true, if_false, if_true]
            omega
          · exact ⟨L[p], List.mem_append_right _ (List.mem_cons_of_mem _ (by rw [hr]; exact hdr _ (by simp; omega))), hk⟩
      · obtain ⟨h0, h1, h2⟩ := hJ hj
        obtain ⟨h3, h4⟩ := hR hr
        by_cases hpi : p < i - 1
        · exact ⟨L[p], List.mem_append_left _ (by rw [hj]; exact htk _ hpi), hk⟩
        · by_cases he : p = i - 1
          · subst he
            refine hmid k ?_
            rw [hj, hr, getD_get h1, getD_get h3]
            simp only [if_true]
            omega
          · by_cases he2 : p = i
            · subst he2
              refine hmid k ?_
              rw [hj, hr, getD_get h1, getD_get h3]
              simp only [if_true]
              omega
            · exact ⟨L[p], List.mem_append_right _ (List.mem_cons_of_mem _ (by rw [hr]; exact hdr _ (by simp; omega))), hk⟩
    · refine hmid k ?_
      cases hj : joinsL L i f <;> simp only [Bool.false_eq_true, if_false, if_true]
      · omega
      · obtain ⟨h0, h1, h2⟩ := hJ hj
        rw [getD_get h1]
        omega
end Go.Proofs.Ythloinmnojlleaa
