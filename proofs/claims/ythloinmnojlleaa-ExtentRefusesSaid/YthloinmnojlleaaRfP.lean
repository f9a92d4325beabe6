/- RfP: plain laws for ExtentRefuses: when a plan is refused. -/
import Derived.Test.YthloinmnojlleaaPnC
import Derived.Test.YthloinmnojlleaaPlJ
set_option linter.unusedVariables false
set_option linter.unusedSimpArgs false
namespace Go.Proofs.Ythloinmnojlleaa
open Go.RowKit

theorem tkn_all {a : Ar} {l : List Bool} {nx : Nat} (h : Like a l nx) {f z : Nat} (hz : 1 ≤ z) (hf : f + z ≤ a.size) : tknB a.holes f z = allK false l f z := by
  have hw : a.within (f : Int) (z : Int) = true := by unfold Ar.within; simp; omega
  have hw2 : rwithin l.length (f : Int) (z : Int) = true := by rw [h.len, ← rwithin_eq]; exact hw
  have hg := give_like h (f : Int) (z : Int)
  unfold Ar.giveE chgE at hg
  rw [if_neg (show ¬ (a.within (f : Int) (z : Int) = false) by rw [hw]; simp), if_neg (show ¬ (rwithin l.length (f : Int) (z : Int) = false) by rw [hw2]; simp)] at hg
  simp only [Int.toNat_natCast, Bool.not_true] at hg
  unfold tknB
  have ile := behind_le a.holes (f : Int)
  by_cases hb : behindI a.holes (f : Int) < a.holes.length ∧ ((a.holes.getD (behindI a.holes (f : Int)) (0, 0)).1 : Int) < (f : Int) + (z : Int)
  · rw [if_pos hb] at hg
    have e : allK false l f z = false := by
      cases hh : allK false l f z with
      | false => rfl
      | true => rw [hh, if_pos rfl] at hg; omega
    rw [e, decide_eq_false (by omega), decide_eq_false (by omega)]
    rfl
  · rw [if_neg hb] at hg
    have e : allK false l f z = true := by
      cases hh : allK false l f z with
      | true => rfl
      | false => rw [hh, if_neg (by decide)] at hg; omega
    rw [e]
    rcases Nat.lt_or_ge (behindI a.holes (f : Int)) a.holes.length with h1 | h1
    · rw [decide_eq_true (show f + z ≤ _ by have := fun h2 => hb ⟨h1, h2⟩; omega), Bool.or_true]
    · rw [decide_eq_true (show behindI a.holes (f : Int) = a.holes.length by omega), Bool.true_or]
def ov (x y : Nat × Nat) : Bool := decide (x.1 < y.1 + y.2) && decide (y.1 < x.1 + x.2)
theorem ov_comm (x y : Nat × Nat) : ov x y = ov y x := by unfold ov; rw [Bool.and_comm]
def ovK (L : List (Nat × Nat)) (x : Nat × Nat) : Nat → Bool
  | 0 => false
  | j + 1 => ovK L x j || ov x (L.getD j (0, 0))
def badK (l : List Bool) (L : List (Nat × Nat)) : Nat → Bool
  | 0 => false
  | k + 1 => badK l L k || (!allK false l (L.getD k (0, 0)).1 (L.getD k (0, 0)).2 || ovK L (L.getD k (0, 0)) k)
theorem ovK_false {L : List (Nat × Nat)} {x : Nat × Nat} : ∀ {k : Nat}, ovK L x k = false ↔ ∀ j, j < k → ov x (L.getD j (0, 0)) = false
  | 0 => by simp [ovK]
  | k + 1 => by
    rw [ovK, Bool.or_eq_false_iff, ovK_false (k := k)]
    constructor
    · rintro ⟨h1, h2⟩ j hj
      by_cases e : j = k
      · subst e; exact h2
      · exact h1 j (by omega)
    · exact fun h => ⟨fun j hj => h j (by omega), h k (by omega)⟩
theorem badK_false {l : List Bool} {L : List (Nat × Nat)} : ∀ {k : Nat}, badK l L k = false ↔ ∀ i, i < k → allK false l (L.getD i (0, 0)).1 (L.getD i (0, 0)).2 = true ∧ ∀ j, j < i → ov (L.getD i (0, 0)) (L.getD j (0, 0)) = false
  | 0 => by simp [badK]
  | k + 1 => by
    rw [badK, Bool.or_eq_false_iff, Bool.or_eq_false_iff, badK_false (k := k), ovK_false, Bool.not_eq_false']
    constructor
    · rintro ⟨h1, h2, h3⟩ i hi
      by_cases e : i = k
      · subst e; exact ⟨h2, h3⟩
      · exact h1 i (by omega)
    · exact fun h => ⟨fun i hi => h i (by omega), (h k (by omega)).1, (h k (by omega)).2⟩
def Apart (x y : Nat × Nat) : Prop := ov x y = false
theorem bad_lists {l : List Bool} {L : List (Nat × Nat)} : badK l L L.length = false ↔ (∀ x ∈ L, allK false l x.1 x.2 = true) ∧ L.Pairwise Apart := by
  rw [badK_false]
  constructor
  · intro h
    refine ⟨fun x hx => ?_, List.pairwise_iff_getElem.2 (fun i j hi hj hij => ?_)⟩
    · obtain ⟨i, hi, rfl⟩ := List.getElem_of_mem hx
      have := (h i hi).1
      rw [getD_get hi] at this
      exact this
    · have := (h j hj).2 i hij
      rw [getD_get hj, getD_get hi, ov_comm] at this
      exact this
  · rintro ⟨h1, h2⟩ i hi
    rw [getD_get hi]
    refine ⟨h1 _ (List.getElem_mem hi), fun j hj => ?_⟩
    rw [getD_get (show j < L.length by omega), ov_comm]
    exact List.pairwise_iff_getElem.1 h2 j i (by omega) hi hj
theorem ok_lists {a : Ar} {l : List Bool} {nx : Nat} (h : Like a l nx) {M : List (Nat × Nat)} (hin : ∀ x ∈ M, 1 ≤ x.2 ∧ x.1 + x.2 ≤ a.size) (hO : Ord M) :
    (∀ i, i < M.length → okI a.holes M i = true) ↔ (∀ x ∈ M, allK false l x.1 x.2 = true) ∧ M.Pairwise Apart := by
  have step : ∀ i (hi : i < M.length), okI a.holes M i = (allK false l M[i].1 M[i].2 && (decide (i = 0) || decide ((M.getD (i - 1) (0, 0)).1 + (M.getD (i - 1) (0, 0)).2 ≤ M[i].1))) := fun i hi => by
    have := hin M[i] (List.getElem_mem hi)
    unfold okI
    rw [getD_get hi, tkn_all h this.1 this.2]
  constructor
  · intro hk
    refine ⟨fun x hx => ?_, List.pairwise_iff_getElem.2 (fun i j hi hj hij => ?_)⟩
    · obtain ⟨i, hi, rfl⟩ := List.getElem_of_mem hx
      have := hk i hi
      rw [step i hi, Bool.and_eq_true] at this
      exact this.1
    · have key : ∀ d, ∀ (hd : i + d < M.length), 0 < d → M[i].1 + M[i].2 ≤ M[i + d].1 := by
        intro d
        induction d with
        | zero => intro _ h; omega
        | succ d ih =>
          intro hd _
          have h1 := hk (i + (d + 1)) hd
          rw [step _ hd, Bool.and_eq_true, Bool.or_eq_true, decide_eq_true_eq, decide_eq_true_eq] at h1
          have h2 : (M.getD (i + (d + 1) - 1) (0, 0)).1 + (M.getD (i + (d + 1) - 1) (0, 0)).2 ≤ M[i + (d + 1)].1 := by
            rcases h1.2 with h | h
            · omega
            · exact h
          have e : M.getD (i + (d + 1) - 1) (0, 0) = M[i + d] := by rw [show i + (d + 1) - 1 = i + d by omega]; exact getD_get (by omega)
          rw [e] at h2
          rcases Nat.eq_zero_or_pos d with h | h
          · subst h; exact h2
          · have := ih (by omega) h
            omega
      have := key (j - i) (by omega) (by omega)
      have e : M[i + (j - i)]'(by omega) = M[j] := by congr 1; omega
      rw [e] at this
      unfold Apart ov
      rw [decide_eq_false (p := M[j].1 < _) (by omega), Bool.and_false]
  · rintro ⟨h1, h2⟩ i hi
    rw [step i hi, h1 _ (List.getElem_mem hi), Bool.true_and]
    rcases Nat.eq_zero_or_pos i with h | h
    · rw [decide_eq_true h, Bool.true_or]
    · have p1 := List.pairwise_iff_getElem.1 h2 (i - 1) i (by omega) hi (by omega)
      have p2 := List.pairwise_iff_getElem.1 hO (i - 1) i (by omega) hi (by omega)
      have n1 := hin M[i] (List.getElem_mem hi)
      have n2 := hin (M[i - 1]'(by omega)) (List.getElem_mem (by omega))
      unfold Apart ov at p1
      rw [getD_get (show i - 1 < M.length by omega)]
      rw [Bool.and_eq_false_iff, decide_eq_false_iff_not, decide_eq_false_iff_not] at p1
      rw [decide_eq_true (p := _ + _ ≤ _) (by omega), Bool.or_true]
theorem ok_bad {a : Ar} {l : List Bool} {nx : Nat} (h : Like a l nx) {L M : List (Nat × Nat)} (hin : ∀ x ∈ L, 1 ≤ x.2 ∧ x.1 + x.2 ≤ a.size) (hp : M.Perm L) (hO : Ord M) :
    (∀ i, i < M.length → okI a.holes M i = true) ↔ badK l L L.length = false := by
  rw [ok_lists h (fun x hx => hin x (hp.subset hx)) hO, bad_lists]
  have hs : ∀ {x y : Nat × Nat}, Apart x y → Apart y x := fun h => by unfold Apart; rw [ov_comm]; exact h
  constructor
  · exact fun ⟨h1, h2⟩ => ⟨fun x hx => h1 x (hp.symm.subset hx), hp.pairwise h2 (fun h => hs h)⟩
  · exact fun ⟨h1, h2⟩ => ⟨fun x hx => h1 x (hp.subset hx), hp.symm.pairwise h2 (fun h => hs h)⟩
/-- Spans of which all are the area's so far. -/
def inK (n : Nat) (l : List (Int × Int)) (k : Nat) : Bool := (l.take k).all (fun x => rwithin n x.1 x.2)
theorem inK_zero (n : Nat) (l : List (Int × Int)) : inK n l 0 = true := by simp [inK]
theorem inK_succ {n : Nat} {l : List (Int × Int)} {k : Nat} (h : k < l.length) : inK n l (k + 1) = (inK n l k && rwithin n l[k].1 l[k].2) := by
  unfold inK
  rw [List.take_succ_eq_append_getElem h, List.all_append]
  simp
theorem inK_nat {n : Nat} {l : List (Int × Int)} (h : inK n l l.length = true) : ∃ L : List (Nat × Nat), L.length = l.length ∧ (∀ j (h1 : j < l.length) (h2 : j < L.length), l[j] = ((L[j].1 : Int), (L[j].2 : Int))) ∧ ∀ x ∈ L, 1 ≤ x.2 ∧ x.1 + x.2 ≤ n := by
  unfold inK at h
  rw [List.take_length, List.all_eq_true] at h
  refine ⟨l.map (fun x => (x.1.toNat, x.2.toNat)), by simp, fun j h1 h2 => ?_, fun x hx => ?_⟩
  · obtain ⟨f, z, e1, e2, _, _⟩ := rwithin_nat (h l[j] (List.getElem_mem h1))
    rw [List.getElem_map]
    simp [e1, e2]
    rw [← e1, ← e2]
  · obtain ⟨y, hy, rfl⟩ := List.mem_map.1 hx
    obtain ⟨f, z, e1, e2, h3, h4⟩ := rwithin_nat (h y hy)
    simp [e1, e2]
    omega
theorem inK_no {n : Nat} {l : List (Int × Int)} (h : inK n l l.length = false) : ∃ p, ∃ hp : p < l.length, rwithin n l[p].1 l[p].2 = false := by
  unfold inK at h
  rw [List.take_length, List.all_eq_false] at h
  obtain ⟨x, hx, h⟩ := h
  obtain ⟨i, hi, rfl⟩ := List.getElem_of_mem hx
  exact ⟨i, hi, by simpa using h⟩
end Go.Proofs.Ythloinmnojlleaa
