/- ExtK: the plain law of giving back; the walk of Give, whatever is given. -/
import Derived.Test.YthloinmnojlleaaGive00
import Derived.Test.YthloinmnojlleaaGive01
import Derived.Test.YthloinmnojlleaaGive02
import Derived.Test.YthloinmnojlleaaGive10
import Derived.Test.YthloinmnojlleaaGive11
import Derived.Test.YthloinmnojlleaaGive12
import Derived.Test.YthloinmnojlleaaGive20
import Derived.Test.YthloinmnojlleaaGive21
import Derived.Test.YthloinmnojlleaaGive22
set_option linter.unusedVariables false
set_option linter.unusedSimpArgs false
namespace Go.Proofs.Ythloinmnojlleaa
open Go.RowKit

theorem lies_app {N : Nat} : ∀ {lo lo' : Nat} {A B : List (Nat × Nat)}, Lies N lo A → (∀ h ∈ A, h.1 + h.2 + 1 ≤ lo') → lo ≤ lo' → Lies N lo' B → Lies N lo (A ++ B)
  | lo, lo', [], B, _, _, hl, hB => lies_weaken hB hl
  | lo, lo', x :: A, B, h, hA, hl, hB => ⟨h.1, h.2.1, h.2.2.1, lies_app h.2.2.2 (fun y hy => hA y (List.mem_cons_of_mem _ hy)) (hA x (List.mem_cons_self ..)) hB⟩
theorem lies_raise {N lo lo' : Nat} : ∀ {L : List (Nat × Nat)}, Lies N lo L → (∀ h : 0 < L.length, lo' ≤ L[0].1) → Lies N lo' L
  | [], _, _ => trivial
  | x :: L, h, hl => ⟨hl (Nat.succ_pos _), h.2⟩
theorem lies_drop {N : Nat} : ∀ {lo : Nat} {L : List (Nat × Nat)} (k : Nat), Lies N lo L → ∃ lo', Lies N lo' (L.drop k)
  | lo, L, 0, h => ⟨lo, by simpa using h⟩
  | lo, [], k + 1, h => ⟨lo, by simp [Lies]⟩
  | lo, x :: L, k + 1, h => by simpa using lies_drop k h.2.2.2
theorem behind_lt : ∀ {L : List (Nat × Nat)} {x : Int} {k : Nat} (hk : k < L.length), k < behindI L x → (L[k].1 : Int) + L[k].2 ≤ x
  | y :: L, x, k, hk, h => by
    unfold behindI at h
    by_cases hy : (y.1 : Int) + y.2 ≤ x
    · rw [List.takeWhile_cons_of_pos (by simpa using hy)] at h
      cases k with
      | zero => simpa using hy
      | succ k =>
        have := behind_lt (L := L) (x := x) (k := k) (by simpa using hk) (by unfold behindI; simpa using h)
        simpa using this
    · rw [List.takeWhile_cons_of_neg (by simpa using hy)] at h
      simp at h
theorem behind_ge : ∀ {L : List (Nat × Nat)} {x : Int} (h : behindI L x < L.length), x < (L[behindI L x].1 : Int) + L[behindI L x].2
  | y :: L, x, h => by
    by_cases hy : (y.1 : Int) + y.2 ≤ x
    · have e : behindI (y :: L) x = behindI L x + 1 := by unfold behindI; rw [List.takeWhile_cons_of_pos (by simpa using hy)]; simp
      have := behind_ge (L := L) (x := x) (by rw [e] at h; simpa using h)
      simp only [e, List.getElem_cons_succ]
      exact this
    · have e : behindI (y :: L) x = 0 := by unfold behindI; rw [List.takeWhile_cons_of_neg (by simpa using hy)]; rfl
      simp only [e, List.getElem_cons_zero]
      omega
theorem getD_get {L : List (Nat × Nat)} {i : Nat} (h : i < L.length) : L.getD i (0, 0) = L[i] := by simp [h]

theorem lies_give {N f s : Nat} {L : List (Nat × Nat)} (h : Lies N 0 L) (hs : 1 ≤ s) (hN : f + s ≤ N) (hx : ∀ h : behindI L f < L.length, f + s ≤ L[behindI L f].1) : Lies N 0 (giveL L (behindI L f) f s) := by
  have hlt := fun k (hk : k < L.length) (h : k < behindI L f) => behind_lt (x := (f : Int)) hk h
  have hle := behind_le L f
  generalize behindI L f = i at *
  unfold giveL
  have hA : ∀ k, k ≤ i → ∀ x ∈ L.take k, ∃ j, ∃ hj : j < L.length, j < k ∧ x = L[j] := by
    intro k hk x hx
    obtain ⟨j, hj, e⟩ := List.mem_iff_getElem.1 hx
    rw [List.length_take] at hj
    exact ⟨j, by omega, by omega, by rw [← e, List.getElem_take]⟩
  have hend : ∀ m, f + s ≤ m → m ≤ N → (∀ k (hk : k < L.length), (if joinsR L i (f + s) then i + 1 else i) ≤ k → m + 1 ≤ L[k].1) → Lies N (m + 1) (L.drop (if joinsR L i (f + s) then i + 1 else i)) := by
    intro m hm hmN hd
    obtain ⟨lo', hl⟩ := lies_drop (if joinsR L i (f + s) then i + 1 else i) h
    refine lies_raise hl (fun h0 => ?_)
    rw [List.length_drop] at h0
    rw [List.getElem_drop]
    exact hd _ (by omega) (by omega)
  cases hR : joinsR L i (f + s) with
  | true =>
    rw [hR] at hend
    simp only [if_true] at hend ⊢
    unfold joinsR at hR
    simp only [Bool.and_eq_true, decide_eq_true_eq] at hR
    obtain ⟨hi, hR⟩ := hR
    rw [getD_get hi] at hR ⊢
    have hin := (lies_get h i hi).2
    have hd : ∀ k (hk : k < L.length), i + 1 ≤ k → (L[i].1 + L[i].2) + 1 ≤ L[k].1 := fun k hk hik => by have := lies_mono h i k (by omega) hk; omega
    cases hJ : joinsL L i f with
    | true =>
      simp only [if_true]
      unfold joinsL at hJ
      simp only [Bool.and_eq_true, decide_eq_true_eq] at hJ
      obtain ⟨h0, hJ⟩ := hJ
      have hp : i - 1 < L.length := by omega
      rw [getD_get hp] at hJ ⊢
      have hpin := (lies_get h (i - 1) hp).2
      refine lies_app (lo' := L[i - 1].1) (lies_take _ h) (fun x hx => ?_) (Nat.zero_le _) ⟨Nat.le_refl _, by simp; omega, by simp; omega, ?_⟩
      · obtain ⟨j, hj, hji, rfl⟩ := hA (i - 1) (by omega) x hx
        have := lies_mono h j (i - 1) (by omega) hp
        omega
      · have := hend (L[i].1 + L[i].2) (by omega) (by omega) hd
        refine lies_weaken this ?_
        simp; omega
    | false =>
      simp only [Bool.false_eq_true, if_false]
      refine lies_app (lo' := f) (lies_take _ h) (fun x hx => ?_) (Nat.zero_le _) ⟨Nat.le_refl _, by simp; omega, by simp; omega, ?_⟩
      · obtain ⟨j, hj, hji, rfl⟩ := hA i (by omega) x hx
        have h1 := hlt j hj hji
        by_cases e : j = i - 1
        · subst e
          unfold joinsL at hJ
          rw [getD_get hj] at hJ
          simp only [Bool.and_eq_false_iff, decide_eq_false_iff_not] at hJ
          omega
        · have := lies_mono h j (i - 1) (by omega) (by omega)
          have h2 := hlt (i - 1) (by omega) (by omega)
          omega
      · have := hend (L[i].1 + L[i].2) (by omega) (by omega) hd
        refine lies_weaken this ?_
        simp; omega
  | false =>
    rw [hR] at hend
    simp only [Bool.false_eq_true, if_false, Nat.add_zero] at hend ⊢
    have hd : ∀ k (hk : k < L.length), i ≤ k → (f + s) + 1 ≤ L[k].1 := fun k hk hik => by
      have hi : i < L.length := by omega
      have h1 := hx hi
      unfold joinsR at hR
      rw [getD_get hi] at hR
      simp only [Bool.and_eq_false_iff, decide_eq_false_iff_not] at hR
      by_cases e : i = k
      · subst e; omega
      · have := lies_mono h i k (by omega) hk
        omega
    cases hJ : joinsL L i f with
    | true =>
      simp only [if_true]
      unfold joinsL at hJ
      simp only [Bool.and_eq_true, decide_eq_true_eq] at hJ
      obtain ⟨h0, hJ⟩ := hJ
      have hp : i - 1 < L.length := by omega
      rw [getD_get hp] at hJ ⊢
      have hpin := (lies_get h (i - 1) hp).2
      refine lies_app (lo' := L[i - 1].1) (lies_take _ h) (fun x hx => ?_) (Nat.zero_le _) ⟨Nat.le_refl _, by simp; omega, by simp; omega, ?_⟩
      · obtain ⟨j, hj, hji, rfl⟩ := hA (i - 1) (by omega) x hx
        have := lies_mono h j (i - 1) (by omega) hp
        omega
      · have := hend (f + s) (by omega) (by omega) hd
        refine lies_weaken this ?_
        simp; omega
    | false =>
      simp only [Bool.false_eq_true, if_false]
      refine lies_app (lo' := f) (lies_take _ h) (fun x hx => ?_) (Nat.zero_le _) ⟨Nat.le_refl _, by simp; omega, by simp; omega, ?_⟩
      · obtain ⟨j, hj, hji, rfl⟩ := hA i (by omega) x hx
        have h1 := hlt j hj hji
        by_cases e : j = i - 1
        · subst e
          unfold joinsL at hJ
          rw [getD_get hj] at hJ
          simp only [Bool.and_eq_false_iff, decide_eq_false_iff_not] at hJ
          omega
        · have := lies_mono h j (i - 1) (by omega) (by omega)
          have h2 := hlt (i - 1) (by omega) (by omega)
          omega
      · have := hend (f + s) (by omega) (by omega) hd
        refine lies_weaken this ?_
        simp

/-- Giving back a span that is taken. -/
theorem give_yes (w : World) (F : Nat → Prop) (g : Nat) (a : Ar) (v : Value) (h : IsAr w F g a v) (f s : Nat) (h1 : 1 ≤ s) (h2 : f + s ≤ a.size) (hx : ∀ h : behindI a.holes f < a.holes.length, f + s ≤ a.holes[behindI a.holes f].1) :
    Calls Try.prog 13 #[.pointer (some ⟨g, 0, none⟩), .agg #[.int .i64 f, .int .i64 s]] w fun e w' => e = .returned (.int .i64 0) ∧ ∃ F', ArTo w F g { a with holes := giveL a.holes (behindI a.holes f) f s } w' F' := by
  have hL := lies_give h.ok.lies h1 h2 hx
  have hle := behind_le a.holes f
  generalize hi : behindI a.holes f = i at hL hx hle ⊢
  have nL : i = 0 → joinsL a.holes i f = false := fun e => by unfold joinsL; simp [e]
  have nR : i = a.holes.length → joinsR a.holes i (f + s) = false := fun e => by unfold joinsR; simp [e]
  by_cases hl : i = 0
  · have J := nL hl
    by_cases hr : i = a.holes.length
    · have K := nR hr
      have e : giveL a.holes i f s = a.holes.take i ++ ([(f, s)] ++ a.holes.drop i) := by unfold giveL; rw [J, K]; simp
      rw [e] at hL ⊢
      exact give_00 w F g a v h f s h1 h2 i hi hl hr hL
    · have hr' : i < a.holes.length := by omega
      cases K : joinsR a.holes i (f + s) with
      | false =>
        have e : giveL a.holes i f s = a.holes.take i ++ ([(f, s)] ++ a.holes.drop i) := by unfold giveL; rw [J, K]; simp
        rw [e] at hL ⊢
        unfold joinsR at K
        rw [getD_get hr'] at K
        simp only [Bool.and_eq_false_iff, decide_eq_false_iff_not] at K
        exact give_01 w F g a v h f s h1 h2 i hi hl hr' (hx hr') (by rcases K with K | K <;> first | omega | exact K) hL
      | true =>
        have e : giveL a.holes i f s = a.holes.take i ++ ([(f, s + a.holes[i].2)] ++ a.holes.drop (i + 1)) := by unfold giveL; rw [J, K, getD_get hr']; simp
        rw [e] at hL ⊢
        unfold joinsR at K
        rw [getD_get hr'] at K
        simp only [Bool.and_eq_true, decide_eq_true_eq] at K
        exact give_02 w F g a v h f s h1 h2 i hi hl hr' (hx hr') K.2 hL
  · obtain ⟨p, hp⟩ : ∃ p, i = p + 1 := ⟨i - 1, by omega⟩
    have hpl : p < a.holes.length := by omega
    have hp' : i - 1 = p := by omega
    have h0 : 0 < i := by omega
    cases J : joinsL a.holes i f with
    | false =>
      have J' := J
      unfold joinsL at J'
      rw [hp', getD_get hpl] at J'
      simp only [Bool.and_eq_false_iff, decide_eq_false_iff_not] at J'
      have hj : ¬ a.holes[p].1 + a.holes[p].2 = f := by rcases J' with K | K <;> first | omega | exact K
      by_cases hr : i = a.holes.length
      · have K := nR hr
        have e : giveL a.holes i f s = a.holes.take i ++ ([(f, s)] ++ a.holes.drop i) := by unfold giveL; rw [J, K]; simp
        rw [e] at hL ⊢
        exact give_10 w F g a v h f s h1 h2 i hi p hp hpl hj hr hL
      · have hr' : i < a.holes.length := by omega
        cases K : joinsR a.holes i (f + s) with
        | false =>
          have e : giveL a.holes i f s = a.holes.take i ++ ([(f, s)] ++ a.holes.drop i) := by unfold giveL; rw [J, K]; simp
          rw [e] at hL ⊢
          unfold joinsR at K
          rw [getD_get hr'] at K
          simp only [Bool.and_eq_false_iff, decide_eq_false_iff_not] at K
          exact give_11 w F g a v h f s h1 h2 i hi p hp hpl hj hr' (hx hr') (by rcases K with K | K <;> first | omega | exact K) hL
        | true =>
          have e : giveL a.holes i f s = a.holes.take i ++ ([(f, s + a.holes[i].2)] ++ a.holes.drop (i + 1)) := by unfold giveL; rw [J, K, getD_get hr']; simp
          rw [e] at hL ⊢
          unfold joinsR at K
          rw [getD_get hr'] at K
          simp only [Bool.and_eq_true, decide_eq_true_eq] at K
          exact give_12 w F g a v h f s h1 h2 i hi p hp hpl hj hr' (hx hr') K.2 hL
    | true =>
      have J' := J
      unfold joinsL at J'
      rw [hp', getD_get hpl] at J'
      simp only [Bool.and_eq_true, decide_eq_true_eq] at J'
      have hj := J'.2
      by_cases hr : i = a.holes.length
      · have K := nR hr
        have e : giveL a.holes i f s = a.holes.take p ++ ([(a.holes[p].1, a.holes[p].2 + s)] ++ a.holes.drop i) := by unfold giveL; rw [J, K, hp', getD_get hpl]; simp
        rw [e] at hL ⊢
        exact give_20 w F g a v h f s h1 h2 i hi p hp hpl hj hr hL
      · have hr' : i < a.holes.length := by omega
        cases K : joinsR a.holes i (f + s) with
        | false =>
          have e : giveL a.holes i f s = a.holes.take p ++ ([(a.holes[p].1, a.holes[p].2 + s)] ++ a.holes.drop i) := by unfold giveL; rw [J, K, hp', getD_get hpl]; simp
          rw [e] at hL ⊢
          unfold joinsR at K
          rw [getD_get hr'] at K
          simp only [Bool.and_eq_false_iff, decide_eq_false_iff_not] at K
          exact give_21 w F g a v h f s h1 h2 i hi p hp hpl hj hr' (hx hr') (by rcases K with K | K <;> first | omega | exact K) hL
        | true =>
          have e : giveL a.holes i f s = a.holes.take p ++ ([(a.holes[p].1, a.holes[p].2 + s + a.holes[i].2)] ++ a.holes.drop (i + 1)) := by unfold giveL; rw [J, K, hp', getD_get hpl, getD_get hr']; simp
          rw [e] at hL ⊢
          unfold joinsR at K
          rw [getD_get hr'] at K
          simp only [Bool.and_eq_true, decide_eq_true_eq] at K
          exact give_22 w F g a v h f s h1 h2 i hi p hp hpl hj hr' (hx hr') K.2 hL
def GiveTo (w : World) (F : Nat → Prop) (g : Nat) (a : Ar) (f s : Int) (e : Ending) (w' : World) : Prop :=
  e = .returned (.int .i64 (a.giveE f s)) ∧ (if a.giveE f s = 0 then ∃ F', ArTo w F g { a with holes := giveL a.holes (behindI a.holes f) f.toNat s.toNat } w' F' else Below w.heap.size w w')
theorem give_any (w : World) (F : Nat → Prop) (g : Nat) (a : Ar) (v : Value) (h : IsAr w F g a v) (f s : Int) :
    Calls Try.prog 13 #[.pointer (some ⟨g, 0, none⟩), .agg #[.int .i64 f, .int .i64 s]] w fun e w' => GiveTo w F g a f s e w' := by
  by_cases hE : a.giveE f s = 0
  · have hE' := hE
    unfold Ar.giveE at hE'
    cases hw : a.within f s with
    | false => rw [hw] at hE'; simp at hE'
    | true =>
      obtain ⟨q1, q2, q3, q4⟩ := within_iff hw
      rw [hw] at hE'
      simp only [Bool.true_eq_false, if_false] at hE'
      obtain ⟨f, rfl⟩ : ∃ n : Nat, f = n := ⟨f.toNat, by omega⟩
      obtain ⟨s, rfl⟩ : ∃ n : Nat, s = n := ⟨s.toNat, by omega⟩
      refine (give_yes w F g a v h f s (by omega) (by omega) (fun hl => ?_)).mono ?_
      · have hn : ¬ (behindI a.holes f < a.holes.length ∧ ((a.holes.getD (behindI a.holes f) (0, 0)).1 : Int) < f + s) := fun x => by rw [if_pos x] at hE'; omega
        rw [getD_get hl] at hn
        have : ¬ ((a.holes[behindI a.holes f].1 : Int) < f + s) := fun x => hn ⟨hl, x⟩
        omega
      · rintro e w' ⟨rfl, F', ht⟩
        unfold GiveTo
        rw [if_pos hE, hE]
        exact ⟨rfl, F', by simpa using ht⟩
  · refine (give_no w F g a v h f s hE).mono ?_
    rintro e w' ⟨rfl, hb⟩
    unfold GiveTo
    rw [if_neg hE]
    exact ⟨rfl, hb⟩
end Go.Proofs.Ythloinmnojlleaa
