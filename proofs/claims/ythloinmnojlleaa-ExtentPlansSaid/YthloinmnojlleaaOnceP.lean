/- OnceP: the plain law of ExtentOnce. -/
import Derived.Test.YthloinmnojlleaaExtM
set_option linter.unusedVariables false
set_option linter.unusedSimpArgs false
namespace Go.Proofs.Ythloinmnojlleaa
open Go.RowKit

def tot (L : List (Nat × Nat)) : Nat := (L.map Prod.snd).foldl (· + ·) 0
theorem tot_nil : tot [] = 0 := rfl
theorem tot_cons (x : Nat × Nat) (L : List (Nat × Nat)) : tot (x :: L) = x.2 + tot L := by
  unfold tot
  rw [List.map_cons, List.foldl_cons, fold_add]
  omega
theorem tot_append : ∀ A B : List (Nat × Nat), tot (A ++ B) = tot A + tot B
  | [], B => by simp [tot_nil]
  | x :: A, B => by rw [List.cons_append, tot_cons, tot_cons, tot_append A B]; omega
theorem tot_split {L : List (Nat × Nat)} {k : Nat} (h : k < L.length) : tot L = tot (L.take k) + L[k].2 + tot (L.drop (k + 1)) := by
  have e : L = L.take k ++ (L[k] :: L.drop (k + 1)) := by rw [List.getElem_cons_drop, List.take_append_drop]
  have := congrArg tot e
  rw [tot_append, tot_cons] at this
  omega
theorem tot_two (L : List (Nat × Nat)) (k : Nat) : tot L = tot (L.take k) + tot (L.drop k) := by
  rw [← tot_append, List.take_append_drop]
def Dis (x y : Nat × Nat) : Prop := x.1 + x.2 ≤ y.1 ∨ y.1 + y.2 ≤ x.1
structure Inv (n : Nat) (a : Ar) (L : List (Nat × Nat)) : Prop where
  ok : a.Ok
  size : a.size = n
  inn : ∀ x ∈ L, 1 ≤ x.2 ∧ x.1 + x.2 ≤ n
  far : ∀ x ∈ L, ∀ h ∈ a.holes, Dis x h
  pair : L.Pairwise Dis
  sum : a.free + tot L = n
theorem inv_new {n : Nat} (h1 : 1 ≤ n) (h2 : n ≤ 1048576) : Inv n (Ar.new n) [] :=
  ⟨Ar.new_ok h1 h2, rfl, fun x h => by simp at h, fun x h => by simp at h, List.Pairwise.nil, by simp [Ar.free, Ar.new, tot]⟩
/-- What is cut out of holes lay in them. -/
theorem cut_mem {L : List (Nat × Nat)} {j : Nat} (hj : j < L.length) {m : Nat} (hm : m ≤ L[j].2) {h : Nat × Nat} (hh : h ∈ cutL L j L[j] L[j].1 m) : h ∈ L ∨ (h = (L[j].1 + m, L[j].1 + L[j].2 - L[j].1 - m) ∧ m < L[j].2) := by
  unfold cutL front back at hh
  rw [if_neg (by omega)] at hh
  simp only [List.mem_append, List.nil_append] at hh
  rcases hh with hh | hh | hh
  · exact .inl (List.mem_of_mem_take hh)
  · split at hh
    · simp only [List.mem_singleton] at hh
      exact .inr ⟨hh, by omega⟩
    · simp at hh
  · exact .inl (List.mem_of_mem_drop hh)
theorem cut_tot {L : List (Nat × Nat)} {j : Nat} (hj : j < L.length) {m : Nat} (hm : m ≤ L[j].2) : tot (cutL L j L[j] L[j].1 m) + m = tot L := by
  rw [tot_split hj]
  unfold cutL front back
  rw [if_neg (by omega), tot_append, tot_append, List.nil_append]
  split
  · rw [tot_cons, tot_nil]; simp; omega
  · rw [tot_nil]; omega
theorem hole_in {n : Nat} {a : Ar} {L : List (Nat × Nat)} (h : Inv n a L) {x : Nat × Nat} (hx : x ∈ a.holes) : 1 ≤ x.2 ∧ x.1 + x.2 ≤ n := by
  obtain ⟨k, hk, rfl⟩ := List.mem_iff_getElem.1 hx
  have := (lies_get h.ok.lies k hk).2
  rw [h.size] at this
  exact this
theorem inv_alloc {n m r j : Nat} {a : Ar} {L : List (Nat × Nat)} (h : Inv n a L) (hm : 1 ≤ m) (hc : choose a.holes m (bet r a.next) a.holes.length = some j) {nx : Nat} (hnx : nx ≤ a.size) :
    Inv n { size := a.size, holes := cutL a.holes j (a.holes.getD j (0, 0)) (a.holes.getD j (0, 0)).1 m, next := nx } (L ++ [((a.holes.getD j (0, 0)).1, m)]) ∧ (∀ x ∈ L, Dis x ((a.holes.getD j (0, 0)).1, m)) ∧ (a.holes.getD j (0, 0)).1 + m ≤ n := by
  obtain ⟨hj, hy⟩ := choose_lt hc
  rw [getD_get hj] at hy ⊢
  have hin := hole_in h (List.getElem_mem hj)
  have hdis : ∀ x ∈ L, Dis x (a.holes[j].1, m) := fun x hx => by
    have h1 := h.far x hx _ (List.getElem_mem hj)
    have h2 := h.inn x hx
    unfold Dis at h1 ⊢
    simp only
    omega
  have hlies := lies_cut j hj a.holes[j].1 m h.ok.lies (Nat.le_refl _) hm (by omega)
  refine ⟨⟨⟨h.ok.pos, h.ok.most, hlies, hnx⟩, h.size, fun x hx => ?_, fun x hx z hz => ?_, ?_, ?_⟩, hdis, by omega⟩
  · rcases List.mem_append.1 hx with hx | hx
    · exact h.inn x hx
    · simp only [List.mem_singleton] at hx
      subst hx
      exact ⟨hm, by simp only; omega⟩
  · have hz := cut_mem hj hy hz
    rcases List.mem_append.1 hx with hx | hx
    · rcases hz with hz | ⟨rfl, hz⟩
      · exact h.far x hx z hz
      · have h1 := h.far x hx _ (List.getElem_mem hj)
        unfold Dis at h1 ⊢
        simp only
        omega
    · simp only [List.mem_singleton] at hx
      subst hx
      rcases hz with hz | ⟨rfl, hz⟩
      · obtain ⟨k, hk, hzz⟩ := List.mem_iff_getElem.1 hz
        subst hzz
        have hkin := hole_in h (List.getElem_mem hk)
        unfold Dis
        simp only
        rcases Nat.lt_trichotomy k j with hkj | hkj | hkj
        · have := lies_mono h.ok.lies k j hkj hj
          omega
        · exfalso
          subst hkj
          have hh : a.holes[k] ∈ cutL a.holes k a.holes[k] a.holes[k].1 m := by assumption
          obtain ⟨i, hi, e⟩ := List.mem_iff_getElem.1 hh
          unfold cutL front back at hh
          rw [if_neg (by omega)] at hh
          simp only [List.mem_append, List.nil_append] at hh
          rcases hh with hh | hh | hh
          · obtain ⟨i, hi, e⟩ := List.mem_iff_getElem.1 hh
            rw [List.length_take] at hi
            rw [List.getElem_take] at e
            have := lies_mono h.ok.lies i k (by omega) hk
            rw [e] at this
            omega
          · split at hh
            · simp only [List.mem_singleton] at hh
              have := congrArg Prod.fst hh
              simp only at this
              omega
            · simp at hh
          · obtain ⟨i, hi, e⟩ := List.mem_iff_getElem.1 hh
            rw [List.length_drop] at hi
            rw [List.getElem_drop] at e
            have := lies_mono h.ok.lies k (k + 1 + i) (by omega) (by omega)
            rw [e] at this
            omega
        · have := lies_mono h.ok.lies j k hkj hk
          omega
      · unfold Dis
        simp only
        omega
  · rw [List.pairwise_append]
    refine ⟨h.pair, by simp, fun x hx y hy => ?_⟩
    simp only [List.mem_singleton] at hy
    subst hy
    exact hdis x hx
  · have h1 := h.sum
    have h2 := cut_tot hj hy
    have h3 : a.free = tot a.holes := rfl
    rw [tot_append, tot_cons, tot_nil]
    show tot _ + _ = n
    simp only
    omega
theorem choose_none {L : List (Nat × Nat)} {n : Nat} {b : Nat × Nat → Nat × Nat → Bool} : ∀ {k : Nat}, choose L n b k = none → ∀ j, j < k → (L.getD j (0, 0)).2 < n
  | k + 1, h, j, hj => by
    unfold choose at h
    split at h
    · rename_i hk
      split at h
      · cases h
      · rename_i hn
        by_cases e : j = k
        · subst e; omega
        · exact choose_none hk j (by omega)
    · split at h <;> cases h
theorem max_lt {n : Nat} (hn : 1 ≤ n) : ∀ (l : List Nat) (m : Nat), m < n → (∀ x ∈ l, x < n) → l.foldl max m < n
  | [], m, h, _ => h
  | x :: l, m, h, hl => by
    rw [List.foldl_cons]
    refine max_lt hn l _ ?_ (fun y hy => hl y (List.mem_cons_of_mem _ hy))
    have := hl x (List.mem_cons_self ..)
    omega
theorem none_largest {a : Ar} {n r : Nat} (hn : 1 ≤ n) (h : choose a.holes n (bet r a.next) a.holes.length = none) : a.largest < n := by
  unfold Ar.largest
  refine max_lt hn _ _ (by omega) (fun x hx => ?_)
  obtain ⟨y, hy, rfl⟩ := List.mem_map.1 hx
  obtain ⟨k, hk, rfl⟩ := List.mem_iff_getElem.1 hy
  have := choose_none h k hk
  rw [getD_get hk] at this
  exact this

/-- Giving back what is out. -/
theorem inv_free {n k : Nat} {a : Ar} {L : List (Nat × Nat)} (h : Inv n a L) (hk : k < L.length) (hl : behindI a.holes (L[k].1 : Int) < a.holes.length) : L[k].1 + L[k].2 ≤ a.holes[behindI a.holes (L[k].1 : Int)].1 := by
  have h1 := h.far _ (List.getElem_mem hk) _ (List.getElem_mem hl)
  have h2 := behind_ge hl
  unfold Dis at h1
  omega
theorem give_E {n k : Nat} {a : Ar} {L : List (Nat × Nat)} (h : Inv n a L) (hk : k < L.length) : a.giveE L[k].1 L[k].2 = 0 := by
  have h1 := h.inn _ (List.getElem_mem hk)
  have hs := h.size
  have hw : a.within L[k].1 L[k].2 = true := by
    unfold Ar.within
    simp only [Bool.and_eq_true, decide_eq_true_eq]
    omega
  unfold Ar.giveE
  rw [hw, if_neg (by simp), if_neg]
  rintro ⟨hl, hlt⟩
  have := inv_free h hk hl
  rw [getD_get hl] at hlt
  omega
/-- The hole that a span given back makes, and what it is made of. -/
theorem giveL_mem {L : List (Nat × Nat)} {i f s : Nat} {h : Nat × Nat} (hi : i ≤ L.length) (hh : h ∈ giveL L i f s) : h ∈ L ∨
    (h.1 + h.2 = (if joinsR L i (f + s) then (L.getD i (0, 0)).1 + (L.getD i (0, 0)).2 else f + s) ∧ h.1 = (if joinsL L i f then (L.getD (i - 1) (0, 0)).1 else f)) := by
  unfold giveL at hh
  rcases List.mem_append.1 hh with hh | hh
  · exact .inl (List.mem_of_mem_take hh)
  · rcases List.mem_cons.1 hh with rfl | hh
    · refine .inr ⟨?_, rfl⟩
      cases hJ : joinsL L i f with
      | false =>
        cases hR : joinsR L i (f + s) with
        | false => simp
        | true => unfold joinsR at hR; simp only [Bool.and_eq_true, decide_eq_true_eq] at hR; simp only [Bool.false_eq_true, if_false, if_true]; omega
      | true =>
        unfold joinsL at hJ
        simp only [Bool.and_eq_true, decide_eq_true_eq] at hJ
        cases hR : joinsR L i (f + s) with
        | false => simp only [Bool.false_eq_true, if_false, if_true]; omega
        | true => unfold joinsR at hR; simp only [Bool.and_eq_true, decide_eq_true_eq] at hR; simp only [if_true]; omega
    · exact .inl (List.mem_of_mem_drop hh)
theorem giveL_tot {L : List (Nat × Nat)} {i f s : Nat} (hi : i ≤ L.length) : tot (giveL L i f s) = tot L + s := by
  unfold giveL
  rw [tot_append, tot_cons]
  have h0 := tot_two L i
  cases hJ : joinsL L i f <;> cases hR : joinsR L i (f + s) <;> simp only [Bool.false_eq_true, if_false, if_true]
  · omega
  · unfold joinsR at hR
    simp only [Bool.and_eq_true, decide_eq_true_eq] at hR
    have := tot_split hR.1
    rw [getD_get hR.1]
    omega
  · unfold joinsL at hJ
    simp only [Bool.and_eq_true, decide_eq_true_eq] at hJ
    have hp : i - 1 < L.length := by omega
    have := tot_split hp
    rw [show i - 1 + 1 = i by omega] at this
    rw [getD_get hp]
    omega
  · unfold joinsL at hJ
    unfold joinsR at hR
    simp only [Bool.and_eq_true, decide_eq_true_eq] at hJ hR
    have hp : i - 1 < L.length := by omega
    have h1 := tot_split hp
    have h2 := tot_split hR.1
    rw [show i - 1 + 1 = i by omega] at h1
    rw [getD_get hp, getD_get hR.1]
    omega
theorem inv_give {n k : Nat} {a : Ar} {L : List (Nat × Nat)} (h : Inv n a L) (hk : k < L.length) : Inv n { a with holes := giveL a.holes (behindI a.holes L[k].1) L[k].1 L[k].2 } (L.take k ++ L.drop (k + 1)) := by
  have hin := h.inn _ (List.getElem_mem hk)
  have hs := h.size
  have hle := behind_le a.holes (L[k].1 : Int)
  have hsub : ∀ x ∈ L.take k ++ L.drop (k + 1), x ∈ L ∧ Dis x L[k] := by
    intro x hx
    have e : L = L.take k ++ (L[k] :: L.drop (k + 1)) := by rw [List.getElem_cons_drop, List.take_append_drop]
    have hp := h.pair
    rw [e, List.pairwise_append, List.pairwise_cons] at hp
    rcases List.mem_append.1 hx with hx | hx
    · exact ⟨List.mem_of_mem_take hx, hp.2.2 x hx _ (List.mem_cons_self ..)⟩
    · exact ⟨List.mem_of_mem_drop hx, (hp.2.1.1 x hx).symm⟩
  refine ⟨⟨h.ok.pos, h.ok.most, lies_give h.ok.lies hin.1 (show L[k].1 + L[k].2 ≤ a.size by omega) (fun hl => inv_free h hk hl), h.ok.next⟩, hs, fun x hx => h.inn x (hsub x hx).1, fun x hx z hz => ?_, ?_, ?_⟩
  · obtain ⟨hxL, hxk⟩ := hsub x hx
    rcases giveL_mem hle hz with hz | ⟨e1, e2⟩
    · exact h.far x hxL z hz
    · have hxin := h.inn x hxL
      have fr := fun hl => inv_free h hk hl
      generalize behindI a.holes (L[k].1 : Int) = i at *
      unfold Dis at hxk ⊢
      cases hJ : joinsL a.holes i L[k].1 <;> cases hR : joinsR a.holes i (L[k].1 + L[k].2) <;> rw [hJ] at e2 <;> rw [hR] at e1 <;> simp only [Bool.false_eq_true, if_false, if_true] at e1 e2
      · omega
      · unfold joinsR at hR
        simp only [Bool.and_eq_true, decide_eq_true_eq] at hR
        have hd := h.far x hxL _ (List.getElem_mem hR.1)
        have hh := hole_in h (List.getElem_mem hR.1)
        rw [getD_get hR.1] at *
        unfold Dis at hd
        omega
      · unfold joinsL at hJ
        simp only [Bool.and_eq_true, decide_eq_true_eq] at hJ
        have hp : i - 1 < a.holes.length := by omega
        have hd := h.far x hxL _ (List.getElem_mem hp)
        have hh := hole_in h (List.getElem_mem hp)
        rw [getD_get hp] at *
        unfold Dis at hd
        omega
      · unfold joinsL at hJ
        unfold joinsR at hR
        simp only [Bool.and_eq_true, decide_eq_true_eq] at hJ hR
        have hp : i - 1 < a.holes.length := by omega
        have hd := h.far x hxL _ (List.getElem_mem hp)
        have hh := hole_in h (List.getElem_mem hp)
        have hd2 := h.far x hxL _ (List.getElem_mem hR.1)
        have hh2 := hole_in h (List.getElem_mem hR.1)
        rw [getD_get hp] at *
        rw [getD_get hR.1] at *
        unfold Dis at hd hd2
        omega
  · have e : L = L.take k ++ (L[k] :: L.drop (k + 1)) := by rw [List.getElem_cons_drop, List.take_append_drop]
    have hp := h.pair
    rw [e] at hp
    exact hp.sublist (List.Sublist.append_left (List.sublist_cons_self _ _) _)
  · have h1 := h.sum
    have h2 := giveL_tot (f := L[k].1) (s := L[k].2) hle
    have h3 := tot_split hk
    have h4 : a.free = tot a.holes := rfl
    rw [tot_append]
    show tot _ + _ = n
    simp only
    omega
theorem give_E2 {n k : Nat} {a : Ar} {L : List (Nat × Nat)} (h : Inv n a L) (hk : k < L.length) : Ar.giveE { a with holes := giveL a.holes (behindI a.holes L[k].1) L[k].1 L[k].2 } L[k].1 L[k].2 = 8 := by
  have h1 := h.inn _ (List.getElem_mem hk)
  have hs := h.size
  have hle := behind_le a.holes (L[k].1 : Int)
  have hi := inv_give h hk
  have fr := fun hl => inv_free h hk hl
  have hw : Ar.within { a with holes := giveL a.holes (behindI a.holes L[k].1) L[k].1 L[k].2 } L[k].1 L[k].2 = true := by
    unfold Ar.within
    simp only [Bool.and_eq_true, decide_eq_true_eq]
    omega
  unfold Ar.giveE
  rw [hw, if_neg (by simp), if_pos]
  simp only
  have hll := hi.ok.lies
  simp only at hll
  have bl := fun j (hj : j < a.holes.length) (h : j < behindI a.holes (L[k].1 : Int)) => behind_lt hj h
  generalize hI : behindI a.holes (L[k].1 : Int) = i at *
  -- where the hole lies, and that it holds the span
  have key : ∃ p, ∃ hp : p < (giveL a.holes i L[k].1 L[k].2).length, (giveL a.holes i L[k].1 L[k].2)[p].1 ≤ L[k].1 ∧ L[k].1 + L[k].2 ≤ (giveL a.holes i L[k].1 L[k].2)[p].1 + (giveL a.holes i L[k].1 L[k].2)[p].2 := by
    have hm : ((if joinsL a.holes i L[k].1 then (a.holes.getD (i - 1) (0, 0)).1 else L[k].1, (if joinsL a.holes i L[k].1 then (a.holes.getD (i - 1) (0, 0)).2 + L[k].2 else L[k].2) + (if joinsR a.holes i (L[k].1 + L[k].2) then (a.holes.getD i (0, 0)).2 else 0)) : Nat × Nat) ∈ giveL a.holes i L[k].1 L[k].2 := by
      unfold giveL
      exact List.mem_append_right _ (List.mem_cons_self ..)
    obtain ⟨p, hp, e⟩ := List.mem_iff_getElem.1 hm
    refine ⟨p, hp, ?_⟩
    rw [e]
    cases hJ : joinsL a.holes i L[k].1 with
    | false => simp only [Bool.false_eq_true, if_false]; omega
    | true =>
      unfold joinsL at hJ
      simp only [Bool.and_eq_true, decide_eq_true_eq] at hJ
      simp only [if_true]
      omega
  obtain ⟨p, hp, k1, k2⟩ := key
  have hb : behindI (giveL a.holes i L[k].1 L[k].2) (L[k].1 : Int) = p := behind_is (by omega) (fun q hq hqp => by
    have := lies_mono hll q p hqp hp
    omega) (fun _ => by omega)
  rw [hb]
  refine ⟨hp, ?_⟩
  rw [getD_get hp]
  omega
end Go.Proofs.Ythloinmnojlleaa
