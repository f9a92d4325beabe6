/- ShV: plain laws of a shelf's leaves: what Put and Drop keep, and when there is room. -/
import Derived.Test.YtoolkamajlgcbaaShU
set_option linter.unusedVariables false
set_option linter.unusedSimpArgs false
namespace Go.Proofs.Ytoolkamajlgcbaa
open Go.RowKit

/-! Numbers. -/
theorem gd_take (l : List Nat) (j k : Nat) : (l.take j).getD k 0 = if k < j then l.getD k 0 else 0 := by
  rw [List.getD_eq_getElem?_getD, List.getElem?_take]
  split
  · rw [List.getD_eq_getElem?_getD]
  · rfl
theorem gd_drop (l : List Nat) (j k : Nat) : (l.drop j).getD k 0 = l.getD (j + k) 0 := by
  rw [List.getD_eq_getElem?_getD, List.getElem?_drop, List.getD_eq_getElem?_getD]
theorem gd_out {l : List Nat} {k : Nat} (h : l.length ≤ k) : l.getD k 0 = 0 := by
  rw [List.getD_eq_getElem?_getD, List.getElem?_eq_none h]; rfl
theorem gd_app (a b : List Nat) (k : Nat) : (a ++ b).getD k 0 = if k < a.length then a.getD k 0 else b.getD (k - a.length) 0 := by
  rw [List.getD_eq_getElem?_getD, List.getElem?_append]
  split <;> rw [List.getD_eq_getElem?_getD]
theorem gd_cons (x : Nat) (b : List Nat) (k : Nat) : (x :: b).getD k 0 = if k = 0 then x else b.getD (k - 1) 0 := by
  cases k with
  | zero => rfl
  | succ k => rw [if_neg (by omega)]; rfl
def mergeZ (l : List Nat) (j : Nat) : List Nat := l.take j ++ ((l.getD j 0 + l.getD (j + 1) 0) :: l.drop (j + 2))
theorem mergeZ_len {l : List Nat} {j : Nat} (h : j + 1 < l.length) : (mergeZ l j).length = l.length - 1 := by
  unfold mergeZ
  rw [List.length_append, List.length_cons, List.length_take, List.length_drop]
  omega
theorem mergeZ_get {l : List Nat} {j : Nat} (h : j + 1 < l.length) (k : Nat) : (mergeZ l j).getD k 0 = if k < j then l.getD k 0 else if k = j then l.getD j 0 + l.getD (j + 1) 0 else l.getD (k + 1) 0 := by
  unfold mergeZ
  have e : (l.take j).length = j := by rw [List.length_take]; omega
  rw [gd_app, e]
  split
  · rw [gd_take, if_pos (by assumption)]
  · rw [gd_cons]
    split
    · rw [if_pos (by omega)]
    · rw [if_neg (by omega), gd_drop]
      congr 1
      omega
theorem sum_app (a b : List Nat) : (a ++ b).sum = a.sum + b.sum := List.sum_append
theorem sum_at {l : List Nat} {j : Nat} (h : j < l.length) : l.sum = (l.take j).sum + l.getD j 0 + (l.drop (j + 1)).sum := by
  have e : l = l.take j ++ (l[j] :: l.drop (j + 1)) := by rw [List.getElem_cons_drop, List.take_append_drop]
  have e2 : l.getD j 0 = l[j] := by rw [List.getD_eq_getElem?_getD, List.getElem?_eq_getElem h]; rfl
  rw [e2]
  conv => lhs; rw [e]
  rw [sum_app, List.sum_cons]
  omega
theorem mergeZ_sum {l : List Nat} {j : Nat} (h : j + 1 < l.length) : (mergeZ l j).sum = l.sum := by
  have e1 := sum_at (l := l) (j := j) (by omega)
  have e2 := sum_at (l := l.drop (j + 1)) (j := 0) (by rw [List.length_drop]; omega)
  rw [List.drop_drop, gd_drop, List.take_zero, List.sum_nil] at e2
  unfold mergeZ
  rw [sum_app, List.sum_cons]
  simp only [Nat.add_zero] at e2
  rw [show j + 1 + (0 + 1) = j + 2 by omega] at e2
  omega
/-- No two side by side are together at most 1020, but may be at two places. -/
def Two (l : List Nat) (e f : Int) : Prop := ∀ k : Nat, k + 1 < l.length → (k : Int) ≠ e → (k : Int) ≠ f → 1020 < l.getD k 0 + l.getD (k + 1) 0
theorem two_merge {l : List Nat} {e : Int} {j : Nat} (h : Two l e j) (hj : j + 1 < l.length) (he : e < j) : Two (mergeZ l j) e (-9) := by
  intro k hk hke _
  rw [mergeZ_len hj] at hk
  rw [mergeZ_get hj, mergeZ_get hj]
  rcases Nat.lt_trichotomy k j with hlt | heq | hgt
  · have q := h k (by omega) hke (by omega)
    rw [if_pos hlt]
    by_cases e1 : k + 1 < j
    · rw [if_pos e1]; exact q
    · rw [if_neg e1, if_pos (by omega)]
      rw [show k + 1 = j by omega] at q
      omega
  · subst heq
    have q := h (k + 1) (by omega) (by omega) (by omega)
    rw [if_neg (by omega), if_pos rfl, if_neg (by omega), if_neg (by omega)]
    omega
  · have q := h (k + 1) (by omega) (by omega) (by omega)
    rw [if_neg (by omega), if_neg (by omega), if_neg (by omega), if_neg (by omega)]
    exact q
theorem run_sum : ∀ (l : List Nat), (∀ k, k + 1 < l.length → 1020 < l.getD k 0 + l.getD (k + 1) 0) → 1021 * (l.length / 2) ≤ l.sum
  | [], _ => by simp
  | [x], _ => by simp
  | x :: y :: r, h => by
    have h0 := h 0 (by simp)
    have ih := run_sum r (fun k hk => by
      have := h (k + 2) (by simp; omega)
      simpa [gd_cons] using this)
    simp only [List.getD_cons_zero, List.getD_cons_succ, Nat.zero_add] at h0
    simp only [List.length_cons, List.sum_cons]
    rw [show (r.length + 1 + 1) / 2 = r.length / 2 + 1 by omega]
    omega
/-- Where one of m leaves would have over 1020, and no two others side by side fit, all have more than 510 times less one. -/
theorem room_sum {l : List Nat} {i z : Nat} (h : Two l (-9) (-9)) (hi : i < l.length) (hz : 1020 < z) : 510 * (l.length - 1) < (l.take i).sum + z + (l.drop (i + 1)).sum := by
  have h1 := run_sum (l.take i) (fun k hk => by
    rw [List.length_take] at hk
    rw [gd_take, gd_take, if_pos (by omega), if_pos (by omega)]
    exact h k (by omega) (by omega) (by omega))
  have h2 := run_sum (l.drop (i + 1)) (fun k hk => by
    rw [List.length_drop] at hk
    rw [gd_drop, gd_drop]
    exact h (i + 1 + k) (by omega) (by omega) (by omega))
  rw [List.length_take] at h1
  rw [List.length_drop] at h2
  rw [show min i l.length = i by omega] at h1
  omega
theorem many_ids : ∀ (n : Nat) (l : List Nat), (∀ i, 1 ≤ i → i ≤ n → i ∈ l) → n ≤ l.length
  | 0, _, _ => Nat.zero_le _
  | n + 1, l, h => by
    have hm : n + 1 ∈ l := h (n + 1) (by omega) (Nat.le_refl _)
    have := many_ids n (l.erase (n + 1)) (fun i h1 h2 => (List.mem_erase_of_ne (by omega)).2 (h i h1 (by omega)))
    rw [List.length_erase_of_mem hm] at this
    have : 0 < l.length := List.length_pos_of_mem hm
    omega
/-! Leaves. -/
def zs (sh : List (Nat × PL)) : List Nat := sh.map (fun x => szL x.2)
theorem zs_len (sh : List (Nat × PL)) : (zs sh).length = sh.length := List.length_map ..
theorem zs_get (sh : List (Nat × PL)) (k : Nat) : (zs sh).getD k 0 = szL (lfA sh k) := by
  unfold zs lfA
  rw [List.getD_eq_getElem?_getD, List.getElem?_map, List.getD_eq_getElem?_getD]
  cases sh[k]? with
  | none => rfl
  | some x => rfl
theorem zs_sizS (sh : List (Nat × PL)) : sizS sh sh.length = (zs sh).sum := by
  have key : ∀ n, sizS sh n = ((zs sh).take n).sum := by
    intro n
    induction n with
    | zero => rfl
    | succ n ih =>
      rw [sizS, ih, ← zs_get]
      by_cases h : n < (zs sh).length
      · rw [List.take_succ_eq_append_getElem h, sum_app, List.sum_singleton, List.getD_eq_getElem?_getD, List.getElem?_eq_getElem h]; rfl
      · rw [gd_out (by omega), List.take_of_length_le (by omega), List.take_of_length_le (by omega)]; rfl
  rw [key, List.take_of_length_le (by rw [zs_len]; exact Nat.le_refl _)]
theorem zs_merge (sh : List (Nat × PL)) (j : Nat) : zs (mergeP sh j) = mergeZ (zs sh) j := by
  unfold mergeP mergeZ
  rw [zs_get, zs_get, ← szL_app]
  simp [zs, List.map_take, List.map_drop]
theorem zs_setL (sh : List (Nat × PL)) (i : Nat) (l : PL) : zs (setL sh i l) = (zs sh).set i (szL l) := by
  unfold zs setL; rw [List.map_set]
/-- An entry that may be. -/
def EntOK (p : ByteArray × ByteArray) : Prop := 1 ≤ p.1.size ∧ p.1.size ≤ 64 ∧ p.2.size ≤ 400
theorem EntOK.sz {p : ByteArray × ByteArray} (h : EntOK p) : szP p ≤ 467 := by unfold szP; obtain ⟨_, h1, h2⟩ := h; omega
/-- A leaf that may be. -/
def LfOK (x : Nat × PL) : Prop := szL x.2 ≤ 1020 ∧ 0 < x.2.length ∧ (∀ p ∈ x.2, EntOK p) ∧ x.1 ≤ 1000
def GoodS (sh : List (Nat × PL)) : Prop := ∀ x ∈ sh, LfOK x
theorem lf_mem {sh : List (Nat × PL)} {k : Nat} (h : k < sh.length) : ((sh.getD k (0, [])).1, lfA sh k) ∈ sh := by
  have e : sh.getD k (0, []) = sh[k] := by rw [List.getD_eq_getElem?_getD, List.getElem?_eq_getElem h]; rfl
  unfold lfA
  rw [e]
  exact List.getElem_mem h
theorem goodS_merge {sh : List (Nat × PL)} {k : Nat} (h : GoodS sh) (hk : k + 1 < sh.length) (hf : szL (lfA sh k) + szL (lfA sh (k + 1)) ≤ 1020) : GoodS (mergeP sh k) := by
  intro x hx
  unfold mergeP at hx
  rcases List.mem_append.1 hx with hx | hx
  · rcases List.mem_append.1 hx with hx | hx
    · exact h x (List.mem_of_mem_take hx)
    · rw [List.mem_singleton] at hx
      subst hx
      have h1 := h _ (lf_mem (show k < sh.length by omega))
      have h2 := h _ (lf_mem hk)
      refine ⟨by show szL (lfA sh k ++ lfA sh (k + 1)) ≤ 1020; rw [szL_app]; exact hf, ?_, fun p hp => ?_, h1.2.2.2⟩
      · show 0 < (lfA sh k ++ lfA sh (k + 1)).length
        have := h1.2.1
        simp only [List.length_append] at this ⊢
        omega
      · rcases List.mem_append.1 hp with hp | hp
        · exact h1.2.2.1 p hp
        · exact h2.2.2.1 p hp
  · exact h x (List.mem_of_mem_drop hx)
theorem t1_inv {sh : List (Nat × PL)} {e kk : Int} (hg : GoodS sh) (h2 : Two (zs sh) e kk) (he : e < kk) : GoodS (t1 sh kk) ∧ Two (zs (t1 sh kk)) e (-9) ∧ (zs (t1 sh kk)).sum = (zs sh).sum := by
  by_cases h : Fits sh kk
  · obtain ⟨k, rfl, hk, hf⟩ := id h
    rw [t1_on h, zs_merge]
    exact ⟨goodS_merge hg hk hf, two_merge h2 (by rw [zs_len]; exact hk) he, mergeZ_sum (by rw [zs_len]; exact hk)⟩
  · rw [t1_off h]
    refine ⟨hg, fun k hk h1 _ => ?_, rfl⟩
    by_cases hkk : (k : Int) = kk
    · subst hkk
      rw [zs_len] at hk
      rw [zs_get, zs_get]
      rcases Nat.lt_or_ge 1020 (szL (lfA sh k) + szL (lfA sh (k + 1))) with q | q
      · exact q
      · exact absurd ⟨k, rfl, hk, q⟩ h
    · exact h2 k hk h1 hkk
theorem Two.weak {l : List Nat} {e f e' f' : Int} (h : Two l e f) (h1 : ∀ k : Nat, (k : Int) ≠ e' → (k : Int) ≠ f' → (k : Int) ≠ e ∧ (k : Int) ≠ f) : Two l e' f' := fun k hk a b => h k hk (h1 k a b).1 (h1 k a b).2
/-- tidy mends what lies at i and i - 1. -/
theorem tidy_inv {sh : List (Nat × PL)} {i : Nat} (hg : GoodS sh) (h2 : Two (zs sh) ((i : Int) - 1) i) : GoodS (stepsT sh i 2) ∧ Two (zs (stepsT sh i 2)) (-9) (-9) ∧ (zs (stepsT sh i 2)).sum = (zs sh).sum := by
  show GoodS (t1 (t1 sh ((i : Int) - (0 : Nat))) ((i : Int) - (1 : Nat))) ∧ Two (zs (t1 (t1 sh ((i : Int) - (0 : Nat))) ((i : Int) - (1 : Nat)))) (-9) (-9) ∧ (zs (t1 (t1 sh ((i : Int) - (0 : Nat))) ((i : Int) - (1 : Nat)))).sum = (zs sh).sum
  rw [show (i : Int) - (0 : Nat) = (i : Int) by omega, show (i : Int) - (1 : Nat) = (i : Int) - 1 by omega]
  obtain ⟨a1, a2, a3⟩ := t1_inv hg h2 (by omega)
  obtain ⟨b1, b2, b3⟩ := t1_inv (e := -9) (kk := (i : Int) - 1) a1 (a2.weak (fun k h1 h2 => ⟨h2, h1⟩)) (by omega)
  exact ⟨b1, b2, by rw [b3, a3]⟩
/-- tidy of the leaf behind keeps what lies at i - 1. -/
theorem tidy_inv2 {sh : List (Nat × PL)} {i : Nat} (hg : GoodS sh) (h2 : Two (zs sh) ((i : Int) - 1) ((i : Int) + 1)) : GoodS (stepsT sh ((i + 1 : Nat) : Int) 2) ∧ Two (zs (stepsT sh ((i + 1 : Nat) : Int) 2)) ((i : Int) - 1) (-9) ∧ (zs (stepsT sh ((i + 1 : Nat) : Int) 2)).sum = (zs sh).sum := by
  show GoodS (t1 (t1 sh (((i + 1 : Nat) : Int) - (0 : Nat))) (((i + 1 : Nat) : Int) - (1 : Nat))) ∧ Two (zs (t1 (t1 sh (((i + 1 : Nat) : Int) - (0 : Nat))) (((i + 1 : Nat) : Int) - (1 : Nat)))) ((i : Int) - 1) (-9) ∧ (zs (t1 (t1 sh (((i + 1 : Nat) : Int) - (0 : Nat))) (((i + 1 : Nat) : Int) - (1 : Nat)))).sum = (zs sh).sum
  rw [show ((i + 1 : Nat) : Int) - (0 : Nat) = (i : Int) + 1 by omega, show ((i + 1 : Nat) : Int) - (1 : Nat) = (i : Int) by omega]
  obtain ⟨a1, a2, a3⟩ := t1_inv hg h2 (by omega)
  obtain ⟨b1, b2, b3⟩ := t1_inv (e := (i : Int) - 1) (kk := (i : Int)) a1 (a2.weak (fun k h1 h2 => ⟨h1, by omega⟩)) (by omega)
  exact ⟨b1, b2, by rw [b3, a3]⟩
theorem mem_setL {sh : List (Nat × PL)} {i : Nat} {l : PL} {x : Nat × PL} (h : x ∈ setL sh i l) : x ∈ sh ∨ x = ((sh.getD i (0, [])).1, l) := List.mem_or_eq_of_mem_set h
theorem gd_set (l : List Nat) (i z k : Nat) (h : k ≠ i) : (l.set i z).getD k 0 = l.getD k 0 := by
  rw [List.getD_eq_getElem?_getD, List.getElem?_set_ne (by omega), List.getD_eq_getElem?_getD]
theorem two_set {l : List Nat} {i z : Nat} (h : Two l (-9) (-9)) : Two (l.set i z) ((i : Int) - 1) i := fun k hk h1 h2 => by
  rw [List.length_set] at hk
  rw [gd_set _ _ _ _ (by omega), gd_set _ _ _ _ (by omega)]
  exact h k hk (by omega) (by omega)
theorem set_sum {l : List Nat} {i z : Nat} (hi : i < l.length) : (l.set i z).sum = (l.take i).sum + z + (l.drop (i + 1)).sum := by
  have e := sum_at (l := l.set i z) (j := i) (by rw [List.length_set]; exact hi)
  rw [List.take_set_of_le (Nat.le_refl _), List.drop_set_of_lt (Nat.lt_succ_self _)] at e
  rw [e, List.getD_eq_getElem?_getD, List.getElem?_set_self hi]
  rfl
theorem hit_split {sh : List (Nat × PL)} {i k : Nat} {a v : ByteArray} (h : hitK sh i k a = some v) : k < (lfA sh i).length ∧ lfA sh i = (lfA sh i).take k ++ ((a, v) :: (lfA sh i).drop (k + 1)) := by
  unfold hitK at h
  by_cases hk : k < (lfA sh i).length
  · rw [dif_pos hk] at h
    by_cases he : (lfA sh i)[k].1 = a
    · rw [if_pos he] at h
      have e : (lfA sh i)[k] = (a, v) := by
        cases h
        rw [← he]
      refine ⟨hk, ?_⟩
      rw [← e, List.getElem_cons_drop, List.take_append_drop]
    · rw [if_neg he] at h; cases h
  · rw [dif_neg hk] at h; cases h
/-- The size of what a key has. -/
def oldZ (sh : List (Nat × PL)) (a : ByteArray) : Nat := match getK sh a with | some v => szP (a, v) | none => 0
theorem szL_cons (p : ByteArray × ByteArray) (l : PL) : szL (p :: l) = szP p + szL l := by
  have := szL_app [p] l
  rw [List.singleton_append] at this
  rw [this]
  show 0 + szP p + szL l = szP p + szL l
  omega
theorem newL_sz (sh : List (Nat × PL)) (a x : ByteArray) : szL (newL sh a x) + oldZ sh a = szL (lfA sh (fI sh a)) + szP (a, x) := by
  unfold newL restP oldZ
  rw [szL_app, szL_append]
  cases h : getK sh a with
  | none =>
    have q := szL_app ((lfA sh (fI sh a)).take (fK sh a)) ((lfA sh (fI sh a)).drop (fK sh a))
    rw [List.take_append_drop] at q
    show szL _ + szP (a, x) + szL ((lfA sh (fI sh a)).drop (fK sh a)) + 0 = _
    omega
  | some v =>
    obtain ⟨hk, e⟩ := hit_split h
    have q := congrArg szL e
    rw [szL_app, szL_cons] at q
    show szL _ + szP (a, x) + szL ((lfA sh (fI sh a)).drop (fK sh a + 1)) + szP (a, v) = _
    omega
theorem newL_mem {sh : List (Nat × PL)} {a x : ByteArray} {p : ByteArray × ByteArray} (h : p ∈ newL sh a x) : p ∈ lfA sh (fI sh a) ∨ p = (a, x) := by
  unfold newL restP at h
  rcases List.mem_append.1 h with h | h
  · rcases List.mem_append.1 h with h | h
    · exact .inl (List.mem_of_mem_take h)
    · rw [List.mem_singleton] at h; exact .inr h
  · left
    split at h <;> exact List.mem_of_mem_drop h
theorem newL_pos (sh : List (Nat × PL)) (a x : ByteArray) : 0 < (newL sh a x).length := by
  unfold newL
  simp only [List.length_append, List.length_singleton]
  omega
/-- Where a leaf that is too big is cut. -/
theorem cut_ok {l : PL} (hz : 1020 < szL l) (he : ∀ p ∈ l, EntOK p) : 0 < cutA l ∧ cutA l < l.length ∧ 507 ≤ szL (l.take (cutA l)) ∧ szL (l.take (cutA l)) ≤ 973 := by
  have key : ∀ f c, f + c = l.length → szL (l.take c) ≤ 973 → 507 ≤ szL (l.take (cutF l f c)) ∧ szL (l.take (cutF l f c)) ≤ 973 := by
    intro f
    induction f with
    | zero =>
      intro c hc h
      rw [List.take_of_length_le (by omega)] at h
      omega
    | succ f ih =>
      intro c hc h
      rw [cutF]
      split
      · rename_i hlt
        refine ih (c + 1) (by omega) ?_
        have hcl : c < l.length := by omega
        rw [List.take_succ_eq_append_getElem hcl, szL_append]
        have := (he l[c] (List.getElem_mem _)).sz
        omega
      · omega
  obtain ⟨h1, h2⟩ := key l.length 0 (by omega) (by rw [List.take_zero]; decide)
  have h1 : 507 ≤ szL (l.take (cutA l)) := h1
  have h2 : szL (l.take (cutA l)) ≤ 973 := h2
  refine ⟨?_, ?_, h1, h2⟩
  · rcases Nat.eq_zero_or_pos (cutA l) with h | h
    · rw [h, List.take_zero] at h1
      exact absurd h1 (by decide)
    · exact h
  · rcases Nat.lt_or_ge (cutA l) l.length with h | h
    · exact h
    · rw [List.take_of_length_le h] at h2
      omega
theorem spareA_full {sh : List (Nat × PL)} {P : Nat} (hP : 2 ≤ P) (h : spareA sh P = 0) : P - 1 ≤ sh.length := by
  have hall : ∀ i, i < P → usedA sh sh.length i = true := by
    unfold spareA at h
    cases hf : (List.range P).find? (fun i => !usedA sh sh.length i) with
    | none =>
      intro i hi
      have := List.find?_range_eq_none.1 hf i hi
      simpa using this
    | some k =>
      rw [hf] at h
      have hk : k = 0 := h
      subst hk
      have := (List.find?_range_eq_some.1 hf).1
      simp [usedA] at this
  have := many_ids (P - 1) (sh.map (·.1)) (fun i h1 h2 => by
    have := hall i (by omega)
    unfold usedA at this
    rw [List.take_length] at this
    simp only [Bool.or_eq_true, beq_iff_eq, List.contains_iff_mem] at this
    rcases this with h | h
    · omega
    · exact h)
  rwa [List.length_map] at this
theorem spareA_lt {sh : List (Nat × PL)} {P : Nat} (hP : 2 ≤ P) : spareA sh P < P := by
  unfold spareA
  cases hf : (List.range P).find? (fun i => !usedA sh sh.length i) with
  | none => show 0 < P; omega
  | some k => exact List.mem_range.1 (List.find?_range_eq_some.1 hf).2.1
theorem zs_split (sh : List (Nat × PL)) (i : Nat) (l : PL) (id : Nat) : zs (splitL sh i l id) = (zs sh).take i ++ (szL (l.take (cutA l)) :: szL (l.drop (cutA l)) :: (zs sh).drop (i + 1)) := by
  unfold splitL
  simp [zs, List.map_take, List.map_drop]
/-- What Put keeps, what it adds, and when it finds no room. -/
theorem put_inv {sh : List (Nat × PL)} {P : Nat} {a x : ByteArray} (hg : GoodS sh) (h2 : Two (zs sh) (-9) (-9)) (hP : 2 ≤ P) (hP2 : P ≤ 1000) (ha : EntOK (a, x)) :
    GoodS (putA sh P a x).2 ∧ Two (zs (putA sh P a x).2) (-9) (-9) ∧ (((putA sh P a x).1 = 0 ∧ (zs (putA sh P a x).2).sum + oldZ sh a = (zs sh).sum + szP (a, x)) ∨ ((putA sh P a x).1 = 5 ∧ (putA sh P a x).2 = sh ∧ 510 * (P - 2) + oldZ sh a < (zs sh).sum + szP (a, x))) := by
  unfold putA
  by_cases hsh : sh = []
  · subst hsh
    rw [if_pos rfl]
    have hs := ha.sz
    have e0 : oldZ [] a = 0 := by
      unfold oldZ
      have : getK [] a = none := by unfold getK hitK; rw [dif_neg (by simp [lfA])]
      rw [this]
    refine ⟨fun y hy => ?_, fun k hk _ _ => ?_, .inl ⟨rfl, ?_⟩⟩
    · have hy : y ∈ [(1, [(a, x)])] := hy
      rw [List.mem_singleton] at hy
      subst hy
      refine ⟨?_, by show 0 < 1; omega, fun p hp => ?_, by show 1 ≤ 1000; omega⟩
      · show 0 + szP (a, x) ≤ 1020; omega
      · have hp : p ∈ [(a, x)] := hp
        rw [List.mem_singleton] at hp
        subst hp
        exact ha
    · have hk : k + 1 < 1 := hk
      omega
    · rw [e0]
      show (0 + szP (a, x)) + 0 + 0 = 0 + szP (a, x)
      omega
  · rw [if_neg hsh]
    have hlen : 0 < sh.length := by
      rcases Nat.eq_zero_or_pos sh.length with h | h
      · exact absurd (List.eq_nil_of_length_eq_zero h) hsh
      · exact h
    have hi : fI sh a < sh.length := fI_lt hlen
    have hsz := newL_sz sh a x
    have hmem : ∀ p ∈ newL sh a x, EntOK p := fun p hp => by
      rcases newL_mem hp with h | h
      · exact (hg _ (lf_mem hi)).2.2.1 p h
      · rw [h]; exact ha
    have hpos := newL_pos sh a x
    have hid := (hg _ (lf_mem hi)).2.2.2
    have hat := sum_at (l := zs sh) (j := fI sh a) (by rw [zs_len]; exact hi)
    rw [zs_get] at hat
    generalize newL sh a x = l at hsz hmem hpos ⊢
    generalize fI sh a = i at hi hsz hid hat ⊢
    by_cases hfit : szL l ≤ 1020
    · rw [if_pos hfit]
      have g1 : GoodS (setL sh i l) := fun y hy => by
        rcases mem_setL hy with hy | rfl
        · exact hg y hy
        · exact ⟨hfit, hpos, hmem, hid⟩
      have t := tidy_inv (i := i) g1 (by rw [zs_setL]; exact two_set h2)
      refine ⟨t.1, t.2.1, .inl ⟨rfl, ?_⟩⟩
      show (zs (stepsT (setL sh i l) i 2)).sum + oldZ sh a = _
      rw [t.2.2, zs_setL, set_sum (by rw [zs_len]; exact hi)]
      omega
    · rw [if_neg hfit]
      by_cases hsp : spareA sh P = 0
      · rw [if_pos hsp]
        refine ⟨hg, h2, .inr ⟨rfl, rfl, ?_⟩⟩
        have h1 := spareA_full hP hsp
        have h3 := room_sum (z := szL l) h2 (show i < (zs sh).length by rw [zs_len]; exact hi) (by omega)
        rw [zs_len] at h3
        have : 510 * (P - 2) ≤ 510 * (sh.length - 1) := Nat.mul_le_mul_left _ (by omega)
        omega
      · rw [if_neg hsp]
        have hlt := spareA_lt (sh := sh) hP
        generalize spareA sh P = sp at hsp hlt ⊢
        obtain ⟨c1, c2, c3, c4⟩ := cut_ok (by omega) hmem
        have hcz := szL_app (l.take (cutA l)) (l.drop (cutA l))
        rw [List.take_append_drop] at hcz
        have hbig : szL l ≤ 1487 := by
          have := (hg _ (lf_mem hi)).1
          have := ha.sz
          have q : szL (lfA sh i) ≤ 1020 := (hg _ (lf_mem hi)).1
          omega
        have g1 : GoodS (splitL sh i l sp) := fun y hy => by
          unfold splitL at hy
          rcases List.mem_append.1 hy with hy | hy
          · exact hg y (List.mem_of_mem_take hy)
          rcases List.mem_append.1 hy with hy | hy
          · rcases List.mem_cons.1 hy with rfl | hy
            · exact ⟨by show szL (l.take (cutA l)) ≤ 1020; omega, by show 0 < (l.take (cutA l)).length; rw [List.length_take]; omega, fun p hp => hmem p (List.mem_of_mem_take hp), hid⟩
            · rw [List.mem_singleton] at hy
              subst hy
              exact ⟨by show szL (l.drop (cutA l)) ≤ 1020; omega, by show 0 < (l.drop (cutA l)).length; rw [List.length_drop]; omega, fun p hp => hmem p (List.mem_of_mem_drop hp), by show sp ≤ 1000; omega⟩
          · exact hg y (List.mem_of_mem_drop hy)
        have zl : ((zs sh).take i).length = i := by rw [List.length_take, zs_len]; omega
        have t1' : Two (zs (splitL sh i l sp)) ((i : Int) - 1) ((i : Int) + 1) := fun k hk e1 e2 => by
          rw [zs_split] at hk ⊢
          rw [List.length_append, zl, List.length_cons, List.length_cons, List.length_drop, zs_len] at hk
          rw [gd_app, gd_app, zl]
          rcases Nat.lt_trichotomy k i with h | h | h
          · rw [if_pos h, if_pos (by omega), gd_take, gd_take, if_pos (by omega), if_pos (by omega)]
            exact h2 k (by rw [zs_len]; omega) (by omega) (by omega)
          · subst h
            rw [if_neg (by omega), if_neg (by omega), show k - k = 0 by omega, show k + 1 - k = 1 by omega]
            simp only [List.getD_cons_zero, List.getD_cons_succ]
            omega
          · rw [if_neg (by omega), if_neg (by omega), gd_cons, gd_cons, if_neg (by omega), if_neg (by omega), gd_cons, gd_cons, if_neg (by omega), if_neg (by omega), gd_drop, gd_drop]
            have := h2 (k - 1) (by rw [zs_len]; omega) (by omega) (by omega)
            rw [show i + 1 + (k - i - 1 - 1) = k - 1 by omega, show i + 1 + (k + 1 - i - 1 - 1) = k - 1 + 1 by omega]
            exact this
        have t := tidy_inv2 g1 t1'
        have u := tidy_inv (i := i) t.1 (t.2.1.weak (fun k h1 h2 => ⟨h1, by omega⟩))
        refine ⟨u.1, u.2.1, .inl ⟨rfl, ?_⟩⟩
        show (zs (stepsT (stepsT (splitL sh i l sp) ((i + 1 : Nat) : Int) 2) i 2)).sum + oldZ sh a = _
        rw [u.2.2, t.2.2, zs_split, sum_app, List.sum_cons, List.sum_cons]
        omega
theorem drop_inv {sh : List (Nat × PL)} {a : ByteArray} (hg : GoodS sh) (h2 : Two (zs sh) (-9) (-9)) : GoodS (dropA sh a).2 ∧ Two (zs (dropA sh a).2) (-9) (-9) ∧ (zs (dropA sh a).2).sum + oldZ sh a = (zs sh).sum := by
  unfold dropA
  cases h : getK sh a with
  | none =>
    refine ⟨hg, h2, ?_⟩
    show (zs sh).sum + oldZ sh a = _
    unfold oldZ
    rw [h]
    rfl
  | some v =>
    obtain ⟨hk, he⟩ := hit_split h
    have hi : fI sh a < sh.length := by
      rcases Nat.lt_or_ge (fI sh a) sh.length with h | h
      · exact h
      · rw [lfA_out h] at hk; simp at hk
    have ho : oldZ sh a = szP (a, v) := by unfold oldZ; rw [h]
    rw [ho]
    have hq := congrArg szL he
    rw [szL_app, szL_cons] at hq
    have hat := sum_at (l := zs sh) (j := fI sh a) (by rw [zs_len]; exact hi)
    rw [zs_get] at hat
    have hl := hg _ (lf_mem hi)
    generalize fI sh a = i at hi hk he hq hat hl ⊢
    generalize fK sh a = k at hk he hq ⊢
    rw [if_pos (by rfl)]
    show GoodS (stepsT _ i 2) ∧ Two (zs (stepsT _ i 2)) (-9) (-9) ∧ (zs (stepsT _ i 2)).sum + szP (a, v) = _
    by_cases hone : (lfA sh i).length = 1
    · rw [if_pos hone]
      have g1 : GoodS (sh.take i ++ sh.drop (i + 1)) := fun y hy => by
        rcases List.mem_append.1 hy with hy | hy
        · exact hg y (List.mem_of_mem_take hy)
        · exact hg y (List.mem_of_mem_drop hy)
      have ez : zs (sh.take i ++ sh.drop (i + 1)) = (zs sh).take i ++ (zs sh).drop (i + 1) := by simp [zs, List.map_take, List.map_drop]
      have zl : ((zs sh).take i).length = i := by rw [List.length_take, zs_len]; omega
      have t := tidy_inv (i := i) g1 (fun m hm e1 e2 => by
        rw [ez] at hm ⊢
        rw [List.length_append, zl, List.length_drop, zs_len] at hm
        rw [gd_app, gd_app, zl]
        rcases Nat.lt_or_ge m i with h | h
        · rw [if_pos h, if_pos (by omega), gd_take, gd_take, if_pos (by omega), if_pos (by omega)]
          exact h2 m (by rw [zs_len]; omega) (by omega) (by omega)
        · rw [if_neg (by omega), if_neg (by omega), gd_drop, gd_drop]
          have := h2 (m + 1) (by rw [zs_len]; omega) (by omega) (by omega)
          rw [show i + 1 + (m - i) = m + 1 by omega, show i + 1 + (m + 1 - i) = m + 1 + 1 by omega]
          exact this)
      refine ⟨t.1, t.2.1, ?_⟩
      rw [t.2.2, ez, sum_app]
      have l1 : (lfA sh i).take k = [] ∧ (lfA sh i).drop (k + 1) = [] := by
        constructor
        · rw [show k = 0 by omega]; rfl
        · exact List.drop_eq_nil_of_le (by omega)
      rw [l1.1, l1.2] at hq
      have e0 : szL [] = 0 := rfl
      omega
    · rw [if_neg hone]
      have g1 : GoodS (setL sh i ((lfA sh i).take k ++ (lfA sh i).drop (k + 1))) := fun y hy => by
        rcases mem_setL hy with hy | rfl
        · exact hg y hy
        · refine ⟨?_, ?_, fun p hp => ?_, hl.2.2.2⟩
          · show szL ((lfA sh i).take k ++ (lfA sh i).drop (k + 1)) ≤ 1020
            rw [szL_app]
            have : szL (lfA sh i) ≤ 1020 := hl.1
            omega
          · show 0 < ((lfA sh i).take k ++ (lfA sh i).drop (k + 1)).length
            rw [List.length_append, List.length_take, List.length_drop]
            omega
          · rcases List.mem_append.1 hp with hp | hp
            · exact hl.2.2.1 p (List.mem_of_mem_take hp)
            · exact hl.2.2.1 p (List.mem_of_mem_drop hp)
      have t := tidy_inv (i := i) g1 (by rw [zs_setL]; exact two_set h2)
      refine ⟨t.1, t.2.1, ?_⟩
      rw [t.2.2, zs_setL, set_sum (by rw [zs_len]; exact hi), szL_app]
      omega
end Go.Proofs.Ytoolkamajlgcbaa
