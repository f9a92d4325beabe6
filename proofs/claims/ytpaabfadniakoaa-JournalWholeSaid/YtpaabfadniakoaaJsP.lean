/- JsP: changes in order are but one list; what a commit leaves is no matter of their order. In plain words. -/
import Derived.Test.YtpaabfadniakoaaJwA
set_option linter.unusedVariables false
set_option linter.unusedSimpArgs false
namespace Go.Proofs.Ytpaabfadniakoaa
open Go.RowKit

theorem dup_pair {l : List (Int × ByteArray)} : ∀ {n : Nat}, n ≤ l.length → dupK l n = false → ∀ i j (hi : i < j) (hj : j < n) (h1 : j < l.length), l[i].1 ≠ l[j].1
  | 0, _, _, i, j, _, hj, _ => absurd hj (Nat.not_lt_zero _)
  | n + 1, hn, hd, i, j, hi, hj, h1 => by
    rw [dupK, Bool.or_eq_false_iff] at hd
    obtain ⟨h2, h3⟩ := hd
    by_cases e : j = n
    · subst e
      have hg : l.getD j (0, ByteArray.empty) = l[j] := by rw [List.getD_eq_getElem?_getD, List.getElem?_eq_getElem h1]; rfl
      rw [hg, List.any_eq_false] at h3
      have := h3 l[i] (by rw [List.mem_take_iff_getElem]; exact ⟨i, by omega, rfl⟩)
      simpa using this
    · exact dup_pair (by omega) h2 i j hi (by omega) h1
theorem pages_pair {l : List (Int × ByteArray)} (h : dupK l l.length = false) : l.Pairwise (fun a b => a.1 ≠ b.1) :=
  List.pairwise_iff_getElem.2 (fun i j hi hj hij => dup_pair (Nat.le_refl _) h i j hij hj hj)
def low (c : Int × ByteArray) : Chg := (c.1.toNat, c.2)
theorem low_upc (c : Chg) : low (upc c) = c := by unfold low upc; simp
theorem low_map (M : List Chg) : (M.map upc).map low = M := by rw [List.map_map]; exact (List.map_congr_left (fun c _ => low_upc c)).trans (List.map_id M)
theorem sorted_one {l1 l2 : List (Int × ByteArray)} {M1 M2 : List Chg} (h1 : Ord M1) (h2 : Ord M2) (p1 : (M1.map upc).Perm l1) (p2 : (M2.map upc).Perm l2) (hp : l1.Perm l2) (hd : dupK l1 l1.length = false) : M1 = M2 := by
  have pm : M1.Perm M2 := by
    have := (p1.trans (hp.trans p2.symm)).map low
    rwa [low_map, low_map] at this
  have hpw : M1.Pairwise (fun a b => a.1 ≠ b.1) := by
    have hs : ∀ {a b : Int × ByteArray}, a.1 ≠ b.1 → b.1 ≠ a.1 := fun h => h.symm
    have := (p1.symm.pairwise_iff hs).1 (pages_pair hd)
    rw [List.pairwise_map] at this
    exact this.imp (fun h e => h (by unfold upc; simp only; omega))
  refine List.Perm.eq_of_pairwise (le := fun a b : Chg => a.1 ≤ b.1) (fun a b ha hb hab hba => ?_) h1 h2 pm
  have hb1 : b ∈ M1 := pm.mem_iff.2 hb
  obtain ⟨i, hi, rfl⟩ := List.getElem_of_mem ha
  obtain ⟨j, hj, rfl⟩ := List.getElem_of_mem hb1
  have hw := List.pairwise_iff_getElem.1 hpw
  rcases Nat.lt_trichotomy i j with h | h | h
  · exact absurd (Nat.le_antisymm hab hba) (hw i j hi hj h)
  · subst h; rfl
  · exact absurd (Nat.le_antisymm hba hab) (hw j i hj hi h)
theorem dup_false {l : List (Int × ByteArray)} (h : l.Pairwise (fun a b => a.1 ≠ b.1)) : ∀ n, n ≤ l.length → dupK l n = false
  | 0, _ => rfl
  | n + 1, hn => dup_no (by omega) (dup_false h n (by omega)) (fun j hj => List.pairwise_iff_getElem.1 h j n (by omega) (by omega) hj)
theorem why_zero {P : Nat} {l : List (Int × ByteArray)} (h1 : ∀ x ∈ l, 0 ≤ x.1 ∧ x.1 < (P : Int) ∧ x.2.size = 1024) (h2 : l.Pairwise (fun a b => a.1 ≠ b.1)) : whyE P l = 0 := by
  have a := out_no (P := P) (l := l) (fun j hj => by have := h1 _ (List.getElem_mem hj); exact ⟨this.1, this.2.1⟩)
  have b := long_no (l := l) (fun j hj => (h1 _ (List.getElem_mem hj)).2.2)
  unfold whyE
  rw [a, dup_false h2 _ (Nat.le_refl _), b]
  rfl
/-- Whether changes may be is no matter of their order. -/
theorem why_perm {P : Nat} {l1 l2 : List (Int × ByteArray)} (hp : l1.Perm l2) (h : whyE P l1 = 0) : whyE P l2 = 0 :=
  why_zero (fun x hx => why_each h x (hp.mem_iff.2 hx)) ((hp.pairwise_iff (fun {a b} h => h.symm)).1 (pages_pair (why_ok h).2.1))
end Go.Proofs.Ytpaabfadniakoaa
