/- LawOneA: bools made, hits: for the walks of DiskOne and DiskFlushed. -/
import Derived.Test.YtfkonndbgmmckaaSep
import Derived.Test.YtfkonndbgmmckaaOneP
import Derived.Lib.Strings
set_option linter.unusedVariables false
set_option linter.unusedSimpArgs false
namespace Go.Proofs.Ytfkonndbgmmckaa
open Go.RowKit

theorem infoBool : (Try.prog.info? 4).map (fun i => (i.zero, i.size, i.bytes)) = some (some (.bool false), 1, 1) := by kernel_rfl
def trues (k n : Nat) : List Bool := List.replicate k true ++ List.replicate (n - k) false
theorem trues_length {k n : Nat} (h : k ≤ n) : (trues k n).length = n := by simp [trues]; omega
theorem trues_set {k n : Nat} (h : k < n) : ((trues k n).map Value.bool).set k (.bool true) = (trues (k + 1) n).map Value.bool := by
  rw [← List.map_set]
  congr 1
  apply List.ext_getElem
  · simp [trues_length (Nat.le_of_lt h), trues_length h]
  · intro i h1 h2
    simp only [trues, List.getElem_set, List.getElem_append, List.getElem_replicate, List.length_replicate]
    by_cases e : k = i
    · subst e; simp
    · rw [if_neg e]
      by_cases e2 : i < k
      · simp [e2, show i < k + 1 by omega]
      · simp [e2, show ¬ i < k + 1 by omega]
theorem trues_all (n : Nat) : trues n n = List.replicate n true := by simp [trues]
theorem own_bools0 (W : World) (n : Nat) (hn : n ≤ maxLen) : (W.alloc (.cells (madeCells #[.bool false] n) 4)).ownsRow 0 4 1 (.slice (some ⟨W.heap.size, 0, none⟩) n n) n ((trues 0 n).map Value.bool) := by
  have h := World.ownsRow_lit (base := 0) (e := 4) (size := 1) W (madeCells #[.bool false] n) n (Nat.zero_le _) hn (by simp [size_madeCells])
  rw [toList_madeCells_one] at h
  simpa [trues] using h

theorem toList_inj {a b : ByteArray} (h : a.toList = b.toList) : a = b := by
  rw [Lib.toList_data, Lib.toList_data] at h
  cases a; cases b
  simp only [ByteArray.mk.injEq]
  exact Array.toList_inj.1 h
theorem beqS (a b : ByteArray) : (a.toList == b.toList) = decide (a = b) := by
  rw [Bool.eq_iff_iff]
  simp only [beq_iff_eq, decide_eq_true_eq]
  exact ⟨toList_inj, fun h => by rw [h]⟩
/-- Is the t-th of the steps a write of x at i? -/
def hit (l : List OpV) (x : ByteArray) (i t : Nat) : Bool := match l[t]? with
  | some o => o.kind == 0 && (o.at_ == (i : Int)) && decide (x = o.text)
  | none => false
theorem hit_is (l : List OpV) (x : ByteArray) (i t : Nat) (h : t < l.length) : hit l x i t = (l[t].kind == 0 && (l[t].at_ == (i : Int)) && decide (x = l[t].text)) := by
  unfold hit; rw [List.getElem?_eq_getElem h]
theorem hit_eq {l : List OpV} {x : ByteArray} {i t : Nat} {o : OpV} (k0 : o.kind = 0) (k1 : o.at_ = (i : Int)) (h : hit l x i t = (o.kind == 0 && (o.at_ == (i : Int)) && decide (x = o.text))) : hit l x i t = (x.toList == (Dk.rep (filledN o.long) o.fill).toList) := by
  have e1 : (o.kind == 0) = true := by rw [k0]; rfl
  have e2 : (o.at_ == (i : Int)) = true := by rw [k1]; exact beq_self_eq_true _
  rw [h, e1, e2, beqS, Bool.true_and, Bool.true_and]
  rfl
theorem step_no {l : List OpV} {x y : ByteArray} {i t : Nat} (h : false = true ∨ (¬ x = y ∧ ∀ t', t' < t → hit l x i t' = false)) (ht : hit l x i t = false) : Hid (false = true ∨ (¬ x = y ∧ ∀ t', t' < t + 1 → hit l x i t' = false)) := by
  rcases h with h | ⟨h1, h2⟩
  · cases h
  · exact .inr ⟨h1, fun t' ht' => by
      rcases Nat.lt_or_ge t' t with h3 | h3
      · exact h2 t' h3
      · obtain rfl : t' = t := by omega
        exact ht⟩
theorem step_hit {l : List OpV} {x y : ByteArray} {i t : Nat} {b : Bool} (h : false = true ∨ (¬ x = y ∧ ∀ t', t' < t → hit l x i t' = false)) (ht : hit l x i t = b) : Hid (b = true ∨ (¬ x = y ∧ ∀ t', t' < t + 1 → hit l x i t' = false)) := by
  cases b with
  | true => exact .inl rfl
  | false => exact step_no h ht
theorem start_no {l : List OpV} {x y : ByteArray} {i : Nat} {b : Bool} (h : ¬ x = y) : Hid (b = true ∨ (¬ x = y ∧ ∀ t', t' < 0 → hit l x i t' = false)) := .inr ⟨h, fun t' ht => by omega⟩
theorem no_hit {l : List OpV} {x y : ByteArray} {i t : Nat} (h : false = true ∨ (¬ x = y ∧ ∀ t', t' < t → hit l x i t' = false)) (hk : x = y ∨ ∃ o ∈ l.take 60, o.kind = 0 ∧ o.at_ = i ∧ x = o.text) (ht : l.length ≤ t ∨ 60 ≤ t) : False := by
  rcases h with h | ⟨h1, h2⟩
  · cases h
  · rcases hk with hk | ⟨o, ho, k0, k1, k2⟩
    · exact h1 hk
    · obtain ⟨t', ht', e⟩ := List.getElem_of_mem ho
      rw [List.length_take] at ht'
      have hl : t' < l.length := by omega
      have := h2 t' (by omega)
      rw [hit_is l x i t' hl] at this
      rw [List.getElem_take] at e
      rw [e] at this
      simp [k0, k1, k2] at this

end Go.Proofs.Ytfkonndbgmmckaa
