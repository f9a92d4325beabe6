/- JwM: what a mark tells: the pages that it was made of. In plain words. -/
import Derived.Test.YtpaabfadniakoaaJnU
set_option linter.unusedVariables false
set_option linter.unusedSimpArgs false
namespace Go.Proofs.Ytpaabfadniakoaa
open Go.RowKit

/-- The j-th bit of the byte at b. -/
def bitL (m : List UInt8) (b j : Nat) : Bool := (m.getD b 0).toNat.testBit j
theorem told_bitL (m : ByteArray) (i : Nat) : told m i = bitL m.data.toList (i / 8) (i % 8) := by
  unfold told bitL
  rw [Nat.testBit_eq_decide_div_mod_eq]
  rfl
theorem pow_u8 {r : Nat} (h : r < 8) : (UInt8.ofNat (2 ^ r)).toNat = 2 ^ r := by
  match r, h with
  | 0, _ => rfl
  | 1, _ => rfl
  | 2, _ => rfl
  | 3, _ => rfl
  | 4, _ => rfl
  | 5, _ => rfl
  | 6, _ => rfl
  | 7, _ => rfl
theorem bit_set {m : List UInt8} {c : Nat} (hc : c / 8 < m.length) (i : Nat) : bitL (m.set (c / 8) (m.getD (c / 8) 0 ||| UInt8.ofNat (2 ^ (c % 8)))) (i / 8) (i % 8) = (bitL m (i / 8) (i % 8) || decide (c = i)) := by
  unfold bitL
  by_cases e : c / 8 = i / 8
  · have g : (m.set (c / 8) (m.getD (c / 8) 0 ||| UInt8.ofNat (2 ^ (c % 8)))).getD (i / 8) 0 = m.getD (c / 8) 0 ||| UInt8.ofNat (2 ^ (c % 8)) := by
      rw [← e, List.getD_eq_getElem?_getD, List.getElem?_set_self hc]
      rfl
    rw [g, UInt8.toNat_or, Nat.testBit_or, pow_u8 (Nat.mod_lt _ (by decide)), Nat.testBit_two_pow, e]
    congr 1
    by_cases h : c % 8 = i % 8
    · have : c = i := by omega
      simp [h, this]
    · have : c ≠ i := fun x => h (by rw [x])
      simp [h, this]
  · have g : (m.set (c / 8) (m.getD (c / 8) 0 ||| UInt8.ofNat (2 ^ (c % 8)))).getD (i / 8) 0 = m.getD (i / 8) 0 := by
      rw [List.getD_eq_getElem?_getD, List.getElem?_set_ne e, ← List.getD_eq_getElem?_getD]
    have : c ≠ i := fun x => e (by rw [x])
    rw [g]
    simp [this]
theorem told_fold : ∀ (l : List Chg) (m : List UInt8) (i : Nat), (∀ c ∈ l, c.1 / 8 < m.length) →
    bitL (l.foldl (fun m c => m.set (c.1 / 8) (m.getD (c.1 / 8) 0 ||| UInt8.ofNat (2 ^ (c.1 % 8)))) m) (i / 8) (i % 8) = (bitL m (i / 8) (i % 8) || l.any (fun c => decide (c.1 = i)))
  | [], m, i, _ => by simp
  | c :: l, m, i, h => by
    rw [List.foldl_cons, told_fold l _ i (fun x hx => by rw [List.length_set]; exact h x (List.mem_cons_of_mem _ hx)), bit_set (h c (List.mem_cons_self ..)), List.any_cons, Bool.or_assoc]
theorem told_mk {P : Nat} {M : List Chg} (hP : P ≤ 128) (hM : ∀ c ∈ M, c.1 < P) (i : Nat) : told (mkB M) i = M.any (fun c => decide (c.1 = i)) := by
  rw [told_bitL]
  show bitL (mkK M) (i / 8) (i % 8) = _
  unfold mkK
  rw [told_fold _ _ _ (fun c hc => by have := hM c hc; rw [List.length_replicate]; omega)]
  have : bitL (List.replicate 256 0) (i / 8) (i % 8) = false := by
    unfold bitL
    rw [List.getD_eq_getElem?_getD, List.getElem?_replicate]
    split <;> simp
  rw [this, Bool.false_or]
end Go.Proofs.Ytpaabfadniakoaa
