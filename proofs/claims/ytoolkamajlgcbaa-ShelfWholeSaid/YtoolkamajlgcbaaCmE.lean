/- CmE: a page's bytes, read back. -/
import Derived.Test.YtoolkamajlgcbaaCmQ
set_option linter.unusedVariables false
set_option linter.unusedSimpArgs false
namespace Go.Proofs.Ytoolkamajlgcbaa
open Go.RowKit

theorem byN_list (b : ByteArray) (i : Nat) : byN b i = (b.data.toList.getD i 0).toNat := by
  unfold byN
  split
  · rename_i h
    have h2 : i < b.data.toList.length := by rw [Array.length_toList]; exact h
    rw [List.getD_eq_getElem?_getD, List.getElem?_eq_getElem h2]
    rfl
  · rename_i h
    have h2 : b.data.toList.length ≤ i := by rw [Array.length_toList]; exact Nat.le_of_not_lt h
    rw [List.getD_eq_getElem?_getD, List.getElem?_eq_none h2]
    rfl
theorem pgB_list (n : Nat) (l : PL) : (pgB n l).data.toList = pgL n l := rfl
theorem u8_two {n : Nat} (h : n < 65536) : (UInt8.ofNat (n / 256)).toNat * 256 + (UInt8.ofNat n).toNat = n := by
  simp
  omega
theorem u8_one {n : Nat} (h : n < 256) : (UInt8.ofNat n).toNat = n := by
  simp
  omega
theorem two_next {n : Nat} {l : PL} (h : n < 65536) : twoN (pgB n l) 0 = n := by
  have e := u8_two h
  unfold twoN
  rw [byN_list, byN_list, pgB_list]
  unfold pgL headB
  simp only [List.cons_append, List.getD_cons_zero, List.getD_cons_succ, Nat.zero_add]
  first | exact e | omega
theorem two_count {n : Nat} {l : PL} (h : l.length < 65536) : twoN (pgB n l) 2 = l.length := by
  have e := u8_two h
  unfold twoN
  rw [byN_list, byN_list, pgB_list]
  unfold pgL headB
  simp only [List.cons_append, List.getD_cons_zero, List.getD_cons_succ, Nat.zero_add]
  first | exact e | omega
theorem ba_of {a : ByteArray} {l : List UInt8} (h : a.data.toList = l) : a = ⟨l.toArray⟩ := by
  cases a
  congr 1
  exact Array.ext' (by simpa using h)
/-- A part of bytes, by lists. -/
theorem extract_mid {b : ByteArray} {x y z : List UInt8} (h : b.data.toList = x ++ (y ++ z)) {i j : Nat} (hi : i = x.length) (hj : j = x.length + y.length) : (b.extract i j).data.toList = y := by
  subst hi hj
  rw [ByteArray.data_extract, Array.toList_extract, h]
  simp [List.extract]
theorem entF_back {b : ByteArray} : ∀ (r acc : PL) (i : Nat) (x z : List UInt8), b.data.toList = x ++ (entsB r ++ z) → i = x.length → (∀ p ∈ r, EntOK p) → entF b r.length i acc = some (acc ++ r)
  | [], acc, i, x, z, _, _, _ => by rw [List.length_nil, entF, List.append_nil]
  | p :: r, acc, i, x, z, h, hi, hok => by
    obtain ⟨k1, k2, k3⟩ := hok p (List.mem_cons_self ..)
    have hsz : b.size = b.data.toList.length := Array.length_toList.symm
    have e0 : entsB (p :: r) = entB p ++ entsB r := rfl
    have hlen : b.size = x.length + (szP p + (entsB r).length + z.length) := by
      rw [hsz, h, e0]
      simp only [List.length_append, entB_len]
    have hpz : szP p = 3 + p.1.size + p.2.size := rfl
    have h' : b.data.toList = x ++ ([UInt8.ofNat p.1.size, UInt8.ofNat (p.2.size / 256), UInt8.ofNat p.2.size] ++ (p.1.data.toList ++ (p.2.data.toList ++ (entsB r ++ z)))) := by
      rw [h, e0]
      unfold entB
      simp only [List.append_assoc]
    have g : ∀ j, b.data.toList.getD (x.length + j) 0 = ([UInt8.ofNat p.1.size, UInt8.ofNat (p.2.size / 256), UInt8.ofNat p.2.size] ++ (p.1.data.toList ++ (p.2.data.toList ++ (entsB r ++ z)))).getD j 0 := fun j => by
      rw [h', List.getD_eq_getElem?_getD, List.getElem?_append_right (by omega), List.getD_eq_getElem?_getD]
      congr 2
      omega
    have b0 : byN b i = p.1.size := by
      rw [byN_list, hi]
      have := g 0
      rw [Nat.add_zero] at this
      rw [this]
      exact u8_one (by omega)
    have b1 : twoN b (i + 1) = p.2.size := by
      unfold twoN
      rw [byN_list, byN_list, hi, show x.length + 1 + 1 = x.length + 2 by omega, g 1, g 2]
      have := u8_two (n := p.2.size) (by omega)
      simp only [List.cons_append, List.getD_cons_zero, List.getD_cons_succ]
      first | exact this | omega
    have e1 : b.extract (i + 3) (i + 3 + p.1.size) = p.1 := by
      have := extract_mid (b := b) (x := x ++ [UInt8.ofNat p.1.size, UInt8.ofNat (p.2.size / 256), UInt8.ofNat p.2.size]) (y := p.1.data.toList) (z := p.2.data.toList ++ (entsB r ++ z)) (by rw [h']; simp only [List.append_assoc]) (i := i + 3) (j := i + 3 + p.1.size) (by rw [hi]; simp) (by rw [hi]; simp [show p.1.data.size = p.1.size from rfl])
      exact ba_eq this
    have e2 : b.extract (i + 3 + p.1.size) (i + 3 + p.1.size + p.2.size) = p.2 := by
      have := extract_mid (b := b) (x := x ++ [UInt8.ofNat p.1.size, UInt8.ofNat (p.2.size / 256), UInt8.ofNat p.2.size] ++ p.1.data.toList) (y := p.2.data.toList) (z := entsB r ++ z) (by rw [h']; simp only [List.append_assoc]) (i := i + 3 + p.1.size) (j := i + 3 + p.1.size + p.2.size) (by rw [hi]; simp [show p.1.data.size = p.1.size from rfl]; omega) (by rw [hi]; simp [show p.1.data.size = p.1.size from rfl, show p.2.data.size = p.2.size from rfl]; omega)
      exact ba_eq this
    rw [List.length_cons, entF, if_neg (by omega), b0, b1, if_neg (by omega), e1, e2]
    rw [if_pos (by unfold mayB; simp; omega)]
    have := entF_back (b := b) r (acc ++ [p]) (i + 3 + p.1.size + p.2.size) (x ++ entB p) z (by rw [h, e0]; simp only [List.append_assoc]) (by rw [List.length_append, entB_len, hi]; omega) (fun q hq => hok q (List.mem_cons_of_mem _ hq))
    rw [this, List.append_assoc]
    rfl
theorem entA_back {n : Nat} {l : PL} (hok : ∀ p ∈ l, EntOK p) (hz : szL l ≤ 1020) : entA (pgB n l) = some l := by
  have h3 := (szL_len l).1
  unfold entA
  rw [two_count (by omega)]
  have := entF_back (b := pgB n l) l [] 4 (headB n l.length) (List.replicate (1020 - szL l) 0) (by rw [pgB_list]; unfold pgL; rw [List.append_assoc]) rfl hok
  rw [this, List.nil_append]
end Go.Proofs.Ytoolkamajlgcbaa
