/- NumP: numbers as bytes, in plain words: laid and read back; an area's bytes. -/
import Derived.Test.YthloinmnojlleaaExtM
set_option linter.unusedVariables false
set_option linter.unusedSimpArgs false
namespace Go.Proofs.Ythloinmnojlleaa
open Go.RowKit

/-- A number's bytes. -/
def putN (n : Nat) : List UInt8 := if n < 128 then [UInt8.ofNat n] else UInt8.ofNat (n % 128 + 128) :: putN (n / 128)
termination_by n
decreasing_by omega
theorem putN_small {n : Nat} (h : n < 128) : putN n = [UInt8.ofNat n] := by rw [putN, if_pos h]
theorem putN_big {n : Nat} (h : ¬ n < 128) : putN n = UInt8.ofNat (n % 128 + 128) :: putN (n / 128) := by rw [putN, if_neg h]
theorem putN_len : ∀ (k n : Nat), n < 128 ^ k → 1 ≤ k → (putN n).length ≤ k
  | 0, _, _, h => by omega
  | 1, n, h, _ => by rw [putN_small (by simpa using h)]; simp
  | k + 2, n, h, _ => by
    by_cases hn : n < 128
    · rw [putN_small hn]; simp
    · rw [putN_big hn, List.length_cons]
      have := putN_len (k + 1) (n / 128) (by rw [Nat.div_lt_iff_lt_mul (by decide)]; rw [Nat.pow_succ] at h; exact h) (by omega)
      omega
theorem putN_pos (n : Nat) : 1 ≤ (putN n).length := by
  by_cases hn : n < 128
  · rw [putN_small hn]; simp
  · rw [putN_big hn]; simp
/-- A number read: behind i bytes of it. -/
def getR : Nat → List UInt8 → Option (Nat × List UInt8)
  | _, [] => none
  | i, x :: r => if 10 ≤ i then none else if x.toNat < 128 then (if (x.toNat = 0 ∧ 0 < i) ∨ (i = 9 ∧ 1 < x.toNat) then none else some (x.toNat, r)) else (getR (i + 1) r).map fun y => (x.toNat - 128 + 128 * y.1, y.2)
theorem getR_ten : ∀ l, getR 10 l = none
  | [] => rfl
  | x :: r => rfl
theorem ofNat_toNat {n : Nat} (h : n < 256) : (UInt8.ofNat n).toNat = n := by simp [Nat.mod_eq_of_lt h]
theorem getR_putN : ∀ (k n i : Nat) (r : List UInt8), n < 128 ^ k → 1 ≤ k → i + k ≤ 9 → (0 < i → n ≠ 0) → getR i (putN n ++ r) = some (n, r)
  | 0, _, _, _, _, h, _, _ => by omega
  | k + 1, n, i, r, h, _, hi, h0 => by
    by_cases hn : n < 128
    · rw [putN_small hn, List.singleton_append, getR, ofNat_toNat (by omega), if_neg (by omega), if_pos hn, if_neg (by omega)]
    · rw [putN_big hn, List.cons_append, getR, ofNat_toNat (by omega), if_neg (by omega), if_neg (by omega)]
      have h1 : n / 128 < 128 ^ k := by rw [Nat.div_lt_iff_lt_mul (by decide)]; rw [Nat.pow_succ] at h; exact h
      have hk : 1 ≤ k := by
        rcases k with _ | k
        · simp at h1; omega
        · omega
      rw [getR_putN k (n / 128) (i + 1) r h1 hk (by omega) (by omega)]
      simp only [Option.map_some, Option.some.injEq, Prod.mk.injEq, and_true]
      omega
theorem putN_getR : ∀ (l : List UInt8) (i n : Nat) (r : List UInt8), getR i l = some (n, r) → (0 < i → n ≠ 0) ∧ l = putN n ++ r
  | [], i, n, r, h => by simp [getR] at h
  | x :: l, i, n, r, h => by
    rw [getR] at h
    split at h
    · cases h
    · split at h
      · split at h
        · cases h
        · rename_i h1 h2 h3
          injection h with h
          injection h with e1 e2
          subst e1 e2
          refine ⟨fun hi e => h3 (.inl ⟨e, hi⟩), ?_⟩
          rw [putN_small h2]
          simp
      · rename_i h1 h2
        cases hr : getR (i + 1) l with
        | none => rw [hr] at h; simp at h
        | some y =>
          obtain ⟨m, r'⟩ := y
          rw [hr] at h
          simp only [Option.map_some, Option.some.injEq, Prod.mk.injEq] at h
          obtain ⟨e1, rfl⟩ := h
          obtain ⟨hm, hl⟩ := putN_getR l (i + 1) m r' hr
          have := hm (by omega)
          have hx := x.toNat_lt
          refine ⟨fun _ => by omega, ?_⟩
          rw [putN_big (by omega), hl, List.cons_append, show n / 128 = m by omega, show n % 128 + 128 = x.toNat by omega]
          simp
/-- Two numbers, each not above the greatest area. -/
def get2 (l : List UInt8) : Option (Nat × Nat × List UInt8) :=
  match getR 0 l with
  | none => none
  | some (x, r) => if 1048576 < x then none else match getR 0 r with
    | none => none
    | some (y, r') => if 1048576 < y then none else some (x, y, r')
theorem get2_put {x y : Nat} (hx : x ≤ 1048576) (hy : y ≤ 1048576) (r : List UInt8) : get2 (putN x ++ (putN y ++ r)) = some (x, y, r) := by
  unfold get2
  rw [getR_putN 9 x 0 _ (by omega) (by decide) (by decide) (by simp)]
  simp only
  rw [if_neg (by omega), getR_putN 9 y 0 _ (by omega) (by decide) (by decide) (by simp)]
  simp only
  rw [if_neg (by omega)]
theorem put_get2 {l r : List UInt8} {x y : Nat} (h : get2 l = some (x, y, r)) : l = putN x ++ (putN y ++ r) ∧ x ≤ 1048576 ∧ y ≤ 1048576 := by
  unfold get2 at h
  cases h1 : getR 0 l with
  | none => rw [h1] at h; cases h
  | some p =>
    obtain ⟨a, r1⟩ := p
    rw [h1] at h
    simp only at h
    split at h
    · cases h
    · cases h2 : getR 0 r1 with
      | none => rw [h2] at h; cases h
      | some q =>
        obtain ⟨b, r2⟩ := q
        rw [h2] at h
        simp only at h
        split at h
        · cases h
        · injection h with h
          injection h with e1 h
          injection h with e2 e3
          subst e1 e2 e3
          rw [(putN_getR l 0 _ _ h1).2, (putN_getR r1 0 _ _ h2).2]
          exact ⟨rfl, by omega, by omega⟩

/-- The bytes of holes, from a place on. -/
def encH : Nat → List (Nat × Nat) → List UInt8
  | _, [] => []
  | e, h :: l => putN (h.1 - e) ++ (putN h.2 ++ encH (h.1 + h.2) l)
/-- An area's bytes. -/
def Ar.enc (a : Ar) : List UInt8 := putN a.size ++ (putN a.holes.length ++ encH 0 a.holes)
/-- Holes read: so many, from a place on. -/
def decH (size : Nat) : Nat → Bool → Nat → List UInt8 → Option (List (Nat × Nat) × List UInt8)
  | 0, _, _, l => some ([], l)
  | k + 1, first, e, l => match get2 l with
    | none => none
    | some (x, y, r) => if y < 1 ∨ (first = false ∧ x < 1) ∨ size < e + (x + y) then none else (decH size k false (e + x + y) r).map fun z => ((e + x, y) :: z.1, z.2)
def decA (l : List UInt8) : Option (Nat × List (Nat × Nat)) :=
  match get2 l with
  | none => none
  | some (n, k, r) => if n < 1 then none else match decH n k true 0 r with
    | none => none
    | some (L, r') => if r' = [] then some (n, L) else none
theorem decH_enc {N : Nat} (hN : N ≤ 1048576) : ∀ (L : List (Nat × Nat)) (first : Bool) (e : Nat) (r : List UInt8), Lies N (if first then e else e + 1) L → decH N L.length first e (encH e L ++ r) = some (L, r)
  | [], first, e, r, _ => rfl
  | h :: L, first, e, r, hl => by
    obtain ⟨h1, h2, h3, h4⟩ := hl
    have he : e ≤ h.1 := by cases first <;> simp at h1 <;> omega
    rw [List.length_cons, decH, encH]
    rw [show (putN (h.1 - e) ++ (putN h.2 ++ encH (h.1 + h.2) L)) ++ r = putN (h.1 - e) ++ (putN h.2 ++ (encH (h.1 + h.2) L ++ r)) by simp [List.append_assoc]]
    rw [get2_put (by omega) (by omega)]
    simp only
    rw [if_neg (by
      rintro (h | ⟨h, h'⟩ | h)
      · omega
      · subst h; simp at h1; omega
      · omega)]
    rw [show e + (h.1 - e) + h.2 = h.1 + h.2 by omega, show e + (h.1 - e) = h.1 by omega]
    rw [decH_enc hN L false (h.1 + h.2) r (by simpa using h4)]
    simp
theorem enc_decH {N : Nat} : ∀ (k : Nat) (first : Bool) (e : Nat) (l : List UInt8) (L : List (Nat × Nat)) (r : List UInt8), decH N k first e l = some (L, r) → L.length = k ∧ l = encH e L ++ r ∧ Lies N (if first then e else e + 1) L
  | 0, first, e, l, L, r, h => by
    simp only [decH, Option.some.injEq, Prod.mk.injEq] at h
    obtain ⟨rfl, rfl⟩ := h
    exact ⟨rfl, rfl, trivial⟩
  | k + 1, first, e, l, L, r, h => by
    rw [decH] at h
    cases hg : get2 l with
    | none => rw [hg] at h; cases h
    | some p =>
      obtain ⟨x, y, r1⟩ := p
      rw [hg] at h
      simp only at h
      split at h
      · cases h
      · rename_i hn
        cases hd : decH N k false (e + x + y) r1 with
        | none => rw [hd] at h; simp at h
        | some q =>
          obtain ⟨L1, r2⟩ := q
          rw [hd] at h
          simp only [Option.map_some, Option.some.injEq, Prod.mk.injEq] at h
          obtain ⟨rfl, rfl⟩ := h
          obtain ⟨a1, a2, a3⟩ := enc_decH k false (e + x + y) r1 L1 r2 hd
          obtain ⟨b1, _, _⟩ := put_get2 hg
          refine ⟨by rw [List.length_cons, a1], ?_, ?_⟩
          · rw [b1, a2, encH, show e + x - e = x by omega]
            simp [List.append_assoc]
          · refine ⟨?_, by omega, by simp only; omega, by simpa [Nat.add_assoc] using a3⟩
            cases first
            · have hx : ¬ x < 1 := fun hx => hn (.inr (.inl ⟨rfl, hx⟩))
              simp
              omega
            · simp
theorem dec_enc {a : Ar} (h : a.Ok) : decA a.enc = some (a.size, a.holes) := by
  have h1 := h.pos; have h2 := h.most
  have h3 := lies_len h.lies (by omega)
  unfold decA Ar.enc
  rw [get2_put h2 (by
    rcases hh : a.holes with _ | ⟨x, L⟩
    · simp
    · have hl := h.lies
      rw [hh] at hl
      have := lies_len hl.2.2.2 (by have := hl.2.2.1; omega)
      have := hl.2.1
      simp only [List.length_cons]
      omega)]
  simp only
  rw [if_neg (by omega)]
  have := decH_enc h2 a.holes true 0 [] (by simpa using h.lies)
  rw [List.append_nil] at this
  rw [this]
  simp
theorem enc_dec {l : List UInt8} {n : Nat} {L : List (Nat × Nat)} (h : decA l = some (n, L)) : l = Ar.enc ⟨n, L, 0⟩ ∧ Ar.Ok ⟨n, L, 0⟩ := by
  unfold decA at h
  cases hg : get2 l with
  | none => rw [hg] at h; cases h
  | some p =>
    obtain ⟨x, k, r⟩ := p
    rw [hg] at h
    simp only at h
    split at h
    · cases h
    · rename_i hn
      cases hd : decH x k true 0 r with
      | none => rw [hd] at h; cases h
      | some q =>
        obtain ⟨L1, r1⟩ := q
        rw [hd] at h
        simp only at h
        split at h
        · rename_i hr
          subst hr
          injection h with h
          injection h with e1 e2
          subst e1 e2
          obtain ⟨a1, a2, a3⟩ := enc_decH k true 0 r L1 [] hd
          obtain ⟨b1, b2, b3⟩ := put_get2 hg
          refine ⟨?_, (show 1 ≤ x by omega), b2, by simpa using a3, Nat.zero_le _⟩
          rw [b1, a2, List.append_nil]
          unfold Ar.enc
          rw [a1]
        · cases h
/-- Bytes that go on are read as they were. -/
theorem getR_app : ∀ (l : List UInt8) (i n : Nat) (r s : List UInt8), getR i l = some (n, r) → getR i (l ++ s) = some (n, r ++ s)
  | [], i, n, r, s, h => by simp [getR] at h
  | x :: l, i, n, r, s, h => by
    rw [getR] at h
    rw [List.cons_append, getR]
    split at h
    · cases h
    · rename_i h1
      rw [if_neg h1]
      split at h
      · rename_i h2
        rw [if_pos h2]
        split at h
        · cases h
        · rename_i h3
          rw [if_neg h3]
          injection h with h
          injection h with e1 e2
          subst e1 e2
          rfl
      · rename_i h2
        rw [if_neg h2]
        cases hr : getR (i + 1) l with
        | none => rw [hr] at h; simp at h
        | some y =>
          obtain ⟨m, r'⟩ := y
          rw [hr] at h
          simp only [Option.map_some, Option.some.injEq, Prod.mk.injEq] at h
          obtain ⟨e1, rfl⟩ := h
          rw [getR_app l (i + 1) m r' s hr]
          simp [e1]
theorem get2_app {l r s : List UInt8} {x y : Nat} (h : get2 l = some (x, y, r)) : get2 (l ++ s) = some (x, y, r ++ s) := by
  obtain ⟨h1, h2, h3⟩ := put_get2 h
  rw [h1, show (putN x ++ (putN y ++ r)) ++ s = putN x ++ (putN y ++ (r ++ s)) by simp [List.append_assoc]]
  exact get2_put h2 h3 _
theorem decH_app {N : Nat} : ∀ (k : Nat) (first : Bool) (e : Nat) (l : List UInt8) (L : List (Nat × Nat)) (r s : List UInt8), decH N k first e l = some (L, r) → decH N k first e (l ++ s) = some (L, r ++ s)
  | 0, first, e, l, L, r, s, h => by
    simp only [decH, Option.some.injEq, Prod.mk.injEq] at h ⊢
    obtain ⟨rfl, rfl⟩ := h
    exact ⟨rfl, rfl⟩
  | k + 1, first, e, l, L, r, s, h => by
    rw [decH] at h ⊢
    cases hg : get2 l with
    | none => rw [hg] at h; cases h
    | some p =>
      obtain ⟨x, y, r1⟩ := p
      rw [hg] at h
      rw [get2_app hg]
      simp only at h ⊢
      split at h
      · cases h
      · rename_i hn
        rw [if_neg hn]
        cases hd : decH N k false (e + x + y) r1 with
        | none => rw [hd] at h; simp at h
        | some q =>
          obtain ⟨L1, r2⟩ := q
          rw [hd] at h
          simp only [Option.map_some, Option.some.injEq, Prod.mk.injEq] at h
          obtain ⟨rfl, rfl⟩ := h
          rw [decH_app k false _ r1 L1 _ s hd]
          simp
/-- Bytes cut short are none. -/
theorem dec_short {a : Ar} (h : a.Ok) {l s : List UInt8} (he : a.enc = l ++ s) (hs : s ≠ []) : decA l = none := by
  cases hd : decA l with
  | none => rfl
  | some p =>
    exfalso
    obtain ⟨n, L⟩ := p
    unfold decA at hd
    cases hg : get2 l with
    | none => rw [hg] at hd; cases hd
    | some p =>
      obtain ⟨x, k, r⟩ := p
      rw [hg] at hd
      simp only at hd
      split at hd
      · cases hd
      · rename_i hn
        cases hdh : decH x k true 0 r with
        | none => rw [hdh] at hd; cases hd
        | some q =>
          obtain ⟨L1, r1⟩ := q
          rw [hdh] at hd
          simp only at hd
          split at hd
          · rename_i hr
            subst hr
            have := dec_enc h
            rw [he] at this
            unfold decA at this
            rw [get2_app hg] at this
            simp only at this
            rw [if_neg hn, decH_app _ _ _ _ _ _ s hdh] at this
            simp only [List.nil_append] at this
            rw [if_neg hs] at this
            cases this
          · cases hd
end Go.Proofs.Ythloinmnojlleaa
