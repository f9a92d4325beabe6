/- CmQ: plain laws of a commit that the power failed amid, and of the opening behind it. -/
import Derived.Test.YtoolkamajlgcbaaCmD
set_option linter.unusedVariables false
set_option linter.unusedSimpArgs false
namespace Go.Proofs.Ytoolkamajlgcbaa
open Go.RowKit

theorem dup_no {l : List (Int × ByteArray)} {k : Nat} (hk : k < l.length) (hd : dupK l k = false) (h : ∀ j (hj : j < k), l[j].1 ≠ l[k].1) : dupK l (k + 1) = false := by
  have hg : l.getD k (0, ByteArray.empty) = l[k] := by rw [List.getD_eq_getElem?_getD, List.getElem?_eq_getElem hk]; rfl
  rw [dupK, hg, hd, Bool.false_or, List.any_eq_false]
  intro x hx
  rw [List.mem_take_iff_getElem] at hx
  obtain ⟨j, hj, rfl⟩ := hx
  have := h j (by omega)
  simpa using this
theorem dup_pair {l : List (Int × ByteArray)} : ∀ {n : Nat}, n ≤ l.length → dupK l n = false → ∀ i j (hi : i < j) (hj : j < n) (h1 : j < l.length), l[i].1 ≠ l[j].1
  | 0, _, _, i, j, _, hj, _ => absurd hj (Nat.not_lt_zero _)
  | n + 1, hn, hd, i, j, hi, hj, h1 => by
    rw [dupK, Bool.or_eq_false_iff] at hd
    obtain ⟨h2, h3⟩ := hd
    by_cases e : j = n
    · subst e
      have hg : l.getD j (0, ByteArray.empty) = l[j] := by rw [List.getD_eq_getElem?_getD, List.getElem?_eq_getElem h1]; rfl
      rw [hg, List.any_eq_false] at h3
      have := h3 l[i] (by rw [List.mem_take_iff_getElem]; exact ⟨i, by omega, rfl⟩)
      simpa using this
    · exact dup_pair (by omega) h2 i j hi (by omega) h1
theorem pages_pair {l : List (Int × ByteArray)} (h : dupK l l.length = false) : l.Pairwise (fun a b => a.1 ≠ b.1) :=
  List.pairwise_iff_getElem.2 (fun i j hi hj hij => dup_pair (Nat.le_refl _) h i j hij hj hj)
def low (c : Int × ByteArray) : Chg := (c.1.toNat, c.2)
theorem low_upc (c : Chg) : low (upc c) = c := by unfold low upc; simp
theorem low_map (M : List Chg) : (M.map upc).map low = M := by rw [List.map_map]; exact (List.map_congr_left (fun c _ => low_upc c)).trans (List.map_id M)
theorem sorted_one {l1 l2 : List (Int × ByteArray)} {M1 M2 : List Chg} (h1 : Ord M1) (h2 : Ord M2) (p1 : (M1.map upc).Perm l1) (p2 : (M2.map upc).Perm l2) (hp : l1.Perm l2) (hd : dupK l1 l1.length = false) : M1 = M2 := by
  have pm : M1.Perm M2 := by
    have := (p1.trans (hp.trans p2.symm)).map low
    rwa [low_map, low_map] at this
  have hpw : M1.Pairwise (fun a b => a.1 ≠ b.1) := by
    have hs : ∀ {a b : Int × ByteArray}, a.1 ≠ b.1 → b.1 ≠ a.1 := fun h => h.symm
    have := (p1.symm.pairwise_iff hs).1 (pages_pair hd)
    rw [List.pairwise_map] at this
    exact this.imp (fun h e => h (by unfold upc; simp only; omega))
  refine List.Perm.eq_of_pairwise (le := fun a b : Chg => a.1 ≤ b.1) (fun a b ha hb hab hba => ?_) h1 h2 pm
  have hb1 : b ∈ M1 := pm.mem_iff.2 hb
  obtain ⟨i, hi, rfl⟩ := List.getElem_of_mem ha
  obtain ⟨j, hj, rfl⟩ := List.getElem_of_mem hb1
  have hw := List.pairwise_iff_getElem.1 hpw
  rcases Nat.lt_trichotomy i j with h | h | h
  · exact absurd (Nat.le_antisymm hab hba) (hw i j hi hj h)
  · subst h; rfl
  · exact absurd (Nat.le_antisymm hba hab) (hw j i hj hi h)
theorem dup_false {l : List (Int × ByteArray)} (h : l.Pairwise (fun a b => a.1 ≠ b.1)) : ∀ n, n ≤ l.length → dupK l n = false
  | 0, _ => rfl
  | n + 1, hn => dup_no (by omega) (dup_false h n (by omega)) (fun j hj => List.pairwise_iff_getElem.1 h j n (by omega) (by omega) hj)
theorem why_zero {P : Nat} {l : List (Int × ByteArray)} (h1 : ∀ x ∈ l, 0 ≤ x.1 ∧ x.1 < (P : Int) ∧ x.2.size = 1024) (h2 : l.Pairwise (fun a b => a.1 ≠ b.1)) : whyE P l = 0 := by
  have a := out_no (P := P) (l := l) (fun j hj => by have := h1 _ (List.getElem_mem hj); exact ⟨this.1, this.2.1⟩)
  have b := long_no (l := l) (fun j hj => (h1 _ (List.getElem_mem hj)).2.2)
  unfold whyE
  rw [a, dup_false h2 _ (Nat.le_refl _), b]
  rfl
/-- Whether changes may be is no matter of their order. -/
theorem why_perm {P : Nat} {l1 l2 : List (Int × ByteArray)} (hp : l1.Perm l2) (h : whyE P l1 = 0) : whyE P l2 = 0 :=
  why_zero (fun x hx => why_each h x (hp.mem_iff.2 hx)) ((hp.pairwise_iff (fun {a b} h => h.symm)).1 (pages_pair (why_ok h).2.1))
/-- The j-th bit of the byte at b. -/
def bitL (m : List UInt8) (b j : Nat) : Bool := (m.getD b 0).toNat.testBit j
theorem told_bitL (m : ByteArray) (i : Nat) : told m i = bitL m.data.toList (i / 8) (i % 8) := by
  unfold told bitL
  rw [Nat.testBit_eq_decide_div_mod_eq]
  rfl
theorem pow_u8 {r : Nat} (h : r < 8) : (UInt8.ofNat (2 ^ r)).toNat = 2 ^ r := by
  match r, h with
  | 0, _ => rfl
  | 1, _ => rfl
  | 2, _ => rfl
  | 3, _ => rfl
  | 4, _ => rfl
  | 5, _ => rfl
  | 6, _ => rfl
  | 7, _ => rfl
theorem bit_set {m : List UInt8} {c : Nat} (hc : c / 8 < m.length) (i : Nat) : bitL (m.set (c / 8) (m.getD (c / 8) 0 ||| UInt8.ofNat (2 ^ (c % 8)))) (i / 8) (i % 8) = (bitL m (i / 8) (i % 8) || decide (c = i)) := by
  unfold bitL
  by_cases e : c / 8 = i / 8
  · have g : (m.set (c / 8) (m.getD (c / 8) 0 ||| UInt8.ofNat (2 ^ (c % 8)))).getD (i / 8) 0 = m.getD (c / 8) 0 ||| UInt8.ofNat (2 ^ (c % 8)) := by
      rw [← e, List.getD_eq_getElem?_getD, List.getElem?_set_self hc]
      rfl
    rw [g, UInt8.toNat_or, Nat.testBit_or, pow_u8 (Nat.mod_lt _ (by decide)), Nat.testBit_two_pow, e]
    congr 1
    by_cases h : c % 8 = i % 8
    · have : c = i := by omega
      simp [h, this]
    · have : c ≠ i := fun x => h (by rw [x])
      simp [h, this]
  · have g : (m.set (c / 8) (m.getD (c / 8) 0 ||| UInt8.ofNat (2 ^ (c % 8)))).getD (i / 8) 0 = m.getD (i / 8) 0 := by
      rw [List.getD_eq_getElem?_getD, List.getElem?_set_ne e, ← List.getD_eq_getElem?_getD]
    have : c ≠ i := fun x => e (by rw [x])
    rw [g]
    simp [this]
theorem told_fold : ∀ (l : List Chg) (m : List UInt8) (i : Nat), (∀ c ∈ l, c.1 / 8 < m.length) →
    bitL (l.foldl (fun m c => m.set (c.1 / 8) (m.getD (c.1 / 8) 0 ||| UInt8.ofNat (2 ^ (c.1 % 8)))) m) (i / 8) (i % 8) = (bitL m (i / 8) (i % 8) || l.any (fun c => decide (c.1 = i)))
  | [], m, i, _ => by simp
  | c :: l, m, i, h => by
    rw [List.foldl_cons, told_fold l _ i (fun x hx => by rw [List.length_set]; exact h x (List.mem_cons_of_mem _ hx)), bit_set (h c (List.mem_cons_self ..)), List.any_cons, Bool.or_assoc]
theorem told_mk {P : Nat} {M : List Chg} (hP : P ≤ 128) (hM : ∀ c ∈ M, c.1 < P) (i : Nat) : told (mkB M) i = M.any (fun c => decide (c.1 = i)) := by
  rw [told_bitL]
  show bitL (mkK M) (i / 8) (i % 8) = _
  unfold mkK
  rw [told_fold _ _ _ (fun c hc => by have := hM c hc; rw [List.length_replicate]; omega)]
  have : bitL (List.replicate 256 0) (i / 8) (i % 8) = false := by
    unfold bitL
    rw [List.getD_eq_getElem?_getD, List.getElem?_replicate]
    split <;> simp
  rw [this, Bool.false_or]
def sec (l : List ByteArray) (i : Nat) : ByteArray := l.getD i ByteArray.empty
/-- What a page's quarter has: the copy's where the mark tells it, else its own. -/
def valP (P : Nat) (l : List ByteArray) (i j : Nat) : ByteArray := if told (sec l 0) i = true then sec l (1 + 4 * i + j) else sec l (1 + 4 * (P + i) + j)
def VIs (P : Nat) (X : Nat → Nat → ByteArray) (l : List ByteArray) : Prop := ∀ i j, i < P → j < 4 → valP P l i j = X i j
abbrev Sst := List ByteArray × List Stp
def Pre (G : Sst → Prop) (s : Sst) (L : List Stp) : Prop := ∀ k, k ≤ L.length → G (exs s (L.take k))
theorem pre_append {G : Sst → Prop} {s : Sst} {A B : List Stp} (h1 : Pre G s A) (h2 : Pre G (exs s A) B) : Pre G s (A ++ B) := fun k hk => by
  rw [List.length_append] at hk
  by_cases h : k ≤ A.length
  · rw [List.take_append_of_le_length h]; exact h1 k h
  · rw [List.take_append, List.take_of_length_le (by omega), exs_append]
    exact h2 _ (by omega)
theorem pre_mono {G H : Sst → Prop} {s : Sst} {L : List Stp} (h : Pre G s L) (hg : ∀ t, G t → H t) : Pre H s L := fun k hk => hg _ (h k hk)
theorem pre_writes {G : Sst → Prop} {l : List ByteArray} {A : List Stp} (h0 : ∀ x ∈ A, 0 ≤ x.1) (h : ∀ W : List Stp, (∀ x ∈ W, x ∈ A) → G (l, W)) : Pre G (l, []) A := fun k hk => by
  have hm : ∀ x ∈ A.take k, x ∈ A := fun x hx => List.mem_of_mem_take hx
  rw [exs_writes l _ _ (fun x hx => h0 x (hm x hx)), List.nil_append]
  exact h _ hm
theorem pre_flush {G : Sst → Prop} {s : Sst} (h1 : G s) (h2 : G (Dk.settle (fun _ => true) 0 s.2 s.1, [])) : Pre G s [flushS] := fun k hk => by
  match k, hk with
  | 0, _ => exact h1
  | 1, _ => exact h2
/-- All that settles has these pages. -/
def GV (P : Nat) (X : Nat → Nat → ByteArray) (s : Sst) : Prop := ∀ p, VIs P X (Dk.settle p 0 s.2 s.1)
theorem gv_nil {P : Nat} {X : Nat → Nat → ByteArray} {l : List ByteArray} : GV P X (l, []) ↔ VIs P X l := ⟨fun h => h (fun _ => true), fun h _ => h⟩
theorem settle_keep (p : Nat → Bool) {ws : List Stp} {l : List ByteArray} {i : Nat} (hi : i < l.length) (h : ∀ w ∈ ws, w.1.toNat ≠ i) : sec (Dk.settle p 0 ws l) i = sec l i := by
  rcases settle_get p ws 0 l i hi with e | ⟨w, hw, e, _⟩
  · exact e
  · exact absurd e (h w hw)
theorem look_same {i : Int} {v : ByteArray} : ∀ (ws : List Stp) (s : ByteArray), (∀ w ∈ ws, w.1 = i → w.2 = v) → (s = v ∨ ∃ w ∈ ws, w.1 = i) → Dk.look i ws s = v
  | [], s, _, h => by
    rcases h with h | ⟨w, hw, _⟩
    · exact h
    · cases hw
  | w :: ws, s, hv, h => by
    rw [Dk.look]
    refine look_same ws _ (fun x hx => hv x (List.mem_cons_of_mem _ hx)) ?_
    by_cases e : w.1 = i
    · exact .inl (by rw [if_pos e]; exact hv w (List.mem_cons_self ..) e)
    · rw [if_neg e]
      rcases h with h | ⟨x, hx, ex⟩
      · exact .inl h
      · rcases List.mem_cons.1 hx with rfl | hx
        · exact absurd ex e
        · exact .inr ⟨x, hx, ex⟩
theorem flush_sec {ws : List Stp} {l : List ByteArray} {i : Nat} {v : ByteArray} (hi : i < l.length) (h0 : ∀ w ∈ ws, 0 ≤ w.1) (hv : ∀ w ∈ ws, w.1 = (i : Int) → w.2 = v) (h : ∃ w ∈ ws, w.1 = (i : Int)) : sec (Dk.settle (fun _ => true) 0 ws l) i = v := by
  unfold sec
  rw [settle_all _ ws 0 l i hi (fun _ _ _ => rfl) h0]
  exact look_same ws _ hv (.inr h)
/-- Writes that bring home what the mark tells. -/
structure Fin' (P : Nat) (l : List ByteArray) (B : List Stp) : Prop where
  each : ∀ x ∈ B, ∃ i j : Nat, i < P ∧ j < 4 ∧ told (sec l 0) i = true ∧ x = (((1 + 4 * (P + i) + j : Nat) : Int), sec l (1 + 4 * i + j))
  all : ∀ i j : Nat, i < P → j < 4 → told (sec l 0) i = true → ∃ x ∈ B, x.1 = ((1 + 4 * (P + i) + j : Nat) : Int)
theorem sec_set_ne {l : List ByteArray} {i k : Nat} (z : ByteArray) (h : i ≠ k) : sec (l.set i z) k = sec l k := by
  unfold sec
  rw [List.getD_eq_getElem?_getD, List.getElem?_set_ne h, ← List.getD_eq_getElem?_getD]
theorem sec_set_self {l : List ByteArray} {i : Nat} (z : ByteArray) (h : i < l.length) : sec (l.set i z) i = z := by
  unfold sec
  rw [List.getD_eq_getElem?_getD, List.getElem?_set_self h]
  rfl
theorem fin_low {P : Nat} {l : List ByteArray} {B W : List Stp} (hl : 8 * P + 1 ≤ l.length) (hB : Fin' P l B) (hW : ∀ x ∈ W, x ∈ B) (p : Nat → Bool) {k : Nat} (hk : k < 1 + 4 * P) : sec (Dk.settle p 0 W l) k = sec l k :=
  settle_keep p (by omega) (fun w hw e => by
    obtain ⟨i, j, _, _, _, rfl⟩ := hB.each w (hW w hw)
    simp only at e
    omega)
theorem fin_own {P : Nat} {l : List ByteArray} {B W : List Stp} (hl : 8 * P + 1 ≤ l.length) (hB : Fin' P l B) (hW : ∀ x ∈ W, x ∈ B) (p : Nat → Bool) {i j : Nat} (hi : i < P) (hj : j < 4) (ht : told (sec l 0) i = false) : sec (Dk.settle p 0 W l) (1 + 4 * (P + i) + j) = sec l (1 + 4 * (P + i) + j) :=
  settle_keep p (by omega) (fun w hw e => by
    obtain ⟨i', j', _, _, ht', rfl⟩ := hB.each w (hW w hw)
    simp only at e
    obtain rfl : i' = i := by omega
    rw [ht] at ht'
    exact absurd ht' (by decide))
theorem fin_val {P : Nat} {X : Nat → Nat → ByteArray} {l : List ByteArray} {B W : List Stp} (hl : 8 * P + 1 ≤ l.length) (hv : VIs P X l) (hB : Fin' P l B) (hW : ∀ x ∈ W, x ∈ B) : GV P X (l, W) := fun p i j hi hj => by
  rw [← hv i j hi hj]
  unfold valP
  rw [fin_low hl hB hW p (by omega)]
  by_cases ht : told (sec l 0) i = true
  · rw [if_pos ht, if_pos ht, fin_low hl hB hW p (by omega)]
  · rw [if_neg ht, if_neg ht, fin_own hl hB hW p hi hj (by simpa using ht)]
theorem fin_home {P : Nat} {l : List ByteArray} {B : List Stp} (hl : 8 * P + 1 ≤ l.length) (hB : Fin' P l B) {i j : Nat} (hi : i < P) (hj : j < 4) (ht : told (sec l 0) i = true) : sec (Dk.settle (fun _ => true) 0 B l) (1 + 4 * (P + i) + j) = sec l (1 + 4 * i + j) :=
  flush_sec (by omega) (fun w hw => by
    obtain ⟨i', j', _, _, _, rfl⟩ := hB.each w hw
    simp only
    omega) (fun w hw e => by
    obtain ⟨i', j', h1, h2, h3, rfl⟩ := hB.each w hw
    simp only at e ⊢
    obtain rfl : i' = i := by omega
    obtain rfl : j' = j := by omega
    rfl) (hB.all i j hi hj ht)
theorem settle_mark (p : Nat → Bool) (l : List ByteArray) (z : ByteArray) : Dk.settle p 0 [(0, z)] l = l ∨ Dk.settle p 0 [(0, z)] l = l.set 0 z := by
  show (if p 0 = true then l.set 0 z else l) = l ∨ (if p 0 = true then l.set 0 z else l) = l.set 0 z
  split
  · exact .inr rfl
  · exact .inl rfl
/-- A mark that is written: either way. -/
theorem pre_mark {G : List ByteArray → Prop} {l : List ByteArray} {z : ByteArray} (h1 : G l) (h2 : G (l.set 0 z)) : Pre (fun s => ∀ p, G (Dk.settle p 0 s.2 s.1)) (l, []) ([(0, z)] ++ [flushS]) := by
  have h0 : ∀ x ∈ ([(0, z)] : List Stp), 0 ≤ x.1 := fun x hx => by
    obtain rfl : x = (0, z) := by simpa using hx
    exact Int.le_refl _
  have hm : ∀ p, G (Dk.settle p 0 [(0, z)] l) := fun p => by
    rcases settle_mark p l z with e | e
    · rw [e]; exact h1
    · rw [e]; exact h2
  intro k hk
  match k, hk with
  | 0, _ => exact fun _ => h1
  | 1, _ => exact fun p => hm p
  | 2, _ => exact fun _ => h2
theorem fin_pre {P : Nat} {X : Nat → Nat → ByteArray} {l : List ByteArray} {B : List Stp} (hl : 8 * P + 1 ≤ l.length) (hv : VIs P X l) (hB : Fin' P l B) : Pre (GV P X) (l, []) (B ++ [flushS] ++ ([(0, Dk.sector0)] ++ [flushS])) := by
  have h0 : ∀ x ∈ B, 0 ≤ x.1 := fun x hx => by
    obtain ⟨i, j, _, _, _, rfl⟩ := hB.each x hx
    simp only
    omega
  have e1 : exs (l, []) B = (l, B) := by rw [exs_writes l B [] h0, List.nil_append]
  have hG := fin_val hl hv hB (fun x hx => hx)
  have hG1 : VIs P X (Dk.settle (fun _ => true) 0 B l) := hG _
  refine pre_append (pre_append (pre_writes h0 (fun W hW => fin_val hl hv hB hW)) ?_) ?_
  · rw [e1]
    exact pre_flush hG (gv_nil.2 hG1)
  · rw [exs_append, e1, exs_flush]
    refine pre_mark hG1 ?_
    intro i j hi hj
    have hl1 := Dk.settle_length (fun _ => true) B 0 l
    unfold valP
    have z0 : sec ((Dk.settle (fun _ => true) 0 B l).set 0 Dk.sector0) 0 = Dk.sector0 := sec_set_self _ (by omega)
    have z1 : sec ((Dk.settle (fun _ => true) 0 B l).set 0 Dk.sector0) (1 + 4 * (P + i) + j) = sec (Dk.settle (fun _ => true) 0 B l) (1 + 4 * (P + i) + j) := sec_set_ne _ (by omega)
    rw [z0, told_zero, if_neg (by decide), z1, ← hv i j hi hj]
    unfold valP
    by_cases ht : told (sec l 0) i = true
    · rw [if_pos ht, fin_home hl hB hi hj ht]
    · rw [if_neg ht, fin_own hl hB (fun x hx => hx) _ hi hj (by simpa using ht)]
theorem steps_mem {q : Nat → Nat} {M : List Chg} {x : Stp} (h : x ∈ M.flatMap (fun c => laid ((1 + 4 * q c.1 : Nat) : Int) c.2)) : ∃ c ∈ M, ∃ j : Nat, j < 4 ∧ x = (((1 + 4 * q c.1 + j : Nat) : Int), cut4 c.2 j) := by
  rw [List.mem_flatMap] at h
  obtain ⟨c, hc, hx⟩ := h
  obtain ⟨j, hj, rfl⟩ := layK_mem hx
  exact ⟨c, hc, j, hj, by rw [Int.natCast_add ((1 + 4 * q c.1))]⟩
theorem mem_layK {p : Int} {s : ByteArray} : ∀ {n j : Nat}, j < n → (p + (j : Nat), cut4 s j) ∈ layK p s n
  | n + 1, j, h => by
    rw [layK, List.mem_append]
    by_cases e : j = n
    · subst e; exact .inr (List.mem_singleton.2 rfl)
    · exact .inl (mem_layK (by omega))
theorem mem_steps {q : Nat → Nat} {M : List Chg} {c : Chg} (hc : c ∈ M) {j : Nat} (hj : j < 4) : (((1 + 4 * q c.1 + j : Nat) : Int), cut4 c.2 j) ∈ M.flatMap (fun c => laid ((1 + 4 * q c.1 : Nat) : Int) c.2) := by
  rw [List.mem_flatMap]
  refine ⟨c, hc, ?_⟩
  rw [Int.natCast_add (1 + 4 * q c.1)]
  exact mem_layK hj
/-- Pages that a commit makes of others. -/
structure Wnt (P : Nat) (M : List Chg) (X0 X1 : Nat → Nat → ByteArray) : Prop where
  new : ∀ c ∈ M, ∀ j, j < 4 → X1 c.1 j = cut4 c.2 j
  old : ∀ i j, i < P → j < 4 → (∀ c ∈ M, c.1 ≠ i) → X1 i j = X0 i j
theorem commit_pre {P : Nat} {M : List Chg} (hP : P ≤ 128) (hM : ∀ c ∈ M, c.1 < P ∧ c.2.size = 1024) (hd : M.Pairwise (fun a b => a.1 ≠ b.1)) {X0 X1 : Nat → Nat → ByteArray} (hW : Wnt P M X0 X1) {l : List ByteArray} (hl : 8 * P + 1 ≤ l.length) (hm : sec l 0 = Dk.sector0) (hv : VIs P X0 l) :
    Pre (fun s => ∀ p, VIs P X0 (Dk.settle p 0 s.2 s.1) ∨ VIs P X1 (Dk.settle p 0 s.2 s.1)) (l, []) (commitK P M) ∧ GV P X1 (exs (l, []) (commitK P M)) := by
  have hown : ∀ i j, i < P → j < 4 → sec l (1 + 4 * (P + i) + j) = X0 i j := fun i j hi hj => by
    have := hv i j hi hj
    unfold valP at this
    rwa [hm, told_zero, if_neg (by decide)] at this
  have hA0 : ∀ x ∈ stepsA M, 0 ≤ x.1 := fun x hx => by
    obtain ⟨c, _, j, _, rfl⟩ := steps_mem (q := fun i => i) hx
    simp only
    omega
  -- the copies are being written
  have hAk : ∀ (W : List Stp), (∀ x ∈ W, x ∈ stepsA M) → ∀ p k, (k = 0 ∨ 1 + 4 * P ≤ k) → k < l.length → sec (Dk.settle p 0 W l) k = sec l k := fun W hW p k hk hkl =>
    settle_keep p hkl (fun w hw e => by
      obtain ⟨c, hc, j, hj, rfl⟩ := steps_mem (q := fun i => i) (hW w hw)
      have := (hM c hc).1
      simp only at e
      omega)
  have hA : ∀ (W : List Stp), (∀ x ∈ W, x ∈ stepsA M) → GV P X0 (l, W) := fun W hW p i j hi hj => by
    unfold valP
    rw [hAk W hW p 0 (.inl rfl) (by omega), hm, told_zero, if_neg (by decide), hAk W hW p _ (.inr (by omega)) (by omega)]
    exact hown i j hi hj
  have e1 : exs (l, []) (stepsA M) = (l, stepsA M) := by rw [exs_writes l _ [] hA0, List.nil_append]
  have hcopy : ∀ c ∈ M, ∀ j, j < 4 → sec (Dk.settle (fun _ => true) 0 (stepsA M) l) (1 + 4 * c.1 + j) = cut4 c.2 j := fun c hc j hj => by
    have hc1 := (hM c hc).1
    refine flush_sec (by omega) hA0 (fun w hw e => ?_) ⟨_, mem_steps (q := fun i => i) hc hj, rfl⟩
    obtain ⟨c', hc', j', hj', rfl⟩ := steps_mem (q := fun i => i) hw
    simp only at e ⊢
    have e1 : c'.1 = c.1 := by omega
    obtain rfl : j' = j := by omega
    obtain ⟨a, ha, rfl⟩ := List.getElem_of_mem hc
    obtain ⟨b, hb, rfl⟩ := List.getElem_of_mem hc'
    have hp := List.pairwise_iff_getElem.1 hd
    rcases Nat.lt_trichotomy a b with h | h | h
    · exact absurd e1.symm (hp a b ha hb h)
    · subst h; rfl
    · exact absurd e1 (hp b a hb ha h)
  have hv1 : VIs P X0 (Dk.settle (fun _ => true) 0 (stepsA M) l) := hA _ (fun x hx => hx) _
  have hm1 : ∀ k, (k = 0 ∨ 1 + 4 * P ≤ k) → k < l.length → sec (Dk.settle (fun _ => true) 0 (stepsA M) l) k = sec l k := hAk _ (fun x hx => hx) _
  have hl1 : (Dk.settle (fun _ => true) 0 (stepsA M) l).length = l.length := Dk.settle_length ..
  generalize hL1 : Dk.settle (fun _ => true) 0 (stepsA M) l = l1 at hcopy hv1 hm1 hl1
  -- the mark
  have hs0 : sec (l1.set 0 (mkB M)) 0 = mkB M := sec_set_self _ (by omega)
  have htold : ∀ i, told (mkB M) i = M.any (fun c => decide (c.1 = i)) := told_mk hP (fun c hc => (hM c hc).1)
  have hv2 : VIs P X1 (l1.set 0 (mkB M)) := fun i j hi hj => by
    unfold valP
    rw [hs0, htold, sec_set_ne _ (by omega), sec_set_ne _ (by omega)]
    by_cases ht : M.any (fun c => decide (c.1 = i)) = true
    · rw [if_pos ht]
      obtain ⟨c, hc, e⟩ := List.any_eq_true.1 ht
      obtain rfl : c.1 = i := by simpa using e
      rw [hcopy c hc j hj, hW.new c hc j hj]
    · rw [if_neg ht, hm1 _ (.inr (by omega)) (by omega), hown i j hi hj]
      refine (hW.old i j hi hj (fun c hc e => ht ?_)).symm
      rw [List.any_eq_true]
      exact ⟨c, hc, by simpa using e⟩
  have hF : Fin' P (l1.set 0 (mkB M)) (stepsB P M) := by
    refine ⟨fun x hx => ?_, fun i j hi hj ht => ?_⟩
    · obtain ⟨c, hc, j, hj, rfl⟩ := steps_mem (q := fun i => P + i) hx
      refine ⟨c.1, j, (hM c hc).1, hj, ?_, ?_⟩
      · rw [hs0, htold, List.any_eq_true]
        exact ⟨c, hc, by simp⟩
      · rw [sec_set_ne _ (by omega), hcopy c hc j hj]
    · rw [hs0, htold, List.any_eq_true] at ht
      obtain ⟨c, hc, e⟩ := ht
      obtain rfl : c.1 = i := by simpa using e
      exact ⟨_, mem_steps (q := fun i => P + i) hc hj, rfl⟩
  have hfin := fin_pre (B := stepsB P M) (by rw [List.length_set]; omega) hv2 hF
  have e2 : exs (l, []) (stepsA M ++ [flushS]) = (l1, []) := by rw [exs_append, e1, exs_flush, hL1]
  have e3 : exs (l, []) (stepsA M ++ [flushS] ++ ([(0, mkB M)] ++ [flushS])) = (l1.set 0 (mkB M), []) := by rw [exs_append, e2, exs_mark]
  have ec : commitK P M = stepsA M ++ [flushS] ++ ([(0, mkB M)] ++ [flushS]) ++ (stepsB P M ++ [flushS] ++ ([(0, Dk.sector0)] ++ [flushS])) := by
    unfold commitK
    simp only [List.append_assoc]
  rw [ec]
  refine ⟨pre_append (pre_append (pre_append (pre_writes hA0 (fun W hW p => .inl (hA W hW p))) ?_) ?_) ?_, ?_⟩
  · rw [e1]
    exact pre_flush (fun p => .inl (hA _ (fun x hx => hx) p)) (fun p => .inl (by show VIs P X0 (Dk.settle _ 0 (stepsA M) l); rw [hL1]; exact hv1))
  · rw [e2]
    exact pre_mark (G := fun l => VIs P X0 l ∨ VIs P X1 l) (Or.inl hv1) (Or.inr hv2)
  · rw [e3]
    exact pre_mono hfin (fun t h p => .inr (h p))
  · rw [exs_append, e3]
    have := hfin _ (Nat.le_refl _)
    rwa [List.take_length] at this
/-- A store whose power came back: nothing waits; its pages are X. -/
structure Back (P : Nat) (X : Nat → Nat → ByteArray) (d : Dk) : Prop where
  ok : d.Ok
  sz : Sz d
  len : d.l.length = 8 * P + 1
  waits : d.waits = []
  up : d.down = false
  val : VIs P X d.l
structure Home (P : Nat) (X : Nat → Nat → ByteArray) (d : Dk) : Prop where
  back : Back P X d
  none : ∀ i, i < P → told (sec d.l 0) i = false
theorem back_fuse {P : Nat} {X : Nat → Nat → ByteArray} {d : Dk} (h : Back P X d) (n : Int) (hn : n ≤ 9223372036854775807) : Back P X (d.setFuse n) ∧ (d.setFuse n).l = d.l := by
  have e : (d.setFuse n).l = d.l ∧ (d.setFuse n).waits = d.waits ∧ (d.setFuse n).down = d.down := by unfold Dk.setFuse; split <;> exact ⟨rfl, rfl, rfl⟩
  exact ⟨⟨h.ok.setFuse n hn, sz_fuse h.sz n, by rw [e.1]; exact h.len, by rw [e.2.1]; exact h.waits, by rw [e.2.2]; exact h.up, by rw [e.1]; exact h.val⟩, e.1⟩
theorem home_fuse {P : Nat} {X : Nat → Nat → ByteArray} {d : Dk} (h : Home P X d) (n : Int) (hn : n ≤ 9223372036854775807) : Home P X (d.setFuse n) := by
  obtain ⟨a, b⟩ := back_fuse h.back n hn
  exact ⟨a, by rw [b]; exact h.none⟩
theorem Back.sto {P : Nat} {X : Nat → Nat → ByteArray} {d : Dk} (h : Back P X d) : Sto P d := ⟨h.ok, h.sz, by rw [h.len]; exact Nat.le_refl _, h.up⟩
theorem read_sec {d : Dk} (hw : d.waits = []) (hu : d.down = false) {i : Nat} (hi : i < d.l.length) : d.read (i : Int) = (sec d.l i, 0) := by
  rw [read_up hu i hi, hw]
  rfl
theorem sizeB (s : ByteArray) : s.data.toList.length = s.size := Array.length_toList
theorem cut4_list (s : ByteArray) (j : Nat) : (cut4 s j).data.toList = (s.data.toList.drop (256 * j)).take 256 := by
  unfold cut4
  rw [ByteArray.data_extract, Array.toList_extract, List.extract_eq_take_drop, show 256 * j + 256 - 256 * j = 256 by omega]
theorem ba_eq {a b : ByteArray} (h : a.data.toList = b.data.toList) : a = b := by
  cases a; cases b
  exact congrArg _ (Array.toList_inj.1 h)
theorem cut4_inj {a b : ByteArray} (ha : a.size = 1024) (hb : b.size = 1024) (h : ∀ j, j < 4 → cut4 a j = cut4 b j) : a = b := by
  refine ba_eq (List.ext_getElem? fun i => ?_)
  have la := sizeB a
  have lb := sizeB b
  by_cases hi : i < 1024
  · have hj := congrArg (fun s => s.data.toList[i % 256]?) (h (i / 256) (by omega))
    simp only [cut4_list] at hj
    have hr : i % 256 < 256 := Nat.mod_lt _ (by decide)
    rw [List.getElem?_take_of_lt hr, List.getElem?_take_of_lt hr, List.getElem?_drop, List.getElem?_drop, show 256 * (i / 256) + i % 256 = i by omega] at hj
    exact hj
  · rw [List.getElem?_eq_none (by omega), List.getElem?_eq_none (by omega)]
theorem rdK_cut {d : Dk} {p : Int} (hs : ∀ j : Nat, j < 4 → (d.read (p + (j : Nat))).1.size = 256) {j : Nat} (hj : j < 4) : ∀ n : Nat, j < n → n ≤ 4 → ((rdK d p n).drop (256 * j)).take 256 = (d.read (p + (j : Nat))).1.data.toList
  | n + 1, h, h4 => by
    have hlen : ∀ m : Nat, m ≤ 4 → (rdK d p m).length = 256 * m := fun m => by
      induction m with
      | zero => intro _; rfl
      | succ m ih =>
        intro hm
        rw [rdK, List.length_append, ih (by omega), sizeB, hs m (by omega)]
        omega
    have hn := hlen n (by omega)
    rw [rdK]
    by_cases e : j = n
    · subst e
      rw [List.drop_append, List.drop_of_length_le (by omega), List.nil_append, hn, Nat.sub_self, List.drop_zero, List.take_of_length_le (by rw [sizeB, hs j hj]; exact Nat.le_refl _)]
    · rw [List.drop_append, List.take_append, rdK_cut hs hj n (by omega) (by omega), List.length_drop, hn, show 256 - (256 * n - 256 * j) = 0 by omega, List.take_zero, List.append_nil]
theorem cut_page {d : Dk} {p : Int} (hs : ∀ j : Nat, j < 4 → (d.read (p + (j : Nat))).1.size = 256) {j : Nat} (hj : j < 4) : cut4 (pageB d p) j = (d.read (p + (j : Nat))).1 := by
  refine ba_eq ?_
  rw [cut4_list]
  exact rdK_cut hs hj 4 hj (Nat.le_refl _)
theorem cut_at {d : Dk} (hz : Sz d) (hw : d.waits = []) (hu : d.down = false) {p j : Nat} (hj : j < 4) (hp : p + 4 ≤ d.l.length) : cut4 (pageB d (p : Int)) j = sec d.l (p + j) := by
  have e : ∀ k : Nat, k < 4 → d.read ((p : Int) + (k : Nat)) = (sec d.l (p + k), 0) := fun k hk => by
    rw [← Int.natCast_add, read_sec hw hu (by omega)]
  have hs : ∀ k : Nat, k < 4 → (d.read ((p : Int) + (k : Nat))).1.size = 256 := fun k hk => read_size hz (by unfold Dk.use; rw [if_neg (by rw [hu]; decide), if_neg (by omega)])
  rw [cut_page hs hj, e j hj]
theorem told_opL {P : Nat} (hP : P ≤ 128) {m : ByteArray} {i : Nat} (hi : i < P) (h : told m i = true) : i ∈ opL P m 128 := by
  unfold opL
  rw [List.mem_filter]
  exact ⟨List.mem_range.2 (by omega), by simp [hi, h]⟩
theorem back_fin {P : Nat} {X : Nat → Nat → ByteArray} {d : Dk} (hP : P ≤ 128) (h : Back P X d) : Fin' P d.l (opk P d (sec d.l 0) 128) := by
  have hl := h.len
  refine ⟨fun x hx => ?_, fun i j hi hj ht => ?_⟩
  · unfold opk at hx
    rw [List.mem_flatMap] at hx
    obtain ⟨i, hi, hx⟩ := hx
    obtain ⟨_, h2, h3⟩ := opL_mem hi
    obtain ⟨j, hj, rfl⟩ := layK_mem hx
    refine ⟨i, j, h2, hj, h3, ?_⟩
    rw [cut_at h.sz h.waits h.up hj (by omega), Int.natCast_add (1 + 4 * (P + i))]
  · refine ⟨((1 + 4 * (P + i) : Nat) + (j : Nat), cut4 (pageB d ((1 + 4 * i : Nat) : Int)) j), ?_, (Int.natCast_add _ _).symm⟩
    unfold opk
    rw [List.mem_flatMap]
    exact ⟨i, told_opL hP hi ht, mem_layK hj⟩
theorem fail_back {P : Nat} {X : Nat → Nat → ByteArray} {d : Dk} (hok : d.Ok) (hz : Sz d) (hl : d.l.length = 8 * P + 1) (p : List Bool) (hg : VIs P X (Dk.settle (fun i => p.getD i false) 0 d.waits d.l)) : Back P X (d.fail p).start ∧ (d.fail p).start.fuse = 0 := by
  have ok := (hok.fail p).start
  have sz := sz_start (sz_fail hz p)
  rw [(fail_start d p).2] at ok sz ⊢
  exact ⟨⟨ok, sz, by show (Dk.settle _ 0 d.waits d.l).length = _; rw [Dk.settle_length]; exact hl, rfl, rfl, hg⟩, rfl⟩
/-- What an opening leaves: the store is home, or the power is off and all is as it was. -/
theorem open_back {P : Nat} {X : Nat → Nat → ByteArray} {d : Dk} (hP : P ≤ 128) (h : Back P X d) :
    ((run d (openK P d (d.read 0).1)).2 = 0 ∧ Home P X (run d (openK P d (d.read 0).1)).1) ∨
    ((run d (openK P d (d.read 0).1)).2 = 10 ∧ (run d (openK P d (d.read 0).1)).1.down = true ∧ ∀ p, Back P X ((run d (openK P d (d.read 0).1)).1.fail p).start ∧ ((run d (openK P d (d.read 0).1)).1.fail p).start.fuse = 0) := by
  have hlen := h.len
  have hr0 : (d.read 0).1 = sec d.l 0 := by
    have := read_sec h.waits h.up (i := 0) (by omega)
    rw [show ((0 : Nat) : Int) = 0 from rfl] at this
    rw [this]
  rw [hr0]
  by_cases h0 : opL P (sec d.l 0) 128 = []
  · have e : openK P d (sec d.l 0) = [] := by unfold openK; rw [if_pos h0]
    rw [e]
    refine .inl ⟨rfl, h, fun i hi => ?_⟩
    show told (sec d.l 0) i = false
    by_cases ht : told (sec d.l 0) i = true
    · have := told_opL hP hi ht
      rw [h0] at this
      cases this
    · simpa using ht
  · have e : openK P d (sec d.l 0) = opk P d (sec d.l 0) 128 ++ [flushS] ++ ([(0, Dk.sector0)] ++ [flushS]) := by unfold openK; rw [if_neg h0]
    have hcan : ∀ x ∈ openK P d (sec d.l 0), Can d.l.length x := fun x hx => by
      rw [e] at hx
      simp only [List.mem_append, List.mem_singleton] at hx
      rcases hx with (hx | rfl) | (rfl | rfl)
      · exact (opk_mem h.sto hx).1
      · exact .inl (by decide)
      · exact .inr ⟨by simp only; omega, Dk.rep_size 256 0⟩
      · exact .inl (by decide)
    have hpre := fin_pre (by omega) h.val (back_fin hP h)
    rw [← e] at hpre
    obtain ⟨k, hk, he, hl, hs⟩ := run_shape (openK P d (sec d.l 0)) h.ok hcan
    have hok := run_ok (openK P d (sec d.l 0)) h.ok
    have hsz := sz_run (openK P d (sec d.l 0)) h.sz
    rw [h.waits] at he
    rw [hlen] at hl
    have hG := hpre k hk
    rw [← he] at hG
    rcases hs with ⟨s1, rfl⟩ | ⟨s1, s2, _⟩
    · have hup : (run d (openK P d (sec d.l 0))).1.down = false := by
        rw [e, ← List.append_assoc] at s1 ⊢
        exact run_up _ flushS h.ok (fun y hy => hcan y (by rw [e, ← List.append_assoc]; exact hy)) (by decide) s1
      have hend : ((run d (openK P d (sec d.l 0))).1.l, (run d (openK P d (sec d.l 0))).1.waits) = ((exs (d.l, []) (opk P d (sec d.l 0) 128 ++ [flushS])).1.set 0 Dk.sector0, []) := by
        rw [he, List.take_length, e, exs_append]
        have hw := exs_ends (d.l, []) (opk P d (sec d.l 0) 128)
        generalize exs (d.l, []) (opk P d (sec d.l 0) 128 ++ [flushS]) = t at hw
        obtain ⟨l', w'⟩ := t
        obtain rfl : w' = [] := hw
        exact exs_mark l' _
      injection hend with e1 e2
      have hv := hG (fun _ => true)
      simp only at hv
      rw [e2] at hv
      refine .inl ⟨s1, ⟨hok, hsz, hl, e2, hup, hv⟩, fun i hi => ?_⟩
      rw [e1] at hl ⊢
      rw [List.length_set] at hl
      rw [sec_set_self _ (by omega), told_zero]
    · exact .inr ⟨s1, s2, fun p => fail_back hok hsz hl p (hG _)⟩
theorem open_again {P : Nat} {X : Nat → Nat → ByteArray} {d : Dk} (hP : P ≤ 128) (h : Back P X d) (hf : d.fuse = 0) : (run d (openK P d (d.read 0).1)).2 = 0 ∧ Home P X (run d (openK P d (d.read 0).1)).1 := by
  rcases open_back hP h with r | ⟨r, _⟩
  · exact r
  · exfalso
    have hlen := h.len
    have hcan : ∀ x ∈ openK P d (d.read 0).1, Can d.l.length x := fun x hx => by
      unfold openK at hx
      split at hx
      · cases hx
      · simp only [List.mem_append, List.mem_singleton] at hx
        rcases hx with (hx | rfl) | (rfl | rfl)
        · exact (opk_mem h.sto hx).1
        · exact .inl (by decide)
        · exact .inr ⟨by simp only; omega, Dk.rep_size 256 0⟩
        · exact .inl (by decide)
    rw [(run_calm _ ⟨h.ok, hf, h.up⟩ hcan).1] at r
    exact absurd r (by decide)
/-- The pages that changes make of others, in the changes' order. -/
def setK (wl : List ByteArray) (l : List (Int × ByteArray)) : List ByteArray := l.foldl (fun a c => a.set c.1.toNat c.2) wl
theorem setK_len : ∀ (l : List (Int × ByteArray)) (wl : List ByteArray), (setK wl l).length = wl.length
  | [], wl => rfl
  | c :: l, wl => by
    show (setK (wl.set _ _) l).length = _
    rw [setK_len l, List.length_set]
theorem setK_take {l : List (Int × ByteArray)} {k : Nat} (hk : k < l.length) (wl : List ByteArray) : setK wl (l.take (k + 1)) = (setK wl (l.take k)).set l[k].1.toNat l[k].2 := by
  unfold setK
  rw [List.take_succ_eq_append_getElem hk, List.foldl_append]
  rfl
theorem setK_old {i : Nat} : ∀ (l : List (Int × ByteArray)) (wl : List ByteArray), (∀ c ∈ l, c.1.toNat ≠ i) → sec (setK wl l) i = sec wl i
  | [], wl, _ => rfl
  | c :: l, wl, h => by
    show sec (setK (wl.set _ _) l) i = _
    rw [setK_old l _ (fun x hx => h x (List.mem_cons_of_mem _ hx)), sec_set_ne _ (h c (List.mem_cons_self ..))]
theorem setK_new : ∀ (l : List (Int × ByteArray)) (wl : List ByteArray), l.Pairwise (fun a b => a.1 ≠ b.1) → (∀ c ∈ l, 0 ≤ c.1 ∧ c.1.toNat < wl.length) → ∀ c ∈ l, sec (setK wl l) c.1.toNat = c.2
  | [], wl, _, _, c, hc => by cases hc
  | x :: l, wl, hp, h, c, hc => by
    show sec (setK (wl.set _ _) l) _ = _
    rw [List.pairwise_cons] at hp
    rcases List.mem_cons.1 hc with rfl | hc
    · rw [setK_old l _ (fun y hy e => hp.1 y hy (by have := h y (List.mem_cons_of_mem _ hy); have := h c (List.mem_cons_self ..); omega)), sec_set_self _ (h c (List.mem_cons_self ..)).2]
    · exact setK_new l _ hp.2 (fun y hy => by rw [List.length_set]; exact h y (List.mem_cons_of_mem _ hy)) c hc
/-- The pages of a disk that is up, by their bytes. -/
def pgK' (d : Dk) (P : Nat) : List ByteArray := (List.range P).map (fun i => pageB d ((1 + 4 * (P + i) : Nat) : Int))
theorem pgK'_len (d : Dk) (P : Nat) : (pgK' d P).length = P := by unfold pgK'; rw [List.length_map, List.length_range]
theorem pgK'_sec {d : Dk} {P i : Nat} (hi : i < P) : sec (pgK' d P) i = pageB d ((1 + 4 * (P + i) : Nat) : Int) := by
  unfold sec pgK'
  rw [List.getD_eq_getElem?_getD, List.getElem?_map, List.getElem?_range hi]
  rfl
def qrt (wl : List ByteArray) (i j : Nat) : ByteArray := cut4 (sec wl i) j
theorem want_of {P : Nat} {ch : List (Int × ByteArray)} (hw : whyE P ch = 0) {wl : List ByteArray} (hl : wl.length = P) {M : List Chg} (hp : (M.map upc).Perm ch) : Wnt P M (qrt wl) (qrt (setK wl ch)) := by
  have he := why_each hw
  refine ⟨fun c hc j hj => ?_, fun i j hi hj hn => ?_⟩
  · have hm : upc c ∈ ch := hp.mem_iff.1 (List.mem_map_of_mem hc)
    have := setK_new ch wl (pages_pair (why_ok hw).2.1) (fun x hx => by have := he x hx; exact ⟨this.1, by omega⟩) (upc c) hm
    unfold upc at this
    simp only [Int.toNat_natCast] at this
    unfold qrt
    rw [this]
  · unfold qrt
    rw [setK_old ch wl (fun x hx e => ?_)]
    obtain ⟨c, hc, rfl⟩ := List.mem_map.1 (hp.mem_iff.2 hx)
    exact hn c hc (by unfold upc at e; simpa using e)
/-- A store at rest, by its pages. -/
theorem rest_val {P : Nat} {d : Dk} (h : Rest P d) : VIs P (qrt (pgK' d P)) d.l := fun i j hi hj => by
  have hl := h.len
  have hm : sec d.l 0 = Dk.sector0 := by unfold sec; rw [List.getD_eq_getElem?_getD, h.mark]; rfl
  unfold valP
  rw [hm, told_zero, if_neg (by decide)]
  unfold qrt
  rw [pgK'_sec hi, cut_at h.sz h.waits h.calm.up hj (by omega)]
/-- What is there behind a commit that the power failed amid. -/
theorem commit_back {P : Nat} (hP : P ≤ 128) {d : Dk} (h : Rest P d) {cut : Int} (hc : cut ≤ 9223372036854775807) {ch : List (Int × ByteArray)} (hw : whyE P ch = 0) {e : Int} {d2 : Dk} (hco : CoTo P (d.setFuse cut) ch e d2) (p : List Bool) :
    (Back P (qrt (setK (pgK' d P) ch)) (d2.fail p).start ∨ (e ≠ 0 ∧ Back P (qrt (pgK' d P)) (d2.fail p).start)) := by
  have hl := h.len
  have hb : Back P (qrt (pgK' d P)) d := ⟨h.calm.ok, h.sz, hl, h.waits, h.calm.up, rest_val h⟩
  obtain ⟨hb1, hl1⟩ := back_fuse hb cut hc
  have hm : sec (d.setFuse cut).l 0 = Dk.sector0 := by rw [hl1]; unfold sec; rw [List.getD_eq_getElem?_getD, h.mark]; rfl
  generalize d.setFuse cut = d1 at hco hb1 hm
  cases hco with
  | why h => exact absurd hw h
  | down h hd => rw [hb1.up] at hd; exact absurd hd (by decide)
  | none h hd hl =>
    subst hl
    exact .inl (fail_back hb1.ok hb1.sz hb1.len p (by rw [hb1.waits]; exact hb1.val)).1
  | run h hd hne M hM hp =>
    have hmem := commit_mem h hp
    have hdist : M.Pairwise (fun a b => a.1 ≠ b.1) := by
      have hs : ∀ {a b : Int × ByteArray}, a.1 ≠ b.1 → b.1 ≠ a.1 := fun h => h.symm
      have := (hp.symm.pairwise_iff hs).1 (pages_pair (why_ok hw).2.1)
      rw [List.pairwise_map] at this
      exact this.imp (fun h e => h (by unfold upc; simp only; omega))
    obtain ⟨q1, q2⟩ := commit_pre hP hmem hdist (want_of hw (pgK'_len d P) hp) (by rw [hb1.len]; exact Nat.le_refl _) hm hb1.val
    have hcan := commitK_can (P := P) hmem (Nat.le_of_eq hb1.len.symm)
    obtain ⟨k, hk, he, hl, hs⟩ := run_shape (commitK P M) hb1.ok hcan
    have hok := run_ok (commitK P M) hb1.ok
    have hsz := sz_run (commitK P M) hb1.sz
    rw [hb1.waits] at he
    rw [hb1.len] at hl
    rcases hs with ⟨s1, rfl⟩ | ⟨s1, s2, _⟩
    · rw [List.take_length] at he
      rw [← he] at q2
      exact .inl (fail_back hok hsz hl p (q2 _)).1
    · have hG := q1 k hk
      rw [← he] at hG
      rcases hG (fun i => p.getD i false) with hv | hv
      · exact .inr ⟨by rw [s1]; decide, (fail_back hok hsz hl p hv).1⟩
      · exact .inl (fail_back hok hsz hl p hv).1
theorem home_pages {P : Nat} {wl : List ByteArray} {d : Dk} (h : Home P (qrt wl) d) (hlen : wl.length = P) (hs : ∀ s ∈ wl, s.size = 1024) : pgK' d P = wl := by
  have hl := h.back.len
  refine List.ext_getElem (by rw [pgK'_len, hlen]) (fun i h1 h2 => ?_)
  have hi : i < P := by omega
  have e1 : sec (pgK' d P) i = (pgK' d P)[i] := by unfold sec; rw [List.getD_eq_getElem?_getD, List.getElem?_eq_getElem h1]; rfl
  have e2 : sec wl i = wl[i] := by unfold sec; rw [List.getD_eq_getElem?_getD, List.getElem?_eq_getElem h2]; rfl
  rw [← e1, ← e2, pgK'_sec hi]
  refine cut4_inj (h.back.sto.page _ (by omega)) (by rw [e2]; exact hs _ (List.getElem_mem _)) (fun j hj => ?_)
  rw [cut_at h.back.sz h.back.waits h.back.up hj (by omega)]
  have := h.back.val i j hi hj
  unfold valP at this
  rwa [h.none i hi, if_neg (by decide)] at this
theorem setK_size {P : Nat} {ch : List (Int × ByteArray)} (hw : whyE P ch = 0) : ∀ (wl : List ByteArray), (∀ s ∈ wl, s.size = 1024) → ∀ s ∈ setK wl ch, s.size = 1024 := by
  have he := why_each hw
  clear hw
  induction ch with
  | nil => exact fun wl h => h
  | cons c l ih =>
    intro wl h
    refine ih (fun x hx => he x (List.mem_cons_of_mem _ hx)) (wl.set _ _) (fun s hs => ?_)
    rcases List.mem_or_eq_of_mem_set hs with hs | rfl
    · exact h s hs
    · exact (he c (List.mem_cons_self ..)).2.2
theorem pgK'_size {P : Nat} {d : Dk} (h : Rest P d) : ∀ s ∈ pgK' d P, s.size = 1024 := fun s hs => by
  have hl := h.len
  obtain ⟨i, hi, rfl⟩ := List.getElem_of_mem hs
  rw [pgK'_len] at hi
  have e1 : sec (pgK' d P) i = (pgK' d P)[i] := by unfold sec; rw [List.getD_eq_getElem?_getD, List.getElem?_eq_getElem (by rw [pgK'_len]; exact hi)]; rfl
  rw [← e1, pgK'_sec hi]
  exact h.sto.page _ (by omega)
theorem commitK_len (P : Nat) (M : List Chg) : (commitK P M).length = 8 * M.length + 6 := by
  unfold commitK
  simp only [List.length_append, stepsA_len, stepsB_len, List.length_singleton]
  omega
theorem coto_fw {n P : Nat} {d d' : Dk} {l : List (Int × ByteArray)} {x : Int} (h : CoTo P d l x d') (hf : Fw (n + (8 * l.length + 6)) d) : Fw n d' := by
  cases h with
  | why h => exact hf.mono (by omega)
  | down h hd => exact hf.mono (by omega)
  | none h hd hl => exact hf.mono (by omega)
  | run h hd hl M hM hp =>
    have hlen : M.length = l.length := by rw [← hp.length_eq, List.length_map]
    exact fw_run _ (by rw [commitK_len, hlen]; exact hf)
theorem fw_again {n : Nat} {d : Dk} (hf : Fw n d) (p : List Bool) : Fw n (d.fail p).start := by
  have h1 := hf.w
  have h2 := hf.c
  rw [(fail_start d p).2]
  exact ⟨by show ([] : List Stp).length + n ≤ _; simp; omega, h2⟩
theorem fw_fuse {n : Nat} {d : Dk} (hf : Fw n d) (k : Int) : Fw n (d.setFuse k) := by
  have h1 := hf.w
  have h2 := hf.c
  unfold Dk.setFuse
  split
  · exact ⟨h1, h2⟩
  · exact hf
theorem openK_len (P : Nat) (d : Dk) (m : ByteArray) : (openK P d m).length ≤ 515 := by
  unfold openK
  split
  · simp
  · have := opk_len P d m 128
    simp only [List.length_append, List.length_singleton]
    omega
theorem setFuse_zero {P : Nat} {X : Nat → Nat → ByteArray} {d : Dk} (h : Back P X d) {n : Int} (hn : 0 ≤ n) : d.setFuseE n = 0 := by
  have hl := h.len
  have hu : d.use 0 = 0 := by unfold Dk.use; rw [if_neg (by rw [h.up]; decide), if_neg (by omega)]
  unfold Dk.setFuseE
  rw [if_pos hu, if_neg (by omega)]
/-- A store behind a commit that was torn, by the pages that it has. -/
def TornTo (P : Nat) (was want : List ByteArray) (e : Int) (d : Dk) : Prop := ∃ wl : List ByteArray, wl.length = P ∧ (∀ s ∈ wl, s.size = 1024) ∧ Back P (qrt wl) d ∧ (wl = want ∨ (e ≠ 0 ∧ wl = was))
theorem torn_to {P : Nat} (hP : P ≤ 128) {d : Dk} (h : Rest P d) {cut : Int} (hc : cut ≤ 9223372036854775807) {ch : List (Int × ByteArray)} (hw : whyE P ch = 0) {e : Int} {d2 : Dk} (hco : CoTo P (d.setFuse cut) ch e d2) (p : List Bool) :
    TornTo P (pgK' d P) (setK (pgK' d P) ch) e (d2.fail p).start := by
  rcases commit_back hP h hc hw hco p with hb | ⟨he, hb⟩
  · exact ⟨_, by rw [setK_len, pgK'_len], setK_size hw _ (pgK'_size h), hb, .inl rfl⟩
  · exact ⟨_, pgK'_len _ _, pgK'_size h, hb, .inr ⟨he, rfl⟩⟩
end Go.Proofs.Ytoolkamajlgcbaa
