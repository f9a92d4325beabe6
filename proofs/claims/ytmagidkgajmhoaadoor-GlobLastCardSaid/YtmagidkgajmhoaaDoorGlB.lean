/- GlB: a reader of a part: a set's member. -/
import Derived.Test.YtmagidkgajmhoaaDoorGlA
set_option linter.unusedVariables false
set_option linter.unusedSimpArgs false
namespace Go.Proofs.YtmagidkgajmhoaaDoor
open Go.RowKit

def starB (c : UInt8) : Bool := [93, 91, 47, 33, 45].contains c
theorem star_index (c : UInt8) : decide (0 ≤ Lib.indexByte [93, 91, 47, 33, 45] c) = starB c := by
  unfold starB
  simp only [Lib.indexByte, List.contains_cons, List.contains_nil, Bool.or_false]
  by_cases h1 : (93 : UInt8) = c
  · subst h1; decide
  by_cases h2 : (91 : UInt8) = c
  · subst h2; decide
  by_cases h3 : (47 : UInt8) = c
  · subst h3; decide
  by_cases h4 : (33 : UInt8) = c
  · subst h4; decide
  by_cases h5 : (45 : UInt8) = c
  · subst h5; decide
  have e1 : ((93 : UInt8) == c) = false := by simpa using h1
  have e2 : ((91 : UInt8) == c) = false := by simpa using h2
  have e3 : ((47 : UInt8) == c) = false := by simpa using h3
  have e4 : ((33 : UInt8) == c) = false := by simpa using h4
  have e5 : ((45 : UInt8) == c) = false := by simpa using h5
  have f1 : (c == (93 : UInt8)) = false := by simpa using Ne.symm h1
  have f2 : (c == (91 : UInt8)) = false := by simpa using Ne.symm h2
  have f3 : (c == (47 : UInt8)) = false := by simpa using Ne.symm h3
  have f4 : (c == (33 : UInt8)) = false := by simpa using Ne.symm h4
  have f5 : (c == (45 : UInt8)) = false := by simpa using Ne.symm h5
  simp [e1, e2, e3, e4, e5, f1, f2, f3, f4, f5]
theorem contains_any (w : World) (c : UInt8) : Calls Tryd.prog 58 #[.string ⟨#[93, 91, 47, 33, 45]⟩, .string ⟨#[c]⟩] w fun e w' => e = .returned (.bool (starB c)) ∧ w = w' := by
  have SI := Lib.hid (star_index c)
  have IX := Lib.hid (Any.strings_Index_one Tryd.lays143 ⟨#[93, 91, 47, 33, 45]⟩ c w)
  have e0 : (⟨#[93, 91, 47, 33, 45]⟩ : ByteArray).data.toList = [93, 91, 47, 33, 45] := rfl
  rw [e0] at IX
  generalize Lib.indexByte [93, 91, 47, 33, 45] c = i at IX SI
  clear e0
  go_enter Tryd.func58, Tryd.ntmps58
  go_wp2_with fail
  refine IX.out.mono ?_
  rintro e w' ⟨rfl, rfl⟩
  go_wp2
  go_ret
  exact ⟨by rw [← SI.out]; rfl, rfl⟩
def memP : Bs → Option (UInt8 × Bs)
  | [] => none
  | c :: r => if c = 92 then (match r with | [] => none | d :: r' => some (d, r')) else if starB c then none else some (c, r)
/-- What member makes of a reader. -/
def MemTo (w : World) (gr : Nat) (s : ByteArray) (k : Nat) (e : Ending) (w' : World) : Prop :=
  (memP ((dat s).drop k) = none ∧ ∃ (x : Int) (k' : Nat), e = .returned (.tuple #[.int .u8 x, .bool false]) ∧ k' ≤ s.size ∧ RdTo w gr s k' w') ∨
  ∃ (c : UInt8) (k' : Nat), memP ((dat s).drop k) = some (c, (dat s).drop k') ∧ k < k' ∧ k' ≤ s.size ∧ e = .returned (.tuple #[.int .u8 (c.toNat : Int), .bool true]) ∧ RdTo w gr s k' w'
theorem dat_drop {s : ByteArray} {k : Nat} (h : k < s.size) : (dat s).drop k = s[k] :: (dat s).drop (k + 1) := by
  have hl : k < (dat s).length := by unfold dat; rw [Array.length_toList]; exact h
  rw [List.drop_eq_getElem_cons hl]
  rfl
theorem dat_end {s : ByteArray} : (dat s).drop s.size = [] := List.drop_eq_nil_of_le (by unfold dat; rw [Array.length_toList]; exact Nat.le_refl _)
/-- What next makes of a reader. -/
def NxtTo (w : World) (gr : Nat) (s : ByteArray) (k : Nat) (e : Ending) (w' : World) : Prop :=
  ((dat s).drop k = [] ∧ e = .returned (.tuple #[.int .u8 0, .bool false]) ∧ RdTo w gr s k w') ∨ ∃ c : UInt8, (dat s).drop k = c :: (dat s).drop (k + 1) ∧ k < s.size ∧ e = .returned (.tuple #[.int .u8 (c.toNat : Int), .bool true]) ∧ RdTo w gr s (k + 1) w'
theorem next_to (w : World) (gr : Nat) (s : ByteArray) (k : Nat) (h : Rdr w gr s k) (hk : k ≤ s.size) (hs : s.size ≤ 1000000) :
    Calls Tryd.prog 45 #[.pointer (some ⟨gr, 0, none⟩)] w fun e w' => NxtTo w gr s k e w' := by
  refine (next_any w gr s k h hk hs).mono ?_
  rintro e w' (⟨rfl, rfl, hr⟩ | ⟨hlt, rfl, hr⟩)
  · exact .inl ⟨dat_end, rfl, hr⟩
  · exact .inr ⟨s[k], dat_drop hlt, hlt, rfl, hr⟩
set_option maxHeartbeats 1600000 in
set_option maxRecDepth 100000 in
theorem member_any (w : World) (gr : Nat) (s : ByteArray) (k : Nat) (h : Rdr w gr s k) (hk : k ≤ s.size) (hs : s.size ≤ 1000000) :
    Calls Tryd.prog 52 #[.pointer (some ⟨gr, 0, none⟩)] w fun e w' => MemTo w gr s k e w' := by
  have NX := Lib.hid (next_to w gr s k h hk hs)
  have HK := Lib.hid hk
  clear h
  go_enter Tryd.func52, Tryd.ntmps52
  go_wp2_with fail
  refine NX.out.mono ?_
  rintro e w1 (⟨h0, rfl, r1⟩ | ⟨c, h0, hlt, rfl, r1⟩)
  · have M0 : Hid (memP ((dat s).drop k) = none) := by unfold Hid; rw [h0]; rfl
    have R1 := Lib.hid r1
    clear h0 r1
    go_wp2
    go_ret2
    exact .inl ⟨M0.out, 0, k, rfl, hk, R1.out⟩
  · have M0 : Hid (memP ((dat s).drop k) = memP (c :: (dat s).drop (k + 1))) := by unfold Hid; rw [h0]
    have R1 := Lib.hid r1
    by_cases hc : c = 92
    · subst hc
      have NX2 := Lib.hid (next_to w1 gr s (k + 1) r1.1 hlt hs)
      clear h0 r1
      go_wp2_with fail
      refine NX2.out.mono ?_
      rintro e w2 (⟨h1, rfl, r2⟩ | ⟨d, h1, hlt2, rfl, r2⟩)
      · have M1 : Hid (memP ((dat s).drop k) = none) := by unfold Hid; rw [M0.out, h1]; rfl
        have R2 := Lib.hid (R1.out.trans r2)
        clear h1 r2
        go_wp2
        go_ret2
        exact .inl ⟨M1.out, 0, k + 1, rfl, hlt, R2.out⟩
      · have M1 : Hid (memP ((dat s).drop k) = some (d, (dat s).drop (k + 1 + 1))) := by unfold Hid; rw [M0.out, h1]; rfl
        have R2 := Lib.hid (R1.out.trans r2)
        clear h1 r2
        go_wp2
        go_ret2
        exact .inr ⟨d, k + 1 + 1, M1.out, by omega, by omega, rfl, R2.out⟩
    · have M1 : Hid (memP ((dat s).drop k) = if starB c then none else some (c, (dat s).drop (k + 1))) := by unfold Hid; rw [M0.out]; simp [memP, hc]
      have hcn : ((c.toNat : Int) == 92) = false := by
        rw [beq_eq_false_iff_ne]
        intro e
        exact hc (UInt8.toNat_inj.1 (by show c.toNat = 92; omega))
      have hcn2 : (c.toNat == 92) = false := by
        rw [beq_eq_false_iff_ne]
        intro e
        exact hc (UInt8.toNat_inj.1 e)
      clear hc M0 h0 r1
      obtain ⟨W2, hW2⟩ : ∃ W, W = w1.alloc (.cells #[.int .u8 (c.toNat : Int)] 5) := ⟨_, rfl⟩
      have K2 : Hid (Below w1.heap.size w1 W2) := by rw [hW2]; exact (Below.refl _ w1).alloc (Nat.le_refl _) _
      have CV : (convert 77 9 (.slice (some ⟨w1.heap.size, 0, none⟩) 1 1)).run Tryd.prog W2 = .ok (.string ⟨#[c]⟩) W2 := by
        have e : (⟨#[c]⟩ : ByteArray) = strOfNums [(c.toNat : Int)] := by simp [strOfNums]
        rw [e]
        refine run_convert_bytes_arg W2 _ _ Tryd.underlying77 Tryd.underlying5 w1.heap.size 0 1 1 _ rfl (fun i hi => ?_) _ Tryd.underlying9
        obtain rfl : i = 0 := by omega
        rw [hW2, blk_cell (blk_new w1 _)]
        rfl
      have CT := Lib.hid (contains_any W2 c)
      have HW2 := Lib.hid hW2
      rw [hW2] at CV
      clear hW2
      go_wp2_with fail
      rw [← HW2.out]
      refine CT.out.mono ?_
      rintro e w3 ⟨rfl, rfl⟩
      have R3 : Hid (RdTo w gr s (k + 1) W2) := R1.out.below K2.out
      cases hst : starB c with
      | true =>
        have M2 : Hid (memP ((dat s).drop k) = none) := by unfold Hid; rw [M1.out, hst]; rfl
        clear hst
        go_wp2
        go_ret2
        exact .inl ⟨M2.out, _, k + 1, rfl, hlt, R3.out⟩
      | false =>
        have M2 : Hid (memP ((dat s).drop k) = some (c, (dat s).drop (k + 1))) := by unfold Hid; rw [M1.out, hst]; rfl
        clear hst
        go_wp2
        go_ret2
        exact .inr ⟨c, k + 1, M2.out, by omega, hlt, rfl, R3.out⟩
end Go.Proofs.YtmagidkgajmhoaaDoor
