/- JnJ: the walk of told and of its iterator. -/
import Derived.Test.YtoolkamajlgcbaaJnIp
import Derived.RangeFuncGives
import Derived.RangeFuncNested
import Derived.RangeFuncLeaves
import Derived.RangeFuncIn
import Derived.RangeFuncBox
import Derived.Maps.AppendAt
import Derived.Shelf.Abstract
import Derived.OwnWalkIn
import Derived.TacticsInMore
import Derived.LoopNIn
import Derived.LoopIn
set_option linter.unusedVariables false
set_option linter.unusedSimpArgs false
namespace Go.Proofs.Ytoolkamajlgcbaa
open Go.RowKit Go.Shelf

theorem told_make (w : World) (m : ByteArray) : Calls Try.prog 66 #[.string m] w fun e w' => ∃ Bc, e = .returned (.func (.func 79) #[] #[.pointer (some ⟨Bc, 0, none⟩)]) ∧ w'.cell? ⟨Bc, 0, none⟩ = some (.string m) ∧ w.heap.size ≤ Bc ∧ Bc < w'.heap.size ∧ Below w.heap.size w w' := by
  go_enter Try.func66, Try.ntmps66
  go_wp2
  go_ret
  exact ⟨w.heap.size, rfl, by simp, Nat.le_refl _, by simp, (Below.refl _ w).alloc (Nat.le_refl _) _⟩
theorem and_u8 (x : Nat) : bits .and .u8 (x : Int) 1 = ((x % 2 : Nat) : Int) := by
  show IntKind.u8.wrap (((BitVec.ofInt 8 (x : Int) &&& BitVec.ofInt 8 1).toNat : Nat) : Int) = _
  rw [BitVec.ofInt_natCast, IntKind.wrap_u8, BitVec.toNat_and, BitVec.toNat_ofNat, show (BitVec.ofInt 8 1).toNat = 1 from rfl, Nat.and_one_is_mod]
  omega
theorem told_bit {m : ByteArray} {k : Nat} (h : k / 8 < m.size) : bits .and .u8 ((m[k / 8].toNat : Int) / 2 ^ (k % 8)) 1 = if told m k = true then 1 else 0 := by
  have e : ((m[k / 8].toNat : Int) / 2 ^ (k % 8)) = ((m[k / 8].toNat / 2 ^ (k % 8) : Nat) : Int) := by simp
  have e2 : m.data.toList.getD (k / 8) 0 = m[k / 8] := by
    rw [List.getD_eq_getElem?_getD, Array.getElem?_toList, Array.getElem?_eq_getElem (by exact h)]
    rfl
  rw [e, and_u8]
  unfold told
  rw [e2]
  have := Nat.mod_two_eq_zero_or_one (m[k / 8].toNat / 2 ^ (k % 8))
  rcases this with h | h <;> rw [h] <;> rfl
set_option maxHeartbeats 1600000 in
set_option maxRecDepth 100000 in
/-- The iterator: whatever the caller keeps between its rounds; a round that says 'no more' ends it. -/
theorem told_in (F : Fence) (n : Nat) (hf : F.fn 79) (hro : F.round = none) (hn : 1 ≤ n) (l Bc : Nat) (m : ByteArray) (hm : m.size = 256) (J : Nat → World → Prop) (X : World → Prop) (W : World)
    (hbox : ∀ k W', J k W' → W'.cell? ⟨Bc, 0, none⟩ = some (.string m))
    (hno : ∀ k W', k < 128 → told m k = false → J k W' → J (k + 1) W')
    (hY : ∀ k W', k < 128 → told m k = true → J k W' → YieldAt F (n - 1) Try.prog l #[.int .i64 (k : Int)] W' fun e W'' => (e = .returned (.bool true) ∧ J (k + 1) W'') ∨ (e = .returned (.bool false) ∧ X W''))
    (h0 : J 0 W) :
    CallsIn F n Try.prog 79 #[.func (.yield l) #[] #[], .pointer (some ⟨Bc, 0, none⟩)] W fun e W' => (∃ v, e = .returned v) ∧ (J 128 W' ∨ X W') := by
  have HBX := Lib.hid hbox; have HNO := Lib.hid hno; have HY := Lib.hid hY; have H0 := Lib.hid h0; have HM := Lib.hid hm
  clear hbox hno hY h0 hm
  refine callsIn_of_wp Try.func79 rfl hf ?_ hro
  simp only [Try.ntmps79, List.size_toArray, List.length_cons, List.length_nil, Nat.reduceAdd, Nat.reduceSub, Array.replicate_succ, Array.replicate_zero, List.push_toArray, List.append_toArray, List.nil_append, List.cons_append]
  gi_wp2
  gi_loopw [4] (fun i wr => ∃ k : Nat, k ≤ 128 ∧ i = .int .i64 k ∧ Hid (J k wr)) (fun i _ => 128 - (intOf i).toNat)
  case atStart => exact ⟨0, by decide, rfl, H0⟩
  case round =>
    obtain ⟨k, hk, rfl, hJ⟩ := hrel
    by_cases hlt : k < 128
    · have bx := HBX.out k wr hJ.out
      have hkm : k / 8 < m.size := by have := HM.out; omega
      have hkm2 : (k : Int) / 8 < (m.size : Int) := by omega
      have TB := told_bit hkm
      cases ht : told m k with
      | true =>
        rw [ht, if_pos rfl] at TB
        obtain ⟨fn, tmps, assign, body, hy, hR⟩ := HY.out k wr hlt ht hJ.out
        clear ht
        gi_wp2
        refine hR.mono ?_
        rintro e W3 (⟨rfl, hJ3⟩ | ⟨rfl, hX⟩)
        · have HJ3 := Lib.hid hJ3
          clear hJ3
          gi_wp2
          go_roundw
          case rel => exact ⟨k + 1, hlt, by go_num, HJ3⟩
          case measure => simp [intOf]; omega
        · gi_wp2
          refine bodyPost_ret (results_none rfl _ _ _) rfl ?_
          exact ⟨⟨_, rfl⟩, .inr hX⟩
      | false =>
        rw [ht, if_neg (by decide)] at TB
        have HJ3 := Lib.hid (HNO.out k wr hlt ht hJ.out)
        clear ht
        gi_wp2
        refine ⟨fun f hf => (by cases hf), ?_⟩
        gi_wp2
        go_roundw
        case rel => exact ⟨k + 1, hlt, by go_num, HJ3⟩
        case measure => simp [intOf]; omega
    · obtain rfl : k = 128 := by omega
      gi_wp2
      go_end0
      exact ⟨⟨_, rfl⟩, .inl hJ.out⟩
end Go.Proofs.Ytoolkamajlgcbaa
