/- ExtB: the walks of slices.Grow and slices.Concat at spans. -/
import Derived.Test.YthloinmnojlleaaExtA
import Derived.Lib.AppendZeros
set_option linter.unusedVariables false
set_option linter.unusedSimpArgs false
namespace Go.Proofs.Ythloinmnojlleaa
open Go.RowKit

theorem zero_size : (Value.agg #[.int .i64 0, .int .i64 0]).cells.size = 2 := by
  simp [Value.cells]
set_option maxHeartbeats 800000 in
set_option maxRecDepth 100000 in
theorem grow_any (w : World) (n : Nat) (hn : n ≤ 4194304) :
    Calls Try.prog 52 #[.slice none 0 0, .int .i64 n] w fun e w' => ∃ v, e = .returned v ∧ w'.ownsRow w.heap.size 30 2 v 0 [] ∧ Below w.heap.size w w' := by
  obtain ⟨i0, hi, hz0, hz1, hz2⟩ := info_parts infoSp
  have q1 : decide ((n : Int) < 0) = false := by simp
  by_cases h0 : n = 0
  · subst h0
    go_enter Try.func52, Try.ntmps52
    go_wp2
    go_ret
    exact ⟨_, rfl, World.ownsRow_nil _ _ _ _, Below.refl _ _⟩
  · have q2 : decide (0 < (n : Int)) = true := by simp; omega
    have HA := Lib.hid (fun W ty => Lib.run_append_nil_zeros (P := Try.prog) W 28 3 ty 30 i0 _ .i64 .i64 Try.underlying28 Try.underlying3 hi hz0 n (by omega) (by rw [hz1]; decide) (by omega) (by rw [hz2]; omega))
    have c1 : n ≤ grownCap w n 0 30 := grownCap_ge _ _ _ _
    have c2 : grownCap w n 0 30 ≤ maxLen := grownCap_le_maxLen _ _ _ _ (by unfold maxLen; omega)
    have hsz : (Builtin.zeroCells (Value.agg #[.int .i64 0, .int .i64 0]).cells n ++ Builtin.zeroCells (Value.agg #[.int .i64 0, .int .i64 0]).cells (grownCap w n 0 30 - n)).size = grownCap w n 0 30 * 2 := by
      rw [Array.size_append, size_zeroCells, size_zeroCells, zero_size]
      omega
    have HZ := Lib.hid hsz
    clear hsz
    go_enter Try.func52, Try.ntmps52
    go_wp2_with (at_builtin; refine Lib.wpList_append_run _ rfl (.tmp 20) (.tmp 21) 28 3 rfl _ _ rfl rfl _ _ (HA.out w _) ?_)
    go_ret
    exact ⟨_, rfl, ⟨by simp, .inr ⟨w.heap.size, _, _, rfl, Nat.le_refl _, blk_new w.drew _, Nat.zero_le _, c2, HZ.out, by simp⟩⟩, (Below.refl _ w).drew.alloc (Nat.le_refl _) _⟩

/-- Spans that are read: where they lie. -/
def RdSp (w : World) (s : Value) (L : List (Nat × Nat)) : Prop := ∃ A c, s = .slice A L.length c ∧ L.length ≤ c ∧ (A = none → c = 0) ∧ ∀ ad, A = some ad → ∀ j u, (sp L)[j]? = some u → w.cell? (ad.add j) = some u
theorem RdSp.below {w w' : World} {s : Value} {L : List (Nat × Nat)} (h : RdSp w s L) (hb : Below w.heap.size w w') : RdSp w' s L := by
  obtain ⟨A, c, rfl, h1, h2, h3⟩ := h
  exact ⟨A, c, rfl, h1, h2, fun ad e j u hu => cell_below hb (h3 ad e j u hu)⟩

/-- The first k of some lists, one behind the other. -/
def acc (Ls : List (List (Nat × Nat))) (k : Nat) : List (Nat × Nat) := (Ls.take k).flatten
theorem acc_zero (Ls : List (List (Nat × Nat))) : acc Ls 0 = [] := by simp [acc]
theorem acc_succ (Ls : List (List (Nat × Nat))) (k : Nat) (h : k < Ls.length) : acc Ls (k + 1) = acc Ls k ++ Ls[k] := by
  unfold acc
  rw [List.take_succ_eq_append_getElem h, List.flatten_append]
  simp
theorem acc_all (Ls : List (List (Nat × Nat))) : acc Ls Ls.length = Ls.flatten := by unfold acc; rw [List.take_length]

set_option maxHeartbeats 1600000 in
set_option maxRecDepth 100000 in
theorem concat_any (w : World) (b c : Nat) (ss : List Value) (Ls : List (List (Nat × Nat))) (hl : ss.length = Ls.length) (h3 : Ls.length ≤ 3) (hcell : ∀ j (h : j < ss.length), w.cell? ⟨b, j, none⟩ = some ss[j])
    (hr : ∀ j (h : j < ss.length), RdSp w ss[j] (Ls[j]'(by omega))) (hL : ∀ L ∈ Ls, L.length ≤ 1048578) :
    Calls Try.prog 32 #[.slice (some ⟨b, 0, none⟩) ss.length c] w fun e w' => ∃ v, e = .returned v ∧ w'.ownsRow w.heap.size 30 2 v Ls.flatten.length (sp Ls.flatten) ∧ Below w.heap.size w w' := by
  obtain ⟨i0, hi, hz0, hz1, hz2⟩ := info_parts infoSp
  have SUM : Hid (∀ k, k ≤ Ls.length → (acc Ls k).length ≤ k * 1048578) := by
    intro k
    induction k with
    | zero => intro _; rw [acc_zero]; simp
    | succ k ih =>
      intro hk
      have := ih (by omega)
      rw [acc_succ _ _ (by omega), List.length_append]
      have := hL Ls[k] (List.getElem_mem _)
      omega
  have SN : Hid (∀ k (h : k < Ls.length), acc Ls (k + 1) = acc Ls k ++ Ls[k]) := fun k h => acc_succ Ls k h
  have HC := Lib.hid hcell; have HR := Lib.hid hr; have HL := Lib.hid hL
  have h3s : ss.length ≤ 3 := by omega
  clear hcell hr hL
  go_enter Try.func32, Try.ntmps32
  go_wp2_with fail
  go_loopw [3, 11] (fun n i wr => ∃ k : Nat, k ≤ ss.length ∧ i = .int .i64 k ∧ n = .int .i64 ((acc Ls k).length : Nat) ∧ w = wr) (fun _ i _ => ss.length - (intOf i).toNat)
  case atStart => exact ⟨0, Nat.zero_le _, rfl, by rw [acc_zero]; rfl, rfl⟩
  case round =>
    obtain ⟨k, hk, rfl, rfl, rfl⟩ := hrel
    by_cases hlt : k < ss.length
    · have c0 := HC.out k hlt
      obtain ⟨A, cp, e, _, _, _⟩ := HR.out k hlt
      rw [e] at c0
      have hs := congrArg List.length (SN.out k (by omega))
      rw [List.length_append] at hs
      have hs := Lib.hid hs
      have hm : (acc Ls k).length + (Ls[k]'(by omega)).length ≤ 3145734 := by
        have h1 := SUM.out (k + 1) (by omega)
        rw [hs.out] at h1
        omega
      have hm2 : ¬ (((acc Ls k).length : Int) + ((Ls[k]'(by omega)).length : Nat) < 0) := by omega
      have hd : decide ((((acc Ls k).length : Int) + ((Ls[k]'(by omega)).length : Nat)) < 0) = false := by simp; omega
      clear e
      generalize (Ls[k]'(by omega)).length = m at c0 hs hm hm2 hd
      generalize (acc Ls k).length = t at hs hm hm2 hd ⊢
      go_wp2
      go_roundw
      case rel => exact ⟨k + 1, hlt, by go_num, congrArg (Value.int .i64) (by rw [hs.out]; omega), trivial⟩
      case measure => simp [intOf]; omega
    · obtain rfl : k = ss.length := by omega
      rw [hl]
      have hfl : (acc Ls Ls.length).length ≤ 3145734 := by
        have := SUM.out Ls.length (Nat.le_refl _)
        omega
      go_wp2_with fail
      refine (grow_any _ _ (by omega)).mono ?_
      rintro e w1 ⟨v1, rfl, ho, b1⟩
      have HO := Lib.hid ho; have B1 := Lib.hid b1
      clear ho b1
      go_wp2_with fail
      go_loopw [6, 27] (fun v i wr => ∃ k : Nat, k ≤ ss.length ∧ i = .int .i64 k ∧ Hid (wr.ownsRow w.heap.size 30 2 v (acc Ls k).length (sp (acc Ls k))) ∧ Hid (Below w.heap.size w wr)) (fun _ i _ => ss.length - (intOf i).toNat)
      case atStart => exact ⟨0, Nat.zero_le _, rfl, by rw [acc_zero]; exact HO, B1⟩
      case round =>
        obtain ⟨k, hk, rfl, ho, hb⟩ := hrel
        by_cases hlt : k < ss.length
        · have c0 := cell_below hb.out (HC.out k hlt)
          obtain ⟨A, cp, e, hmc, hnil, hsrc⟩ := (HR.out k hlt).below hb.out
          rw [e] at c0
          have SNk := Lib.hid (SN.out k (by omega))
          have few := HL.out (Ls[k]'(by omega)) (List.getElem_mem _)
          have tot := SUM.out k (by omega)
          have hsz : w.heap.size ≤ wr.heap.size := hb.out.size
          clear e
          generalize (Ls[k]'(by omega)) = M at c0 hsrc SNk few hmc
          have TOT : Hid ((acc Ls k).length ≤ 3145734) := by unfold Hid; omega
          clear tot
          cases A with
          | none =>
            obtain rfl : cp = 0 := hnil rfl
            have hm : M = [] := by
              cases M with
              | nil => rfl
              | cons x l => simp at hmc
            subst hm
            clear hsrc
            go_wp2_with (at_builtin; refine wpList_append_own_none rfl (.tmp 31) (.tmp 32) 28 rfl w.heap.size 30 i0 2 Try.underlying28 hi u6 (acc Ls k).length _ rfl ho.out rfl ?_)
            go_roundw
            case rel => exact ⟨k + 1, hlt, by go_num, by rw [SNk.out, List.append_nil]; exact ho, hb⟩
            case measure => simp [intOf]; omega
          | some ad =>
            go_wp2_with (at_builtin; refine wpList_append_own_at _ rfl (.tmp 31) (.tmp 32) 28 rfl w.heap.size 30 i0 _ 2 16 Try.underlying28 hi hz0 hz1 hz2 rfl (by decide) u6 (acc Ls k).length _ rfl ho.out ad M.length cp (sp M) rfl (sp_length M) (hsrc ad rfl) (sp_one M) (by have := TOT.out; unfold maxLen; omega) (by have := TOT.out; omega) hsz ?_)
            intro v2 w2 ho2 hg2 _ _
            have hb2 : Hid (Below w.heap.size w w2) := hb.out.grown hg2 hsz (fun j hj => (ho.out.lt j hj).1)
            have HO2 : Hid (w2.ownsRow w.heap.size 30 2 v2 (acc Ls (k + 1)).length (sp (acc Ls (k + 1)))) := by
              unfold Hid
              rw [SNk.out, List.length_append, sp_append]
              exact ho2
            clear ho2 hg2
            go_wp2
            go_roundw
            case rel => exact ⟨k + 1, hlt, by go_num, HO2, hb2⟩
            case measure => simp [intOf]; omega
        · obtain rfl : k = ss.length := by omega
          go_wp2
          go_ret
          refine ⟨_, rfl, ?_, hb.out⟩
          rw [← acc_all, ← hl]
          exact ho.out
end Go.Proofs.Ythloinmnojlleaa
