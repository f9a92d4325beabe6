/- ShD: a shelf's Len and Size (written by gen_shd.py). -/
import Derived.Test.YtoolkamajlgcbaaShC
set_option linter.unusedVariables false
set_option linter.unusedSimpArgs false
namespace Go.Proofs.Ytoolkamajlgcbaa
open Go.RowKit

def lenS (sh : List (Nat × PL)) : Nat → Nat
  | 0 => 0
  | k + 1 => lenS sh k + (lfA sh k).length
def sizS (sh : List (Nat × PL)) : Nat → Nat
  | 0 => 0
  | k + 1 => sizS sh k + szL (lfA sh k)
theorem lenS_mono (sh : List (Nat × PL)) : ∀ {n k : Nat}, k ≤ n → lenS sh k ≤ lenS sh n
  | 0, k, h => by rw [show k = 0 by omega]; exact Nat.le_refl _
  | n + 1, k, h => by
    by_cases e : k = n + 1
    · rw [e]; exact Nat.le_refl _
    · exact Nat.le_trans (lenS_mono sh (n := n) (by omega)) (Nat.le_add_right _ _)
theorem sizS_mono (sh : List (Nat × PL)) : ∀ {n k : Nat}, k ≤ n → sizS sh k ≤ sizS sh n
  | 0, k, h => by rw [show k = 0 by omega]; exact Nat.le_refl _
  | n + 1, k, h => by
    by_cases e : k = n + 1
    · rw [e]; exact Nat.le_refl _
    · exact Nat.le_trans (sizS_mono sh (n := n) (by omega)) (Nat.le_add_right _ _)
set_option maxHeartbeats 1600000 in
set_option maxRecDepth 100000 in
theorem slen_any (w : World) (gs : Nat) (sh : List (Nat × PL)) (hs : ShRd w gs sh) (hn : sh.length ≤ 1000000) (hsm : ∀ i, i < sh.length → Small (lfA sh i)) (hT : lenS sh sh.length ≤ 1000000000000) :
    Calls Try.prog 25 #[.pointer (some ⟨gs, 0, none⟩)] w fun e w' => e = .returned (.int .i64 (lenS sh sh.length : Nat)) ∧ Below w.heap.size w w' := by
  have HS := Lib.hid hs; have HM := Lib.hid hsm; have HT := Lib.hid hT
  obtain ⟨A, c, g1, g2, g3⟩ := hs
  have G3 := Lib.hid g3
  clear hsm hT g3
  go_enter Try.func25, Try.ntmps25
  go_wp2_with fail
  go_loopw [3, 13] (fun s i wr => ∃ k : Nat, k ≤ sh.length ∧ i = .int .i64 k ∧ s = .int .i64 (lenS sh k : Nat) ∧ Hid (Below w.heap.size w wr)) (fun _ i _ => sh.length - (intOf i).toNat)
  case atStart => exact ⟨0, Nat.zero_le _, rfl, rfl, Below.refl _ _⟩
  case round =>
    obtain ⟨k, hk, rfl, rfl, hb⟩ := hrel
    by_cases hlt : k < sh.length
    · obtain ⟨b, o, rfl, hc⟩ := G3.out (by omega)
      obtain ⟨z0, A', c', z1, zc, zr⟩ := hc k hlt
      have ST : Hid (lenS sh (k + 1) = lenS sh k + (lfA sh k).length) := rfl
      have SB : lenS sh k ≤ 1000000000000 := Nat.le_trans (lenS_mono sh (by omega)) HT.out
      have SB2 : lenS sh (k + 1) ≤ 1000000000000 := Nat.le_trans (lenS_mono sh (by omega)) HT.out
      have SM := HM.out k hlt
      rw [← lfA_get hlt] at z1 zc zr
      replace z0 := cell_below hb.out z0; replace z1 := cell_below hb.out z1
      have ZR := Lib.hid (zr.below hb.out)
      generalize sh[k].1 = id at z0
      generalize lfA sh k = l at z1 zc ZR ST SM
      generalize lenS sh k = acc at ST SB ⊢
      obtain ⟨acc2, hacc⟩ : ∃ a, a = lenS sh (k + 1) := ⟨_, rfl⟩
      rw [← hacc] at ST SB2
      have HA := Lib.hid hacc
      have hbz : Hid (w.heap.size ≤ wr.heap.size) := hb.out.size
      clear hc hacc zr
      have e1 : (acc : Int) + (l.length : Int) = (acc2 : Int) := by have := ST.out; omega
      have B2 : ∀ o, Hid (Below w.heap.size w (wr.alloc o)) := fun o => hb.out.alloc hbz.out o
      have B2 := B2 (.cells #[.int .i64 (id : Int), .slice A' l.length c'] 82)
      go_wp2
      go_roundw
      case rel => first | exact ⟨k + 1, hlt, by go_num, by rw [HA.out], B2⟩ | ((repeat apply Exists.intro); refine ⟨?_, rfl⟩; exact ⟨k + 1, hlt, by go_num, by rw [HA.out], B2⟩)
      case measure => simp [intOf]; omega
    · have hkl : k = sh.length := by omega
      subst hkl
      go_wp2
      go_ret
      exact ⟨rfl, hb.out⟩
set_option maxHeartbeats 1600000 in
set_option maxRecDepth 100000 in
theorem ssize_any (w : World) (gs : Nat) (sh : List (Nat × PL)) (hs : ShRd w gs sh) (hn : sh.length ≤ 1000000) (hsm : ∀ i, i < sh.length → Small (lfA sh i)) (hT : sizS sh sh.length ≤ 1000000000000) :
    Calls Try.prog 16 #[.pointer (some ⟨gs, 0, none⟩)] w fun e w' => e = .returned (.int .i64 (sizS sh sh.length : Nat)) ∧ Below w.heap.size w w' := by
  have HS := Lib.hid hs; have HM := Lib.hid hsm; have HT := Lib.hid hT
  obtain ⟨A, c, g1, g2, g3⟩ := hs
  have G3 := Lib.hid g3
  clear hsm hT g3
  go_enter Try.func16, Try.ntmps16
  go_wp2_with fail
  go_loopw [3, 13] (fun s i wr => ∃ k : Nat, k ≤ sh.length ∧ i = .int .i64 k ∧ s = .int .i64 (sizS sh k : Nat) ∧ Hid (Below w.heap.size w wr)) (fun _ i _ => sh.length - (intOf i).toNat)
  case atStart => exact ⟨0, Nat.zero_le _, rfl, rfl, Below.refl _ _⟩
  case round =>
    obtain ⟨k, hk, rfl, rfl, hb⟩ := hrel
    by_cases hlt : k < sh.length
    · obtain ⟨b, o, rfl, hc⟩ := G3.out (by omega)
      obtain ⟨z0, A', c', z1, zc, zr⟩ := hc k hlt
      have ST : Hid (sizS sh (k + 1) = sizS sh k + szL (lfA sh k)) := rfl
      have SB : sizS sh k ≤ 1000000000000 := Nat.le_trans (sizS_mono sh (by omega)) HT.out
      have SB2 : sizS sh (k + 1) ≤ 1000000000000 := Nat.le_trans (sizS_mono sh (by omega)) HT.out
      have SM := HM.out k hlt
      rw [← lfA_get hlt] at z1 zc zr
      replace z0 := cell_below hb.out z0; replace z1 := cell_below hb.out z1
      have ZR := Lib.hid (zr.below hb.out)
      generalize sh[k].1 = id at z0
      generalize lfA sh k = l at z1 zc ZR ST SM
      generalize sizS sh k = acc at ST SB ⊢
      obtain ⟨acc2, hacc⟩ : ∃ a, a = sizS sh (k + 1) := ⟨_, rfl⟩
      rw [← hacc] at ST SB2
      have HA := Lib.hid hacc
      have hbz : Hid (w.heap.size ≤ wr.heap.size) := hb.out.size
      clear hc hacc zr
      obtain ⟨W2, hW2⟩ : ∃ W2, W2 = wr.alloc (.cells #[.int .i64 (id : Int), .slice A' l.length c'] 82) := ⟨_, rfl⟩
      have Q2 : Hid (Below w.heap.size w W2) := by rw [hW2]; exact hb.out.alloc hbz.out _
      have SZ := Lib.hid (sizes_any W2 A' l.length c' l rfl (ZR.out.below (by rw [hW2]; exact (Below.refl _ wr).alloc (Nat.le_refl _) _)) SM)
      have HW := Lib.hid hW2
      rw [hW2] at SZ
      have e1 : (acc : Int) + (szL l : Int) = (acc2 : Int) := by have := ST.out; omega
      have hsl : szL l ≤ 1000000000000 := by have := ST.out; omega
      generalize szL l = sp at SZ e1 ST hsl
      clear hW2
      go_wp2_with fail
      refine SZ.out.mono ?_
      rw [← HW.out]
      rintro e w3 ⟨rfl, q3⟩
      have B2 : Hid (Below w.heap.size w w3) := Q2.out.trans (q3.mono Q2.out.size)
      clear q3 SZ
      go_wp2
      go_roundw
      case rel => first | exact ⟨k + 1, hlt, by go_num, by rw [HA.out], B2⟩ | ((repeat apply Exists.intro); refine ⟨?_, rfl⟩; exact ⟨k + 1, hlt, by go_num, by rw [HA.out], B2⟩)
      case measure => simp [intOf]; omega
    · have hkl : k = sh.length := by omega
      subst hkl
      go_wp2
      go_ret
      exact ⟨rfl, hb.out⟩
end Go.Proofs.Ytoolkamajlgcbaa
