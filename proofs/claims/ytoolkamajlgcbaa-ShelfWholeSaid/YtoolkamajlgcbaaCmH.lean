/- CmH: the document's Find, Size, Get of entries. -/
import Derived.Test.YtoolkamajlgcbaaCmG
set_option linter.unusedVariables false
set_option linter.unusedSimpArgs false
namespace Go.Proofs.Ytoolkamajlgcbaa
open Go.RowKit

/-- Where a key stands, or would. -/
def fndI (l : PL) (a : ByteArray) : Nat := (l.takeWhile (fun p => ltB p.1 a)).length
def hitI (l : PL) (a : ByteArray) : Bool := if h : fndI l a < l.length then decide (l[fndI l a].1 = a) else false
theorem fnd_le (l : PL) (a : ByteArray) : fndI l a ≤ l.length := List.IsPrefix.length_le (List.takeWhile_prefix _)
theorem fnd_at {l : PL} {a : ByteArray} {k : Nat} (h : ∀ j (hj : j < l.length), j < k → ltB l[j].1 a = true) (hk : k ≤ l.length) (hs : ∀ h : k < l.length, ltB l[k].1 a = false) : fndI l a = k := by
  unfold fndI
  induction l generalizing k with
  | nil => simp at hk; subst hk; rfl
  | cons p r ih =>
    cases k with
    | zero =>
      have := hs (by simp)
      simp only [List.getElem_cons_zero] at this
      rw [List.takeWhile_cons, this]
      rfl
    | succ k =>
      have h0 := h 0 (by simp) (by omega)
      simp only [List.getElem_cons_zero] at h0
      rw [List.takeWhile_cons, h0]
      simp only [if_true, List.length_cons]
      congr 1
      exact ih (fun j hj hjk => by
        have := h (j + 1) (by simp; omega) (by omega)
        simpa using this) (by simp at hk; omega) (fun hh => by
        have := hs (by simp; omega)
        simpa using this)
set_option maxHeartbeats 1600000 in
set_option maxRecDepth 100000 in
theorem rfind_any (w : World) (A : Option Addr) (c : Nat) (l : PL) (h : RdPr w A l) (hn : l.length ≤ 1000000000) (a : ByteArray) :
    Calls Try.prog 60 #[.slice A l.length c, .string a] w fun e w' => e = .returned (.tuple #[.int .i64 (fndI l a : Nat), .bool (hitI l a)]) ∧ Below w.heap.size w w' := by
  have H := Lib.hid h
  clear h
  go_enter Try.func60, Try.ntmps60
  go_wp2_with fail
  go_loopw [6] (fun iv wr => ∃ k : Nat, k ≤ l.length ∧ iv = .int .i64 k ∧ Hid (∀ j (hj : j < l.length), j < k → ltB l[j].1 a = true) ∧ Hid (Below w.heap.size w wr)) (fun i _ => l.length - (intOf i).toNat)
  case atStart => exact ⟨0, Nat.zero_le _, rfl, fun j _ h => absurd h (Nat.not_lt_zero _), Below.refl _ _⟩
  case round =>
    obtain ⟨k, hk, rfl, he, hb⟩ := hrel
    by_cases hlt : k < l.length
    · obtain ⟨b1, o1, rfl, hc1⟩ := H.out (by omega)
      obtain ⟨y1, y2⟩ := hc1 k hlt
      replace y1 := cell_below hb.out y1
      have hkl : (k : Int) < (l.length : Int) := by omega
      cases hcmp : ltB l[k].1 a with
      | false =>
        have FI : fndI l a = k := fnd_at he.out hk (fun _ => hcmp)
        have HI : hitI l a = (l[k].1.toList == a.toList) := by
          unfold hitI
          simp only [FI]
          rw [dif_pos hlt]
          cases hd : (l[k].1.toList == a.toList) with
          | true => exact decide_eq_true (toListB_inj (by simpa using hd))
          | false => exact decide_eq_false (fun e => by rw [e] at hd; simp at hd)
        have HH : Hid (hitI l a = (l[k].1.toList == a.toList)) := HI
        have HF := Lib.hid FI
        have hc2 : Op.bytesLess l[k].1.toList a.toList = false := hcmp
        generalize l[k].1 = p1 at y1 HH hc2
        clear hcmp FI HI hc1
        have y1' : wr.drew.cell? ⟨b1, o1 + k * 2, none⟩ = some (.string p1) := y1
        go_wp2_with fail
        refine wp_region_flag (fun w' => w'.cell? ⟨b1, o1 + k * 2, none⟩ = some (.string p1)) [(0, 1), (1, 1), (2, 1), (3, 1), (4, 1), (6, 1), (8, 1), (5, 0), (7, 1), (9, 1)] (by kernel_rfl) (by kernel_rfl) y1' ?_
        simp only [ordered, List.map_cons, List.map_nil, List.getD_cons_zero, List.getD_cons_succ]
        repeat (refine wpF_dry (fun K hK => ?_); go_simp; refine hK _ ?_; clear hK K)
        refine wpF_do ?_
        go_wp2_with fail
        refine ⟨y1', ?_⟩
        repeat (refine wpF_dry (fun K hK => ?_); go_simp; refine hK _ ?_; clear hK K)
        refine wpF_nil ?_
        go_wp2
        go_ret2
        refine ⟨?_, hb.out.drew⟩
        rw [HF.out, HH.out]
        rfl
      | true =>
        have hc2 : Op.bytesLess l[k].1.toList a.toList = true := hcmp
        have HE : Hid (∀ j (hj : j < l.length), j < k + 1 → ltB l[j].1 a = true) := fun j hj h => by
          by_cases hjk : j = k
          · subst hjk; exact hcmp
          · exact he.out j hj (by omega)
        generalize l[k].1 = p1 at y1 hc2
        clear hcmp hc1 he
        go_wp2
        go_roundw
        case rel => first | exact ⟨k + 1, hlt, by go_num, HE, hb⟩ | ((repeat apply Exists.intro); refine ⟨?_, rfl⟩; exact ⟨k + 1, hlt, by go_num, HE, hb⟩)
        case measure => simp [intOf]; omega
    · have hkl : k = l.length := by omega
      have FI : Hid (fndI l a = l.length) := by unfold Hid; rw [fnd_at he.out hk (fun h => absurd h hlt), hkl]
      have HI : Hid (hitI l a = false) := by
        unfold Hid hitI
        rw [dif_neg (by rw [FI.out]; omega)]
      clear he
      subst hkl
      go_wp2
      go_ret2
      refine ⟨?_, hb.out⟩
      rw [FI.out, HI.out]
      rfl
set_option maxHeartbeats 1600000 in
set_option maxRecDepth 100000 in
theorem rsize_any (w : World) (A : Option Addr) (c : Nat) (l : PL) (h : RdPr w A l) (hs : Small l) :
    Calls Try.prog 32 #[.slice A l.length c] w fun e w' => e = .returned (.int .i64 (szL l : Nat)) ∧ Below w.heap.size w w' := by
  have HL := Lib.hid h; have HS := Lib.hid hs
  have hlen := hs.1
  clear h hs
  go_enter Try.func32, Try.ntmps32
  go_wp2_with fail
  go_loopw [3, 4] (fun s iv wr => ∃ k : Nat, k ≤ l.length ∧ iv = .int .i64 k ∧ s = .int .i64 (szL (l.take k) : Nat) ∧ Hid (Below w.heap.size w wr)) (fun _ i _ => l.length - (intOf i).toNat)
  case atStart => exact ⟨0, Nat.zero_le _, rfl, rfl, Below.refl _ _⟩
  case round =>
    obtain ⟨k, hk, rfl, rfl, hb⟩ := hrel
    by_cases hlt : k < l.length
    · obtain ⟨b, o, rfl, hc⟩ := HL.out (by omega)
      obtain ⟨z0, z1⟩ := hc k hlt
      replace z0 := cell_below hb.out.drew z0; replace z1 := cell_below hb.out.drew z1
      have S1 := HS.out.2 l[k] (List.getElem_mem _)
      have ST : Hid (szL (l.take (k + 1)) = szL (l.take k) + szP l[k]) := by unfold Hid; rw [List.take_succ_eq_append_getElem hlt, szL_append]
      have SB : szL (l.take k) ≤ l.length * 3000000 := by
        have := szL_le (l := l.take k) (fun p hp => HS.out.2 p (List.mem_of_mem_take hp))
        rw [List.length_take] at this
        exact Nat.le_trans this (Nat.mul_le_mul_right _ (Nat.min_le_right _ _))
      generalize l[k] = x at z0 z1 S1 ST
      obtain ⟨x1, x2⟩ := x
      simp only at z0 z1 S1
      obtain ⟨S1, S2⟩ := S1
      generalize szL (l.take k) = acc at ST SB
      obtain ⟨acc2, hacc⟩ : ∃ a, a = szL (l.take (k + 1)) := ⟨_, rfl⟩
      rw [← hacc] at ST
      have HA := Lib.hid hacc
      clear hc hacc
      have ST2 : acc2 = acc + (3 + x1.size + x2.size) := ST.out
      have e1 : (acc : Int) + 3 + (x1.size : Int) + (x2.size : Int) = (acc2 : Int) := by omega
      have hac : acc2 ≤ 3000000000000 + 3000000 := by omega
      have hki : (k : Int) < (l.length : Int) := by omega
      have hb0 : acc ≤ 3000000000000 := by omega
      have w1 : IntKind.i64.wrap ((acc : Int) + 3) = (acc : Int) + 3 := by rw [IntKind.wrap_i64]; omega
      have w2 : IntKind.i64.wrap ((acc : Int) + 3 + (x1.size : Int)) = (acc : Int) + 3 + (x1.size : Int) := by rw [IntKind.wrap_i64]; omega
      have w3 : IntKind.i64.wrap ((acc : Int) + 3 + (x1.size : Int) + (x2.size : Int)) = (acc2 : Int) := by rw [e1, IntKind.wrap_i64]; omega
      have HE1 := Lib.hid e1
      clear ST2 ST e1 SB
      go_wp2_with fail
      refine wp_region_flag (fun w' => w'.cell? ⟨b, o + k * 2, none⟩ = some (.string x1) ∧ w'.cell? ⟨b, o + k * 2 + 1, none⟩ = some (.string x2)) [(0, 1), (1, 1), (2, 1), (3, 1), (4, 1), (5, 1), (9, 1), (10, 1), (11, 1), (12, 1), (6, 2), (7, 1), (8, 1), (13, 0), (14, 1), (15, 1), (16, 1)] (by kernel_rfl) (by kernel_rfl) ⟨z0, z1⟩ ?_
      simp only [ordered, List.map_cons, List.map_nil, List.getD_cons_zero, List.getD_cons_succ]
      repeat (refine wpF_dry (fun K hK => ?_); go_simp; refine hK _ ?_; clear hK K)
      refine wpF_read (.string x1) rfl (fun w' hS => by obtain ⟨s0, s1⟩ := hS; go_simp) (fun K hK => ?_); go_simp; refine hK _ ?_; clear hK K
      repeat (refine wpF_dry (fun K hK => ?_); go_simp; refine hK _ ?_; clear hK K)
      refine wpF_do ?_
      go_wp2_with fail
      refine ⟨⟨z0, z1⟩, ?_⟩
      repeat (refine wpF_dry (fun K hK => ?_); go_simp; refine hK _ ?_; clear hK K)
      refine wpF_nil ?_
      go_wp2
      go_roundw
      case rel => exact ⟨k + 1, hlt, by go_num, by rw [HA.out], hb.out.drew⟩
      case measure => simp [intOf]; omega
    · have hkl : k = l.length := by omega
      subst hkl
      rw [List.take_length]
      go_wp2
      go_ret
      exact ⟨rfl, hb.out⟩
/-- What a key has. -/
def getF (l : PL) (a : ByteArray) : Option ByteArray := if h : fndI l a < l.length then (if l[fndI l a].1 = a then some l[fndI l a].2 else none) else none
theorem getF_hit (l : PL) (a : ByteArray) : (getF l a).isSome = hitI l a := by
  unfold getF hitI
  split
  · split <;> rename_i h <;> simp [h]
  · rfl
set_option maxHeartbeats 1600000 in
set_option maxRecDepth 100000 in
theorem rget_any (w : World) (A : Option Addr) (c : Nat) (l : PL) (h : RdPr w A l) (hn : l.length ≤ 1000000000) (a : ByteArray) :
    Calls Try.prog 28 #[.slice A l.length c, .string a] w fun e w' => e = .returned (.tuple #[.string ((getF l a).getD ByteArray.empty), .bool (getF l a).isSome]) ∧ Below w.heap.size w w' := by
  have FA := Lib.hid (rfind_any w A c l h hn a)
  have H := Lib.hid h
  clear h
  cases hh : hitI l a with
  | false =>
    rw [hh] at FA
    have G0 : Hid (getF l a = none) := by
      have := getF_hit l a
      rw [hh] at this
      unfold Hid
      cases hg : getF l a with
      | none => rfl
      | some v => rw [hg] at this; cases this
    generalize getF l a = R at G0 ⊢
    clear hh
    go_enter Try.func28, Try.ntmps28
    go_wp2_with fail
    refine FA.out.mono ?_
    rintro e w2 ⟨rfl, q2⟩
    have Q2 := Lib.hid q2
    clear q2
    go_wp2
    go_ret2
    refine ⟨?_, Q2.out⟩
    rw [G0.out]
    rfl
  | true =>
    have hi : fndI l a < l.length := by
      unfold hitI at hh
      split at hh
      · assumption
      · cases hh
    obtain ⟨b, o, rfl, hc⟩ := H.out (by omega)
    obtain ⟨z0, z1⟩ := hc _ hi
    have G0 : Hid (getF l a = some l[fndI l a].2) := by
      have e : l[fndI l a].1 = a := by
        unfold hitI at hh
        rw [dif_pos hi] at hh
        exact of_decide_eq_true hh
      unfold Hid getF
      rw [dif_pos hi, if_pos e]
    rw [hh] at FA
    generalize l[fndI l a].2 = v at z1 G0
    generalize fndI l a = i at hi FA z1
    have hii : (i : Int) < (l.length : Int) := by omega
    generalize getF l a = R at G0 ⊢
    clear hh hc z0
    go_enter Try.func28, Try.ntmps28
    go_wp2_with fail
    refine FA.out.mono ?_
    rintro e w2 ⟨rfl, q2⟩
    have Q2 := Lib.hid q2
    replace z1 := cell_below q2 z1
    clear q2
    go_wp2
    go_ret2
    refine ⟨?_, Q2.out⟩
    rw [G0.out]
    rfl
end Go.Proofs.Ytoolkamajlgcbaa
