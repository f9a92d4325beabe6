/- NumD: the walk of Decode's closure (written by gen_dec.py). -/
import Derived.Test.YthloinmnojlleaaNumC
set_option linter.unusedVariables false
set_option linter.unusedSimpArgs false
namespace Go.Proofs.Ythloinmnojlleaa
open Go.RowKit

theorem get_suffix {L : List UInt8} {k : Nat} {y : Nat × List UInt8} (h : getR 0 (L.drop k) = some y) : L.drop (L.length - y.2.length) = y.2 ∧ L.length - y.2.length ≤ L.length := by
  obtain ⟨n, r⟩ := y
  have h1 := (putN_getR _ _ _ _ h).2
  have e : L = (L.take k ++ putN n) ++ r := by rw [List.append_assoc, ← h1, List.take_append_drop]
  refine ⟨?_, Nat.sub_le _ _⟩
  have hl := congrArg List.length e
  rw [List.length_append] at hl
  have hq : L.length - r.length = (L.take k ++ putN n).length := by omega
  simp only
  rw [hq]
  have := @List.drop_left _ (L.take k ++ putN n) r
  rw [← e] at this
  exact this
/-- Where the bytes are read, and the two numbers. -/
structure Cur (w : World) (ga gn q X Y : Nat) : Prop where
  a : w.heap[ga]? = some (.cells #[.int .i64 (q : Nat)] 3 (0, 0))
  n : w.heap[gn]? = some (.cells #[.int .u64 (X : Nat), .int .u64 (Y : Nat)] 74 (0, 0))
theorem Cur.step0 {w : World} {ga gn q X Y : Nat} (h : Cur w ga gn q X Y) (hne : ga ≠ gn) (x q' : Nat) : Cur ((w.setCell ⟨gn, 0, none⟩ (.int .u64 (x : Nat))).setCell ⟨ga, 0, none⟩ (.int .i64 (q' : Nat))) ga gn q' x Y := by
  refine ⟨?_, ?_⟩
  · rw [blk_set ((blk_set_ne (p := ⟨gn, 0, none⟩) (fun e => hne e.symm) _).trans h.a) 0 _]
    rfl
  · rw [blk_set_ne (p := ⟨ga, 0, none⟩) hne, blk_set h.n 0 _]
    rfl
theorem Cur.step1 {w : World} {ga gn q X Y : Nat} (h : Cur w ga gn q X Y) (hne : ga ≠ gn) (x q' : Nat) : Cur ((w.setCell ⟨gn, 1, none⟩ (.int .u64 (x : Nat))).setCell ⟨ga, 0, none⟩ (.int .i64 (q' : Nat))) ga gn q' X x := by
  refine ⟨?_, ?_⟩
  · rw [blk_set ((blk_set_ne (p := ⟨gn, 1, none⟩) (fun e => hne e.symm) _).trans h.a) 0 _]
    rfl
  · rw [blk_set_ne (p := ⟨ga, 0, none⟩) hne, blk_set h.n 1 _]
    rfl
theorem Cur.keep {w w' : World} {S : Nat → Prop} {ga gn q X Y : Nat} (h : Cur w ga gn q X Y) (ht : Touch S w w') (h1 : ¬ S ga) (h2 : ¬ S gn) : Cur w' ga gn q X Y := ⟨blk_touch ht h.a h1, blk_touch ht h.n h2⟩
/-- What the closure does. -/
def TwoTo (L : List UInt8) (k : Nat) (w : World) (ga gn : Nat) (e : Ending) (w' : World) : Prop :=
  (match get2 (L.drop k) with
    | some p => e = .returned (.bool true) ∧ ∃ q, q ≤ L.length ∧ L.drop q = p.2.2 ∧ Cur w' ga gn q p.1 p.2.1
    | none => e = .returned (.bool false)) ∧ Touch (fun j => j = ga ∨ j = gn) w w'
set_option maxHeartbeats 1600000 in
set_option maxRecDepth 100000 in
theorem two_any (w0 w : World) (gb ga gn : Nat) (vb : Value) (L : List UInt8) (k X0 Y0 : Nat) (hb : w.heap[gb]? = some (.cells #[vb] 40 (0, 0))) (hc : Cur w ga gn k X0 Y0) (hne : ga ≠ gn) (hba : gb ≠ ga) (hbn : gb ≠ gn)
    (hr : RdB w0 vb L) (hB : Below w0.heap.size w0 w) (h1 : w0.heap.size ≤ ga) (h2 : w0.heap.size ≤ gn) (hk : k ≤ L.length) (hl : L.length ≤ 1099511627776) :
    Calls Try.prog 34 #[.pointer (some ⟨gb, 0, none⟩), .pointer (some ⟨ga, 0, none⟩), .pointer (some ⟨gn, 0, none⟩)] w fun e w' => TwoTo L k w ga gn e w' := by
  have HR := Lib.hid hr
  obtain ⟨A, c, rfl⟩ := hr.slice
  have HC := Lib.hid hc
  have HB := Lib.hid hB
  have HBK := Lib.hid hb
  have HD := Lib.hid (And.intro hne (And.intro hba hbn))
  have HG := Lib.hid (And.intro h1 h2)
  clear hr hc hB hb h1 h2 hne hba hbn
  have T0 : Hid (Touch (fun j => j = ga ∨ j = gn) w w) := Touch.refl _ w
  go_enter Try.func34, Try.ntmps34
  go_wp2_with fail
  go_loopw [8] (fun ii wr => ∃ (i q X Y : Nat), ii = .int .i64 i ∧ q ≤ L.length ∧ Hid (Cur wr ga gn q X Y) ∧ Hid (Touch (fun j => j = ga ∨ j = gn) w wr) ∧ (i = 0 ∧ Hid (q = k) ∨ i = 1 ∧ Hid (∃ r, getR 0 (L.drop k) = some (X, r) ∧ X ≤ 1048576 ∧ L.drop q = r) ∨ i = 2 ∧ Hid (∃ r, get2 (L.drop k) = some (X, Y, r) ∧ L.drop q = r))) (fun ii _ => 2 - (intOf ii).toNat)
  case atStart => exact ⟨0, k, X0, Y0, rfl, hk, HC, T0, .inl ⟨rfl, rfl⟩⟩
  case round =>
    obtain ⟨i, q, X, Y, rfl, hq, HW, TW, hi⟩ := hrel
    clear HC T0
    rcases hi with ⟨rfl, HI⟩ | ⟨rfl, HI⟩ | ⟨rfl, HI⟩
    · have a0 := blk_cell HW.out.a 0
      have n0 := blk_cell HW.out.n 0
      have b0 := blk_cell (blk_touch TW.out HBK.out (by have := HD.out; omega)) 0
      simp only [List.getElem?_toArray, List.getElem?_cons_zero, List.getElem?_cons_succ] at a0 n0 b0
      have a1 := blk_free HW.out.a 0
      have n1 := blk_free HW.out.n 0
      have BW : Hid (Below w0.heap.size w0 wr) := HB.out.trans (TW.out.below HB.out.size (fun j hj => by have := HG.out; rcases hj with rfl | rfl <;> omega))
      have GT := Lib.hid (get_any wr (.slice A L.length c) L (HR.out.below BW.out) q hq hl)
      go_wp2_with fail
      refine GT.out.mono ?_
      rintro e w1 ⟨gt, rfl⟩
      clear GT
      unfold GetTo at gt
      cases hg : getR 0 (L.drop q) with
      | none =>
        rw [hg] at gt
        obtain ⟨x, hx, rfl⟩ := gt
        have dx : (x != 0) = true := by simpa using hx
        have HGN := Lib.hid hg
        clear hg hx
        go_wp2
        go_ret
        refine ⟨?_, TW.out⟩
        have hnone : get2 (L.drop k) = none := by
          unfold get2
          have hgn := HGN.out
          rw [HI.out] at hgn
          rw [hgn]
        rw [hnone]
        rfl
      | some y =>
        rw [hg] at gt
        obtain ⟨n, r⟩ := y
        simp only at gt
        obtain ⟨hs1, hs2⟩ := get_suffix hg
        simp only at hs1 hs2
        have HGN := Lib.hid hg
        obtain ⟨k1, hk1⟩ : ∃ k1, k1 = L.length - r.length := ⟨_, rfl⟩
        rw [← hk1] at gt hs1 hs2
        have HS := Lib.hid hs1
        clear hg hs1 hk1
        subst gt
        by_cases hm : 1048576 < n
        · have dm : decide (1048576 < n) = true := by simpa using hm
          have dm2 : decide ((1048576 : Int) < (n : Int)) = true := by simp; omega
          have HM := Lib.hid hm
          clear hm
          go_wp2
          go_ret
          refine ⟨?_, TW.out⟩
          have hnone : get2 (L.drop k) = none := by
            unfold get2
            have hgn := HGN.out
            rw [HI.out] at hgn
            rw [hgn]
            simp only
            rw [if_pos HM.out]
          rw [hnone]
          rfl
        · have dm : decide (1048576 < n) = false := by simpa using hm
          have dm2 : decide ((1048576 : Int) < (n : Int)) = false := by simp; omega
          have HM := Lib.hid hm
          clear hm
          have ne1 := HD.out.1
          have ne2 : gn ≠ ga := fun e => ne1 e.symm
          have n2 : (wr.setCell ⟨gn, 0, none⟩ (.int .u64 (n : Nat))).frozen? ⟨ga, 0, none⟩ = false := blk_free ((blk_set_ne (p := ⟨gn, 0, none⟩) ne2 _).trans HW.out.a) 0
          have n3 := blk_cell ((blk_set_ne (w := wr) (p := ⟨gn, 0, none⟩) ne2 (.int .u64 (n : Nat))).trans HW.out.a) 0
          simp only [List.getElem?_toArray, List.getElem?_cons_zero] at n3
          go_wp2
          go_roundw
          case rel =>
            have T1 : Touch (fun j => j = ga ∨ j = gn) w ((wr.setCell ⟨gn, 0, none⟩ (.int .u64 (n : Nat))).setCell ⟨ga, 0, none⟩ (.int .i64 (k1 : Nat))) := (TW.out.setCell (p := ⟨gn, 0, none⟩) (.inl (.inr rfl)) _).setCell (p := ⟨ga, 0, none⟩) (.inl (.inl rfl)) _
            refine ⟨1, k1, n, Y, rfl, hs2, HW.out.step0 HD.out.1 n k1, T1, .inr (.inl ⟨rfl, r, ?_, by have := HM.out; omega, HS.out⟩)⟩
            rw [← HI.out]
            exact HGN.out
          case measure => simp [intOf]
    · have a0 := blk_cell HW.out.a 0
      have n0 := blk_cell HW.out.n 1
      have b0 := blk_cell (blk_touch TW.out HBK.out (by have := HD.out; omega)) 0
      simp only [List.getElem?_toArray, List.getElem?_cons_zero, List.getElem?_cons_succ] at a0 n0 b0
      have a1 := blk_free HW.out.a 0
      have n1 := blk_free HW.out.n 1
      have BW : Hid (Below w0.heap.size w0 wr) := HB.out.trans (TW.out.below HB.out.size (fun j hj => by have := HG.out; rcases hj with rfl | rfl <;> omega))
      have GT := Lib.hid (get_any wr (.slice A L.length c) L (HR.out.below BW.out) q hq hl)
      go_wp2_with fail
      refine GT.out.mono ?_
      rintro e w1 ⟨gt, rfl⟩
      clear GT
      unfold GetTo at gt
      cases hg : getR 0 (L.drop q) with
      | none =>
        rw [hg] at gt
        obtain ⟨x, hx, rfl⟩ := gt
        have dx : (x != 0) = true := by simpa using hx
        have HGN := Lib.hid hg
        clear hg hx
        go_wp2
        go_ret
        refine ⟨?_, TW.out⟩
        have hnone : get2 (L.drop k) = none := by
          unfold get2
          obtain ⟨r0, h1, h2, h3⟩ := HI.out
          have hgn := HGN.out
          rw [h3] at hgn
          rw [h1]
          simp only
          rw [if_neg (by omega), hgn]
        rw [hnone]
        rfl
      | some y =>
        rw [hg] at gt
        obtain ⟨n, r⟩ := y
        simp only at gt
        obtain ⟨hs1, hs2⟩ := get_suffix hg
        simp only at hs1 hs2
        have HGN := Lib.hid hg
        obtain ⟨k1, hk1⟩ : ∃ k1, k1 = L.length - r.length := ⟨_, rfl⟩
        rw [← hk1] at gt hs1 hs2
        have HS := Lib.hid hs1
        clear hg hs1 hk1
        subst gt
        by_cases hm : 1048576 < n
        · have dm : decide (1048576 < n) = true := by simpa using hm
          have dm2 : decide ((1048576 : Int) < (n : Int)) = true := by simp; omega
          have HM := Lib.hid hm
          clear hm
          go_wp2
          go_ret
          refine ⟨?_, TW.out⟩
          have hnone : get2 (L.drop k) = none := by
            unfold get2
            obtain ⟨r0, h1, h2, h3⟩ := HI.out
            have hgn := HGN.out
            rw [h3] at hgn
            rw [h1]
            simp only
            rw [if_neg (by omega), hgn]
            simp only
            rw [if_pos HM.out]
          rw [hnone]
          rfl
        · have dm : decide (1048576 < n) = false := by simpa using hm
          have dm2 : decide ((1048576 : Int) < (n : Int)) = false := by simp; omega
          have HM := Lib.hid hm
          clear hm
          have ne1 := HD.out.1
          have ne2 : gn ≠ ga := fun e => ne1 e.symm
          have n2 : (wr.setCell ⟨gn, 1, none⟩ (.int .u64 (n : Nat))).frozen? ⟨ga, 0, none⟩ = false := blk_free ((blk_set_ne (p := ⟨gn, 1, none⟩) ne2 _).trans HW.out.a) 0
          have n3 := blk_cell ((blk_set_ne (w := wr) (p := ⟨gn, 1, none⟩) ne2 (.int .u64 (n : Nat))).trans HW.out.a) 0
          simp only [List.getElem?_toArray, List.getElem?_cons_zero] at n3
          go_wp2
          go_roundw
          case rel =>
            have T1 : Touch (fun j => j = ga ∨ j = gn) w ((wr.setCell ⟨gn, 1, none⟩ (.int .u64 (n : Nat))).setCell ⟨ga, 0, none⟩ (.int .i64 (k1 : Nat))) := (TW.out.setCell (p := ⟨gn, 1, none⟩) (.inl (.inr rfl)) _).setCell (p := ⟨ga, 0, none⟩) (.inl (.inl rfl)) _
            refine ⟨2, k1, X, n, rfl, hs2, HW.out.step1 HD.out.1 n k1, T1, .inr (.inr ⟨rfl, r, ?_, HS.out⟩)⟩
            obtain ⟨r0, h1, h2, h3⟩ := HI.out
            have hgn := HGN.out
            rw [h3] at hgn
            unfold get2
            rw [h1]
            simp only
            rw [if_neg (by omega), hgn]
            simp only
            rw [if_neg HM.out]
          case measure => simp [intOf]
    · obtain ⟨r, h1, h2⟩ := HI.out
      have HN := Lib.hid h1
      have HS := Lib.hid h2
      clear h1 h2
      go_wp2
      go_ret
      refine ⟨?_, TW.out⟩
      rw [HN.out]
      exact ⟨rfl, q, hq, HS.out, HW.out⟩
end Go.Proofs.Ythloinmnojlleaa
