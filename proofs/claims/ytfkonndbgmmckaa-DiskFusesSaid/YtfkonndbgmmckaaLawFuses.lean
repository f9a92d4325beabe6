/- LawFuses: the walk of DiskFuses. -/
import Derived.Test.YtfkonndbgmmckaaLawB
import Derived.Test.YtfkonndbgmmckaaReg
set_option linter.unusedVariables false
set_option linter.unusedSimpArgs false
namespace Go.Proofs.Ytfkonndbgmmckaa
open Go.RowKit

/-- The disk behind k writes, its fuse having been n. -/
def fz (s n : Nat) (f : UInt8) : Nat → Dk
  | 0 => (Dk.new s).setFuse n
  | k + 1 => (fz s n f k).write (((k : Int) + 1) % s) (Dk.rep 256 f)
theorem use_in {d : Dk} {i : Int} (hd : d.down = false) (h0 : 0 ≤ i) (h1 : i < d.l.length) : d.use i = 0 := by
  unfold Dk.use; rw [if_neg (by rw [hd]; decide), if_neg (by omega)]
theorem fz_is (s n : Nat) (f : UInt8) (hs : 1 ≤ s) (hn : 1 ≤ n) : ∀ k, k ≤ n → (fz s n f k).l.length = s ∧ (fz s n f k).waits.length = k ∧ (fz s n f k).writes = k ∧ (fz s n f k).fuse = (n : Int) - k ∧ (fz s n f k).down = (k == n) ∧
    (k < n → (fz s n f k).writeE (((k : Int) + 1) % s) (Dk.rep 256 f) = 0) := by
  intro k
  induction k with
  | zero =>
    intro _
    have e : (Dk.new s).setFuseE n = 0 := by
      unfold Dk.setFuseE
      rw [if_pos (use_in rfl (by omega) (by simp [Dk.new]; omega)), if_neg (by omega)]
    have e2 : fz s n f 0 = { Dk.new s with fuse := n } := by unfold fz Dk.setFuse; rw [if_pos e]
    rw [e2]
    refine ⟨by simp [Dk.new], rfl, rfl, by simp, ?_, fun hk => ?_⟩
    · have : (0 == n) = false := by simp; omega
      rw [this]; rfl
    · unfold Dk.writeE
      rw [if_pos (use_in rfl (Int.emod_nonneg _ (by omega)) (by have := Int.emod_lt_of_pos (((0 : Nat) : Int) + 1) (show (0 : Int) < s by omega); simpa [Dk.new] using this)), if_pos (Dk.rep_size _ _)]
  | succ k ih =>
    intro hk
    obtain ⟨h1, h2, h3, h4, h5, h6⟩ := ih (by omega)
    have e := h6 (by omega)
    have e2 : fz s n f (k + 1) = (fz s n f k).wrote (((k : Int) + 1) % s) (Dk.rep 256 f) := by
      show (fz s n f k).write _ _ = _
      unfold Dk.write; rw [if_pos e]
    have hf : 0 < (fz s n f k).fuse := by rw [h4]; omega
    have hd : ((fz s n f k).wrote (((k : Int) + 1) % s) (Dk.rep 256 f)).down = (k + 1 == n) := by
      show (if 0 < (fz s n f k).fuse then ((fz s n f k).fuse - 1 == 0) else _) = _
      rw [if_pos hf, h4, Bool.eq_iff_iff]
      simp
      omega
    rw [e2]
    refine ⟨h1, by simp [Dk.wrote, h2], by simp [Dk.wrote, h3], by show (if 0 < (fz s n f k).fuse then (fz s n f k).fuse - 1 else _) = _; rw [if_pos hf, h4]; omega, hd, fun hk2 => ?_⟩
    unfold Dk.writeE
    rw [if_pos (use_in (by rw [hd]; simp; omega) (Int.emod_nonneg _ (by omega)) (by
      have := Int.emod_lt_of_pos (((k + 1 : Nat) : Int) + 1) (show (0 : Int) < s by omega)
      show _ < (((fz s n f k).l.length : Nat) : Int)
      rw [h1]; exact this)), if_pos (Dk.rep_size _ _)]

/-- The disk's end: down, with writes that wait. -/
theorem down_is (D : Dk) (i : Int) (s : ByteArray) (h1 : D.down = true) (h2 : 1 ≤ D.waits.length) : D.writeE i s = 10 ∧ D.write i s = D ∧ D.use 0 = 10 ∧ D.flush = D ∧ D.startE = 8 ∧ D.start = D := by
  have hu : ∀ j, D.use j = 10 := fun j => by unfold Dk.use; rw [if_pos h1]
  have e1 : D.writeE i s = 10 := by unfold Dk.writeE; rw [hu, if_neg (by decide)]
  have e2 : D.startE = 8 := by unfold Dk.startE; rw [if_neg (fun k => by rw [k.2] at h2; simp at h2)]
  exact ⟨e1, by unfold Dk.write; rw [e1]; rfl, hu 0, by unfold Dk.flush; rw [hu]; rfl, e2, by unfold Dk.start; rw [e2]; rfl⟩
theorem up_is (D : Dk) (s : ByteArray) (hl : 1 ≤ D.l.length) (hs : s.size = 256) : (D.fail []).startE = 0 ∧ (D.fail []).start.writeE 0 s = 0 ∧ ((D.fail []).start.write 0 s).down = false ∧ (D.fail []).start.waits.length = 0 ∧ (D.fail []).start.writes = D.writes := by
  have e1 : (D.fail []).startE = 0 := rfl
  have e2 : (D.fail []).start = { D.fail [] with down := false } := by unfold Dk.start; rw [e1]; rfl
  have e3 : (D.fail []).start.writeE 0 s = 0 := by
    unfold Dk.writeE
    rw [if_pos (use_in (by rw [e2]) (by omega) (by rw [e2]; simp [Dk.fail, Dk.settled, Dk.settle_length]; omega)), if_pos hs]
  refine ⟨e1, e3, ?_, by rw [e2]; rfl, by rw [e2]; rfl⟩
  unfold Dk.write
  rw [if_pos e3, e2]
  rfl

set_option maxHeartbeats 1600000 in
set_option maxRecDepth 100000 in
theorem fuses_yes (w : World) (s n : Nat) (f : UInt8) (hs1 : 1 ≤ s) (hs2 : s ≤ 2048) (hn1 : 1 ≤ n) (hn2 : n ≤ 300) :
    Calls Try.prog 5 #[.int .i64 s, .int .i64 n, .int .u8 f.toNat] w fun e w' => e = .returned (.bool true) ∧ Below w.heap.size w w' := by
  have d1 : decide ((n : Int) < 1) = false := by simp; omega
  have d2 : decide (300 < (n : Int)) = false := by simp; omega
  have HFZ := Lib.hid (fz_is s n f hs1 hn1)
  have e0 : Hid ((Dk.new s).setFuseE n = 0) := by
      unfold Hid Dk.setFuseE
      rw [if_pos (use_in rfl (by omega) (by simp [Dk.new]; omega)), if_neg (by omega)]
  go_enter Try.func5, Try.ntmps5
  go_wp2_with fail
  refine (new_h w s hs1 hs2).mono ?_
  rintro e w1 ⟨g, F, rfl, hd, hF, b0⟩
  have HD := Lib.hid hd; have HF := Lib.hid hF; have B0 := Lib.hid b0; clear hd hF b0
  go_wp2_with fail
  refine (fuse_h HD.out n (by omega)).mono ?_
  rintro e w2 ⟨rfl, F2, hd2⟩
  rw [e0.out]
  have HB2 : Hid (Below w.heap.size w w2) := hd2.bel B0.out B0.out.size HF.out
  have HF2 : Hid (∀ k, F2 k → w.heap.size ≤ k) := hd2.above HF.out B0.out.size
  have HD2 : Hid (HasDisk w2 F2 g (fz s n f 0)) := hd2.has
  clear hd2 HD HF B0
  go_wp2_with fail
  go_loopw [9, 30] (fun i i2 wr => ∃ (k : Nat) (F : Nat → Prop), k ≤ n ∧ i = .int .i64 ((k : Int) + 1) ∧ Hid (HasDisk wr F g (fz s n f k)) ∧ Hid (∀ k, F k → w.heap.size ≤ k) ∧ Hid (Below w.heap.size w wr)) (fun i _ _ => n + 1 - (intOf i).toNat)
  case atStart => exact ⟨0, F2, Nat.zero_le _, rfl, HD2, HF2, HB2⟩
  case round =>
    obtain ⟨k, Fk, hk, rfl, HD, HF, HB⟩ := hrel
    clear HD2 HF2 HB2
    by_cases hlt : k < n
    · have q := HFZ.out k hk
      have E0 : Hid ((fz s n f k).writeE (((k : Int) + 1) % s) (Dk.rep (filledN 0) f) = 0) := q.2.2.2.2.2 hlt
      have hdn : (fz s n f k).down = false := by rw [q.2.2.2.2.1]; simp; omega
      have q3 : Hid ((fz s n f (k + 1)).writes = ((k : Int) + 1)) := by have := (HFZ.out (k + 1) (by omega)).2.2.1; unfold Hid; rw [this]; omega
      have HDN := Lib.hid hdn
      have hw : Hid ((fz s n f k).waits.length = k) := q.2.1
      have hww : Hid ((fz s n f k).writes = k) := q.2.2.1
      clear q hdn
      have z0 : ¬ s = 0 := by omega
      have hrem : Hid (((k : Int) + 1).tmod s = ((k : Int) + 1) % s) := Int.tmod_eq_emod_of_nonneg (by omega)
      go_wp2_with fail
      refine wp_region_flag (fun _ => True) [(0, 1), (1, 0), (2, 1), (3, 1), (4, 1), (5, 1), (6, 1), (7, 1), (8, 1), (9, 1), (10, 0), (11, 0), (12, 1), (13, 1), (14, 1), (15, 1), (17, 1), (16, 0), (18, 1), (19, 1)] (by kernel_rfl) (by kernel_rfl) trivial ?_
      simp only [ordered, List.map_cons, List.map_nil, List.getD_cons_zero, List.getD_cons_succ]
      repeat (refine wpF_dry (fun K hK => ?_); go_simp; refine hK _ ?_; clear hK K)
      refine wpF_do ?_
      go_wp2_with (go_at_call 18; refine (up_h HD.out.drew).mono ?_; rintro e w' ⟨rfl, rfl⟩; rw [HDN.out])
      refine ⟨trivial, ?_⟩
      repeat (refine wpF_dry (fun K hK => ?_); go_simp; refine hK _ ?_; clear hK K)
      refine wpF_do ?_
      go_wp2_with (go_at_call 15; refine (filled_any _ 0 0 0 f none 0 0).mono ?_; rintro e w3 ⟨rfl, b3⟩; have B3 := Lib.hid b3; clear b3)
      refine ⟨trivial, ?_⟩
      repeat (refine wpF_dry (fun K hK => ?_); go_simp; refine hK _ ?_; clear hK K)
      refine wpF_do ?_
      go_wp2_with (go_at_call 17; rw [hrem.out]; refine (write_h (HD.out.drew.below B3.out) _ _ (by rw [Dk.rep_size]; have := filledN_le 0; omega) (by rw [hw.out]; omega) (by rw [hww.out]; omega)).mono ?_; rintro e w4 ⟨rfl, F4, h4⟩; rw [E0.out]; have H4 := Lib.hid h4; clear h4)
      refine ⟨trivial, ?_⟩
      repeat (refine wpF_dry (fun K hK => ?_); go_simp; refine hK _ ?_; clear hK K)
      refine wpF_do ?_
      go_wp2_with (go_at_call 21; refine (writes_h H4.out.has).mono ?_; rintro e w' ⟨rfl, rfl⟩)
      have q4 : Hid (((fz s n f k).write (((k : Int) + 1) % s) (Dk.rep (filledN 0) f)).writes = (k : Int) + 1) := q3
      rw [q4.out]
      refine ⟨trivial, ?_⟩
      repeat (refine wpF_dry (fun K hK => ?_); go_simp; refine hK _ ?_; clear hK K)
      refine wpF_nil ?_
      go_wp2
      go_roundw
      case rel =>
        exact ⟨k + 1, F4, by omega, by go_num, H4.out.has, H4.out.above HF.out (Nat.le_trans HB.out.size B3.out.size), H4.out.bel ((HB.out.drew).trans (B3.out.mono HB.out.size)) (Nat.le_trans HB.out.size B3.out.size) HF.out⟩
      case measure => simp [intOf]; omega
    · obtain rfl : k = n := by omega
      have q := HFZ.out k (Nat.le_refl _)
      obtain ⟨D, hD⟩ : ∃ D, D = fz s k f k := ⟨_, rfl⟩
      rw [← hD] at q HD
      obtain ⟨q1, q2, q3, q4, q5, _⟩ := q
      have DN := Lib.hid (down_is D 0 (Dk.rep (filledN 0) f) (by rw [q5]; simp) (by omega))
      have UP := Lib.hid (up_is D (Dk.rep (filledN 0) f) (by omega) (Dk.rep_size _ _))
      have hw : Hid (D.waits.length = k) := q2
      have hww : Hid (D.writes = k) := q3
      have hdn : Hid (D.down = true) := by unfold Hid; rw [q5]; simp
      clear q1 q2 q3 q4 q5 hD hlt HFZ
      go_wp2_with fail
      refine (up_h HD.out).mono ?_
      rintro e w' ⟨rfl, rfl⟩
      rw [hdn.out]
      go_wp2_with fail
      refine (filled_any _ 0 0 0 f none 0 0).mono ?_
      rintro e w3 ⟨rfl, b3⟩
      have B3 : Hid (Below w.heap.size w w3) := HB.out.trans (b3.mono HB.out.size)
      have HD3 := Lib.hid (HD.out.below b3)
      clear b3 HB HD
      go_wp2_with fail
      refine (write_h HD3.out 0 _ (by rw [Dk.rep_size]; have := filledN_le 0; omega) (by rw [hw.out]; omega) (by rw [hww.out]; omega)).mono ?_
      rintro e w4 ⟨rfl, F4, h4⟩
      rw [DN.out.1]
      rw [DN.out.2.1] at h4
      have B4 : Hid (Below w.heap.size w w4) := h4.bel B3.out B3.out.size HF.out
      have HF4 : Hid (∀ k, F4 k → w.heap.size ≤ k) := h4.above HF.out B3.out.size
      have HD4 := Lib.hid h4.has
      clear h4 B3 HF HD3
      go_wp2_with fail
      refine (flush_h HD4.out (by rw [hw.out]; omega)).mono ?_
      rintro e w5 ⟨rfl, F5, h5⟩
      rw [DN.out.2.2.1]
      rw [DN.out.2.2.2.1] at h5
      have B5 : Hid (Below w.heap.size w w5) := h5.bel B4.out B4.out.size HF4.out
      have HF5 : Hid (∀ k, F5 k → w.heap.size ≤ k) := h5.above HF4.out B4.out.size
      have HD5 := Lib.hid h5.has
      clear h5 B4 HF4 HD4
      go_wp2_with fail
      refine (start_h HD5.out).mono ?_
      rintro e w6 ⟨rfl, F6, h6⟩
      rw [DN.out.2.2.2.2.1]
      rw [DN.out.2.2.2.2.2] at h6
      have B6 : Hid (Below w.heap.size w w6) := h6.bel B5.out B5.out.size HF5.out
      have HF6 : Hid (∀ k, F6 k → w.heap.size ≤ k) := h6.above HF5.out B5.out.size
      have HD6 := Lib.hid h6.has
      clear h6 B5 HF5 HD5
      go_wp2_with fail
      refine (waits_h HD6.out).mono ?_
      rintro e w' ⟨rfl, rfl⟩
      rw [hw.out]
      go_wp2_with fail
      refine (fail_h HD6.out (by rw [hw.out]; omega) _ [] (nilB _) (fun hp => by simp at hp)).mono ?_
      rintro e w7 ⟨rfl, F7, h7⟩
      have B7 : Hid (Below w.heap.size w w7) := h7.bel B6.out B6.out.size HF6.out
      have HF7 : Hid (∀ k, F7 k → w.heap.size ≤ k) := h7.above HF6.out B6.out.size
      have HD7 := Lib.hid h7.has
      clear h7 B6 HF6 HD6
      go_wp2_with fail
      refine (start_h HD7.out).mono ?_
      rintro e w8 ⟨rfl, F8, h8⟩
      rw [UP.out.1]
      have B8 : Hid (Below w.heap.size w w8) := h8.bel B7.out B7.out.size HF7.out
      have HF8 : Hid (∀ k, F8 k → w.heap.size ≤ k) := h8.above HF7.out B7.out.size
      have HD8 := Lib.hid h8.has
      clear h8 B7 HF7 HD7
      go_wp2_with fail
      refine (filled_any _ 0 0 0 f none 0 0).mono ?_
      rintro e w9 ⟨rfl, b9⟩
      have B9 : Hid (Below w.heap.size w w9) := B8.out.trans (b9.mono B8.out.size)
      have HD9 := Lib.hid (HD8.out.below b9)
      clear b9 B8 HD8
      go_wp2_with fail
      refine (write_h HD9.out 0 _ (by rw [Dk.rep_size]; have := filledN_le 0; omega) (by rw [UP.out.2.2.2.1]; omega) (by rw [UP.out.2.2.2.2, hww.out]; omega)).mono ?_
      rintro e w10 ⟨rfl, F10, h10⟩
      rw [UP.out.2.1]
      have B10 : Hid (Below w.heap.size w w10) := h10.bel B9.out B9.out.size HF8.out
      have HD10 := Lib.hid h10.has
      clear h10 B9 HD9 HF8
      go_wp2_with fail
      refine (up_h HD10.out).mono ?_
      rintro e w' ⟨rfl, rfl⟩
      rw [UP.out.2.2.1]
      go_wp2_with fail
      refine (lives6 _).mono ?_
      rintro e w11 ⟨rfl, b11⟩
      have B11 : Hid (Below w.heap.size w w11) := B10.out.trans (b11.mono B10.out.size)
      clear b11
      go_wp2
      go_ret
      exact ⟨rfl, B11.out⟩

set_option maxHeartbeats 400000 in
set_option maxRecDepth 100000 in
theorem diskFuses_walk (w : World) (sectors : Int) (_w0 : (Lit.int .i64 sectors).wf = true) (n : Int) (_w1 : (Lit.int .i64 n).wf = true) (f : Int) (w2 : (Lit.int .u8 f).wf = true) :
    Calls Try.prog 5 #[.int .i64 sectors, .int .i64 n, .int .u8 f] w fun e w' => e = .returned (.bool true) ∧ Below w.heap.size w w' := by
  obtain ⟨g, hg⟩ : ∃ g : UInt8, f = g.toNat := by
    have : 0 ≤ f ∧ f ≤ 255 := by simp [Lit.wf, IntKind.min, IntKind.max, IntKind.signed, IntKind.bits] at w2; omega
    exact ⟨UInt8.ofNat f.toNat, by simp; omega⟩
  subst hg
  by_cases hs : sectors < 1 ∨ 2048 < sectors
  · have HS := Lib.hid hs
    clear hs
    go_enter Try.func5, Try.ntmps5
    go_wp2_with fail
    refine (new_no w sectors HS.out).mono ?_
    rintro e w1 ⟨rfl, rfl⟩
    go_wp2_with fail
    refine (lives6 _).mono ?_
    rintro e w2 ⟨rfl, b⟩
    go_wp2
    go_ret
    exact ⟨rfl, b⟩
  · obtain ⟨m, rfl⟩ := Int.eq_ofNat_of_zero_le (show 0 ≤ sectors by omega)
    have HM := Lib.hid hs
    by_cases hn : n < 1
    · clear hs
      go_enter Try.func5, Try.ntmps5
      go_wp2_with fail
      refine (new_h w m (by have := HM.out; omega) (by have := HM.out; omega)).mono ?_
      rintro e w1 ⟨g1, F1, rfl, hd, hF, b0⟩
      have B0 := Lib.hid b0
      clear hd hF b0
      go_wp2_with fail
      refine (lives6 _).mono ?_
      rintro e w2 ⟨rfl, b⟩
      have B2 := Lib.hid b
      clear b
      go_wp2
      go_ret
      exact ⟨rfl, B0.out.trans (B2.out.mono B0.out.size)⟩
    · have hn' : decide (n < 1) = false := by simpa using hn
      by_cases hn2 : 300 < n
      · clear hs hn
        go_enter Try.func5, Try.ntmps5
        go_wp2_with fail
        refine (new_h w m (by have := HM.out; omega) (by have := HM.out; omega)).mono ?_
        rintro e w1 ⟨g1, F1, rfl, hd, hF, b0⟩
        have B0 := Lib.hid b0
        clear hd hF b0
        go_wp2_with fail
        refine (lives6 _).mono ?_
        rintro e w2 ⟨rfl, b⟩
        have B2 := Lib.hid b
        clear b
        go_wp2
        go_ret
        exact ⟨rfl, B0.out.trans (B2.out.mono B0.out.size)⟩
      · obtain ⟨k, rfl⟩ := Int.eq_ofNat_of_zero_le (show 0 ≤ n by omega)
        exact fuses_yes w m k g (by omega) (by omega) (by omega) (by omega)
end Go.Proofs.Ytfkonndbgmmckaa
