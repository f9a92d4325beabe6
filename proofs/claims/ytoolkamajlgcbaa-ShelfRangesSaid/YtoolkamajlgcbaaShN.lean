/- ShN: tidy where nothing fits (written by gen_shn.py). -/
import Derived.Test.YtoolkamajlgcbaaShM
set_option linter.unusedVariables false
set_option linter.unusedSimpArgs false
namespace Go.Proofs.Ytoolkamajlgcbaa
open Go.RowKit

/-- A leaf and the next one don't fit into one. -/
def NoFit (sh : List (Nat × PL)) (k : Int) : Prop := ∀ n : Nat, k = (n : Int) → n + 1 < sh.length → 1020 < szL (lfA sh n) + szL (lfA sh (n + 1))
set_option maxHeartbeats 6400000 in
set_option maxRecDepth 100000 in
theorem tidy_none (w : World) (gs : Nat) (sh : List (Nat × PL)) (hs : ShRd w gs sh) (hp : 0 < sh.length) (hn : sh.length ≤ 1000000) (hsm : ∀ i, i < sh.length → Small (lfA sh i)) (hb1 : ∀ i, i < sh.length → szL (lfA sh i) ≤ 1000000) (i : Nat) (hi : i ≤ sh.length) (h1 : NoFit sh (i : Int)) (h2 : NoFit sh ((i : Int) - 1)) :
    Calls Try.prog 39 #[.pointer (some ⟨gs, 0, none⟩), .int .i64 (i : Int)] w fun e w' => e = .returned (.tuple #[]) ∧ Below w.heap.size w w' := by
  have HS := Lib.hid hs; have HSM := Lib.hid hsm; have HB1 := Lib.hid hb1
  obtain ⟨A, c, g1, g2, g3⟩ := hs
  obtain ⟨b, o, rfl, hc⟩ := g3 hp
  obtain ⟨W1, hW1⟩ : ∃ W1, W1 = w.alloc (.cells #[.int .i64 (i : Int), .int .i64 ((i : Int) - 1)] 3) := ⟨_, rfl⟩
  have Q1 : Hid (Below w.heap.size w W1) := by rw [hW1]; exact (Below.refl _ w).alloc (Nat.le_refl _) _
  have hbk : W1.heap[w.heap.size]? = some (.cells #[.int .i64 (i : Int), .int .i64 ((i : Int) - 1)] 3 (0, 0)) := by rw [hW1]; exact blk_new w _
  have YY : Hid (∀ j, j < 2 → ∃ kk : Int, W1.cell? ⟨w.heap.size, j, none⟩ = some (.int .i64 kk) ∧ NoFit sh kk ∧ -1 ≤ kk ∧ kk ≤ sh.length) := fun j hj => by
    have y0 := blk_cell hbk 0; have y1 := blk_cell hbk 1
    simp at y0 y1
    match j, hj with
    | 0, _ => exact ⟨_, y0, h1, by omega, by omega⟩
    | 1, _ => exact ⟨_, y1, h2, by omega, by omega⟩
  have HC := Lib.hid hc
  have HG1 := Lib.hid g1
  clear hbk hsm hb1 h1 h2 hc g3 g1
  go_enter Try.func39, Try.ntmps39
  go_wp2_with fail
  rw [← hW1]
  clear hW1
  go_loopw [11] (fun iv wr => ∃ j : Nat, j ≤ 2 ∧ iv = .int .i64 j ∧ Hid (Below W1.heap.size W1 wr)) (fun iv _ => 2 - (intOf iv).toNat)
  case atStart => exact ⟨0, by decide, rfl, Below.refl _ _⟩
  case round =>
    obtain ⟨j, hj, rfl, hb⟩ := hrel
    have BW : Hid (Below w.heap.size w wr) := Q1.out.trans (hb.out.mono Q1.out.size)
    by_cases hj2 : j < 2
    · obtain ⟨kk, y0, hno, hk1, hk2⟩ := YY.out j hj2
      replace y0 := cell_below hb.out y0
      have c1 := cell_below BW.out HG1.out
      have c1d : wr.drew.cell? ⟨gs, 1, none⟩ = some (.slice (some ⟨b, o, none⟩) sh.length c) := c1
      have hjl : (j : Int) < 2 := by omega
      by_cases hneg : kk < 0
      · have dk : decide (0 ≤ kk) = false := by simp; omega
        have wr1 : IntKind.i64.wrap (kk + 1) = kk + 1 := by rw [IntKind.wrap_i64]; omega
        clear hno
        go_wp2_with fail
        refine wp_region_flag (fun w' => w'.cell? ⟨gs, 1, none⟩ = some (.slice (some ⟨b, o, none⟩) sh.length c)) [(0, 1), (1, 1), (2, 1), (3, 1), (4, 1), (5, 1), (6, 1), (7, 1), (8, 0), (9, 1), (10, 1), (11, 1), (12, 1), (13, 1), (14, 1), (15, 1), (17, 1), (22, 1), (23, 1), (24, 1), (26, 1), (27, 1), (16, 2), (18, 1), (19, 1), (20, 2), (25, 2), (28, 1), (29, 1), (30, 2), (21, 0), (31, 0), (32, 1), (33, 1), (34, 1)] (by kernel_rfl) (by kernel_rfl) c1d ?_
        simp only [ordered, List.map_cons, List.map_nil, List.getD_cons_zero, List.getD_cons_succ]
        repeat (refine wpF_dry (fun K hK => ?_); go_simp; refine hK _ ?_; clear hK K)
        refine wpF_do ?_
        go_wp2_with fail
        refine ⟨c1d, ?_⟩
        repeat (refine wpF_dry (fun K hK => ?_); go_simp; refine hK _ ?_; clear hK K)
        refine wpF_skip (fun K hK => ?_)
        go_simp
        refine hK _ ?_
        clear hK K
        repeat (refine wpF_dry (fun K hK => ?_); go_simp; refine hK _ ?_; clear hK K)
        refine wpF_skip (fun K hK => ?_)
        go_simp
        refine hK _ ?_
        clear hK K
        refine wpF_skip (fun K hK => ?_)
        go_simp
        refine hK _ ?_
        clear hK K
        repeat (refine wpF_dry (fun K hK => ?_); go_simp; refine hK _ ?_; clear hK K)
        refine wpF_skip (fun K hK => ?_)
        go_simp
        refine hK _ ?_
        clear hK K
        refine wpF_do ?_
        go_wp2_with fail
        refine ⟨c1d, ?_⟩
        refine wpF_do ?_
        go_wp2_with fail
        refine ⟨c1d, ?_⟩
        repeat (refine wpF_dry (fun K hK => ?_); go_simp; refine hK _ ?_; clear hK K)
        have B2 := Lib.hid hb.out.drew
        refine wpF_nil ?_
        go_wp2
        go_roundw
        case rel => first | exact ⟨j + 1, by omega, by go_num, B2⟩ | ((repeat apply Exists.intro); refine ⟨?_, rfl⟩; exact ⟨j + 1, by omega, by go_num, B2⟩)
        case measure => simp [intOf]; omega
      · obtain ⟨k, rfl⟩ := Int.eq_ofNat_of_zero_le (show 0 ≤ kk by omega)
        have dk : decide (0 ≤ (k : Int)) = true := by simp
        have wr1 : IntKind.i64.wrap ((k : Int) + 1) = (k : Int) + 1 := by rw [IntKind.wrap_i64]; omega
        by_cases hlast : k + 1 < sh.length
        · have hno2 := hno k rfl hlast
          obtain ⟨_, A1, c1, u1, _, r1⟩ := HC.out k (by omega)
          obtain ⟨_, A2, c2, u2, _, r2⟩ := HC.out (k + 1) hlast
          rw [← lfA_get (show k < sh.length by omega)] at u1 r1
          rw [← lfA_get hlast] at u2 r2
          have sm1 := HSM.out k (by omega); have sm2 := HSM.out (k + 1) hlast
          have sb1 := HB1.out k (by omega); have sb2 := HB1.out (k + 1) hlast
          have u1d : wr.drew.cell? ⟨b, o + k * 2 + 1, none⟩ = some (.slice A1 (lfA sh k).length c1) := cell_below BW.out u1
          have u2d : wr.drew.cell? ⟨b, o + (k + 1) * 2 + 1, none⟩ = some (.slice A2 (lfA sh (k + 1)).length c2) := cell_below BW.out u2
          have SZ1 := Lib.hid (sizes_any wr.drew A1 (lfA sh k).length c1 (lfA sh k) rfl ((r1.below BW.out).below (Below.refl _ wr).drew) sm1)
          have SZ2 := fun W (hW : Below wr.drew.heap.size wr.drew W) => Lib.hid (sizes_any W A2 (lfA sh (k + 1)).length c2 (lfA sh (k + 1)) rfl (((r2.below BW.out).below (Below.refl _ wr).drew).below hW) sm2)
          generalize lfA sh k = l1 at u1d SZ1 hno2 sb1
          generalize lfA sh (k + 1) = l2 at u2d SZ2 hno2 sb2
          generalize szL l1 = z1 at SZ1 hno2 sb1
          generalize szL l2 = z2 at SZ2 hno2 sb2
          have hkl : (k : Int) < (sh.length : Int) := by omega
          have hkl2 : (k : Int) + 1 < (sh.length : Int) := by omega
          have dkl : decide ((k : Int) + 1 < (sh.length : Int)) = true := by simp; omega
          have dz : decide ((z1 : Int) + (z2 : Int) ≤ 1020) = false := by simp; omega
          have wr2 : IntKind.i64.wrap ((z1 : Int) + (z2 : Int)) = (z1 : Int) + (z2 : Int) := by rw [IntKind.wrap_i64]; omega
          have hk0 : (0 : Int) ≤ (k : Int) + 1 := by omega
          have htn : ((k : Int) + 1).toNat = k + 1 := by omega
          clear hno r1 r2 u1 u2 sm1 sm2
          go_wp2_with fail
          refine wp_region_flag (fun w' => w'.cell? ⟨gs, 1, none⟩ = some (.slice (some ⟨b, o, none⟩) sh.length c) ∧ w'.cell? ⟨b, o + k * 2 + 1, none⟩ = some (.slice A1 l1.length c1) ∧ w'.cell? ⟨b, o + (k + 1) * 2 + 1, none⟩ = some (.slice A2 l2.length c2)) [(0, 1), (1, 1), (2, 1), (3, 1), (4, 1), (5, 1), (6, 1), (7, 1), (8, 0), (9, 1), (10, 1), (11, 1), (12, 1), (13, 1), (14, 1), (15, 1), (17, 1), (22, 1), (23, 1), (24, 1), (26, 1), (27, 1), (16, 2), (18, 1), (19, 1), (20, 2), (25, 2), (28, 1), (29, 1), (30, 2), (21, 0), (31, 0), (32, 1), (33, 1), (34, 1)] (by kernel_rfl) (by kernel_rfl) ⟨c1d, u1d, u2d⟩ ?_
          simp only [ordered, List.map_cons, List.map_nil, List.getD_cons_zero, List.getD_cons_succ]
          repeat (refine wpF_dry (fun K hK => ?_); go_simp; refine hK _ ?_; clear hK K)
          refine wpF_do ?_
          go_wp2_with fail
          refine ⟨⟨c1d, u1d, u2d⟩, ?_⟩
          repeat (refine wpF_dry (fun K hK => ?_); go_simp; refine hK _ ?_; clear hK K)
          refine wpF_read (.slice (some ⟨b, o, none⟩) sh.length c) rfl (fun w' hS => by obtain ⟨s1, s2, s3⟩ := hS; go_simp) (fun K hK => ?_)
          go_simp
          refine hK _ ?_
          clear hK K
          repeat (refine wpF_dry (fun K hK => ?_); go_simp; refine hK _ ?_; clear hK K)
          refine wpF_read (.slice A1 l1.length c1) rfl (fun w' hS => by obtain ⟨s1, s2, s3⟩ := hS; go_simp) (fun K hK => ?_)
          go_simp
          refine hK _ ?_
          clear hK K
          refine wpF_read (.slice (some ⟨b, o, none⟩) sh.length c) rfl (fun w' hS => by obtain ⟨s1, s2, s3⟩ := hS; go_simp) (fun K hK => ?_)
          go_simp
          refine hK _ ?_
          clear hK K
          repeat (refine wpF_dry (fun K hK => ?_); go_simp; refine hK _ ?_; clear hK K)
          refine wpF_read (.slice A2 l2.length c2) rfl (fun w' hS => by obtain ⟨s1, s2, s3⟩ := hS; go_simp) (fun K hK => ?_)
          go_simp
          refine hK _ ?_
          clear hK K
          refine wpF_do ?_
          go_wp2_with fail
          refine SZ1.out.mono ?_
          rintro e w3 ⟨rfl, q3⟩
          have SZ3 := SZ2 w3 q3
          have c1e := cell_below q3 c1d; have u1e := cell_below q3 u1d; have u2e := cell_below q3 u2d
          have B3 : Hid (Below W1.heap.size W1 w3) := hb.out.drew.trans (q3.mono hb.out.drew.size)
          clear q3 SZ1 SZ2 c1d u1d u2d
          go_wp2_with fail
          refine ⟨⟨c1e, u1e, u2e⟩, ?_⟩
          refine wpF_do ?_
          go_wp2_with fail
          refine SZ3.out.mono ?_
          rintro e w4 ⟨rfl, q4⟩
          have c1f := cell_below q4 c1e; have u1f := cell_below q4 u1e; have u2f := cell_below q4 u2e
          have B2 : Hid (Below W1.heap.size W1 w4) := B3.out.trans (q4.mono B3.out.size)
          clear q4 SZ3 c1e u1e u2e
          go_wp2_with fail
          refine ⟨⟨c1f, u1f, u2f⟩, ?_⟩
          repeat (refine wpF_dry (fun K hK => ?_); go_simp; refine hK _ ?_; clear hK K)
          refine wpF_nil ?_
          go_wp2
          go_roundw
          case rel => first | exact ⟨j + 1, by omega, by go_num, B2⟩ | ((repeat apply Exists.intro); refine ⟨?_, rfl⟩; exact ⟨j + 1, by omega, by go_num, B2⟩)
          case measure => simp [intOf]; omega
        · have dkl : decide ((k : Int) + 1 < (sh.length : Int)) = false := by simp; omega
          clear hno
          go_wp2_with fail
          refine wp_region_flag (fun w' => w'.cell? ⟨gs, 1, none⟩ = some (.slice (some ⟨b, o, none⟩) sh.length c)) [(0, 1), (1, 1), (2, 1), (3, 1), (4, 1), (5, 1), (6, 1), (7, 1), (8, 0), (9, 1), (10, 1), (11, 1), (12, 1), (13, 1), (14, 1), (15, 1), (17, 1), (22, 1), (23, 1), (24, 1), (26, 1), (27, 1), (16, 2), (18, 1), (19, 1), (20, 2), (25, 2), (28, 1), (29, 1), (30, 2), (21, 0), (31, 0), (32, 1), (33, 1), (34, 1)] (by kernel_rfl) (by kernel_rfl) c1d ?_
          simp only [ordered, List.map_cons, List.map_nil, List.getD_cons_zero, List.getD_cons_succ]
          repeat (refine wpF_dry (fun K hK => ?_); go_simp; refine hK _ ?_; clear hK K)
          refine wpF_do ?_
          go_wp2_with fail
          refine ⟨c1d, ?_⟩
          repeat (refine wpF_dry (fun K hK => ?_); go_simp; refine hK _ ?_; clear hK K)
          refine wpF_skip (fun K hK => ?_)
          go_simp
          refine hK _ ?_
          clear hK K
          repeat (refine wpF_dry (fun K hK => ?_); go_simp; refine hK _ ?_; clear hK K)
          refine wpF_skip (fun K hK => ?_)
          go_simp
          refine hK _ ?_
          clear hK K
          refine wpF_skip (fun K hK => ?_)
          go_simp
          refine hK _ ?_
          clear hK K
          repeat (refine wpF_dry (fun K hK => ?_); go_simp; refine hK _ ?_; clear hK K)
          refine wpF_skip (fun K hK => ?_)
          go_simp
          refine hK _ ?_
          clear hK K
          refine wpF_do ?_
          go_wp2_with fail
          refine ⟨c1d, ?_⟩
          refine wpF_do ?_
          go_wp2_with fail
          refine ⟨c1d, ?_⟩
          repeat (refine wpF_dry (fun K hK => ?_); go_simp; refine hK _ ?_; clear hK K)
          have B2 := Lib.hid hb.out.drew
          refine wpF_nil ?_
          go_wp2
          go_roundw
          case rel => first | exact ⟨j + 1, by omega, by go_num, B2⟩ | ((repeat apply Exists.intro); refine ⟨?_, rfl⟩; exact ⟨j + 1, by omega, by go_num, B2⟩)
          case measure => simp [intOf]; omega
    · have hj3 : j = 2 := by omega
      subst hj3
      go_wp2
      go_end0
      exact ⟨rfl, BW.out⟩
end Go.Proofs.Ytoolkamajlgcbaa

