/- ShH: tidy of a shelf of one leaf; at of a place behind its leaf. -/
import Derived.Test.YtoolkamajlgcbaaShG
set_option linter.unusedVariables false
set_option linter.unusedSimpArgs false
namespace Go.Proofs.Ytoolkamajlgcbaa
open Go.RowKit

set_option maxHeartbeats 1600000 in
set_option maxRecDepth 100000 in
theorem at_far (w : World) (gs : Nat) (sh : List (Nat × PL)) (hs : ShRd w gs sh) (i k : Nat) (hi : i < sh.length) (hk : (lfA sh i).length ≤ k) (key : ByteArray) :
    Calls Try.prog 38 #[.pointer (some ⟨gs, 0, none⟩), .int .i64 (i : Int), .int .i64 (k : Int), .string key] w fun e w' => e = .returned (.pointer none) ∧ w = w' := by
  obtain ⟨A, c, g1, g2, g3⟩ := hs
  obtain ⟨b, o, rfl, hc⟩ := g3 (by omega)
  obtain ⟨_, A', c', z1, _, _⟩ := hc i hi
  rw [← lfA_get hi] at z1
  have d1 : decide ((sh.length : Int) ≤ (i : Int)) = false := by simp; omega
  have d1' : decide (sh.length ≤ i) = false := by simp; omega
  have d2 : decide (((lfA sh i).length : Int) ≤ (k : Int)) = true := by simp; omega
  have d2' : decide ((lfA sh i).length ≤ k) = true := by simp; omega
  have hil : (i : Int) < (sh.length : Int) := by omega
  clear hc g3
  go_enter Try.func38, Try.ntmps38
  go_wp2
  go_ret
  exact ⟨rfl, rfl⟩
set_option maxHeartbeats 3200000 in
set_option maxRecDepth 100000 in
theorem tidy_one (w : World) (gs : Nat) (A : Option Addr) (c : Nat) (hs : w.cell? ⟨gs, 1, none⟩ = some (.slice A 1 c)) :
    Calls Try.prog 39 #[.pointer (some ⟨gs, 0, none⟩), .int .i64 0] w fun e w' => e = .returned (.tuple #[]) ∧ Below w.heap.size w w' := by
  have HS := Lib.hid hs
  obtain ⟨W1, hW1⟩ : ∃ W1, W1 = w.alloc (.cells #[.int .i64 0, .int .i64 (-1)] 3) := ⟨_, rfl⟩
  have Q1 : Hid (Below w.heap.size w W1) := by rw [hW1]; exact (Below.refl _ w).alloc (Nat.le_refl _) _
  have hb : W1.heap[w.heap.size]? = some (.cells #[.int .i64 0, .int .i64 (-1)] 3 (0, 0)) := by rw [hW1]; exact blk_new w _
  have y0 := blk_cell hb 0; have y1 := blk_cell hb 1
  simp at y0 y1
  have Y0 := Lib.hid y0; have Y1 := Lib.hid y1
  clear hb hs y0 y1
  go_enter Try.func39, Try.ntmps39
  go_wp2_with fail
  rw [← hW1]
  clear hW1
  go_loopw [11] (fun iv wr => ∃ i : Nat, i ≤ 2 ∧ iv = .int .i64 i ∧ Hid (Below W1.heap.size W1 wr)) (fun iv _ => 2 - (intOf iv).toNat)
  case atStart => exact ⟨0, by decide, rfl, Below.refl _ _⟩
  case round =>
    obtain ⟨i, hi, rfl, hb⟩ := hrel
    have c1 := cell_below (Q1.out.trans (hb.out.mono Q1.out.size)) HS.out
    have y0 := cell_below hb.out Y0.out
    have y1 := cell_below hb.out Y1.out
    by_cases h2 : i = 2
    · subst h2
      have R := Lib.hid (Q1.out.trans (hb.out.mono Q1.out.size))
      go_wp2
      go_end0
      exact ⟨rfl, R.out⟩
    · have hex : i = 0 ∨ i = 1 := by omega
      clear h2 hi
      have wr1 : IntKind.i64.wrap 1 = 1 := by decide
      have wr0 : IntKind.i64.wrap 0 = 0 := by decide
      rcases hex with rfl | rfl
      · have c1d : wr.drew.cell? ⟨gs, 1, none⟩ = some (.slice A 1 c) := c1
        go_wp2_with fail
        refine wp_region_flag (fun w' => w'.cell? ⟨gs, 1, none⟩ = some (.slice A 1 c)) [(0, 1), (1, 1), (2, 1), (3, 1), (4, 1), (5, 1), (6, 1), (7, 1), (8, 0), (9, 1), (10, 1), (11, 1), (12, 1), (13, 1), (14, 1), (15, 1), (17, 1), (22, 1), (23, 1), (24, 1), (26, 1), (27, 1), (16, 2), (18, 1), (19, 1), (20, 2), (25, 2), (28, 1), (29, 1), (30, 2), (21, 0), (31, 0), (32, 1), (33, 1), (34, 1)] (by kernel_rfl) (by kernel_rfl) c1d ?_
        simp only [ordered, List.map_cons, List.map_nil, List.getD_cons_zero, List.getD_cons_succ]
        repeat (refine wpF_dry (fun K hK => ?_); go_simp; refine hK _ ?_; clear hK K)
        refine wpF_do ?_
        go_wp2_with fail
        refine ⟨c1d, ?_⟩
        repeat (refine wpF_dry (fun K hK => ?_); go_simp; refine hK _ ?_; clear hK K)
        refine wpF_skip (fun K hK => ?_)
        go_simp
        refine hK _ ?_
        clear hK K
        repeat (refine wpF_dry (fun K hK => ?_); go_simp; refine hK _ ?_; clear hK K)
        refine wpF_skip (fun K hK => ?_)
        go_simp
        refine hK _ ?_
        clear hK K
        refine wpF_skip (fun K hK => ?_)
        go_simp
        refine hK _ ?_
        clear hK K
        repeat (refine wpF_dry (fun K hK => ?_); go_simp; refine hK _ ?_; clear hK K)
        refine wpF_skip (fun K hK => ?_)
        go_simp
        refine hK _ ?_
        clear hK K
        refine wpF_do ?_
        go_wp2_with fail
        refine ⟨c1d, ?_⟩
        refine wpF_do ?_
        go_wp2_with fail
        refine ⟨c1d, ?_⟩
        repeat (refine wpF_dry (fun K hK => ?_); go_simp; refine hK _ ?_; clear hK K)
        refine wpF_nil ?_
        have B2 := Lib.hid hb.out.drew
        go_wp2
        go_roundw
        case rel => first | exact ⟨1, by decide, by go_num, B2⟩ | ((repeat apply Exists.intro); refine ⟨?_, rfl⟩; exact ⟨1, by decide, by go_num, B2⟩)
        case measure => simp [intOf]
      · have c1d : wr.drew.cell? ⟨gs, 1, none⟩ = some (.slice A 1 c) := c1
        go_wp2_with fail
        refine wp_region_flag (fun w' => w'.cell? ⟨gs, 1, none⟩ = some (.slice A 1 c)) [(0, 1), (1, 1), (2, 1), (3, 1), (4, 1), (5, 1), (6, 1), (7, 1), (8, 0), (9, 1), (10, 1), (11, 1), (12, 1), (13, 1), (14, 1), (15, 1), (17, 1), (22, 1), (23, 1), (24, 1), (26, 1), (27, 1), (16, 2), (18, 1), (19, 1), (20, 2), (25, 2), (28, 1), (29, 1), (30, 2), (21, 0), (31, 0), (32, 1), (33, 1), (34, 1)] (by kernel_rfl) (by kernel_rfl) c1d ?_
        simp only [ordered, List.map_cons, List.map_nil, List.getD_cons_zero, List.getD_cons_succ]
        repeat (refine wpF_dry (fun K hK => ?_); go_simp; refine hK _ ?_; clear hK K)
        refine wpF_do ?_
        go_wp2_with fail
        refine ⟨c1d, ?_⟩
        repeat (refine wpF_dry (fun K hK => ?_); go_simp; refine hK _ ?_; clear hK K)
        refine wpF_skip (fun K hK => ?_)
        go_simp
        refine hK _ ?_
        clear hK K
        repeat (refine wpF_dry (fun K hK => ?_); go_simp; refine hK _ ?_; clear hK K)
        refine wpF_skip (fun K hK => ?_)
        go_simp
        refine hK _ ?_
        clear hK K
        refine wpF_skip (fun K hK => ?_)
        go_simp
        refine hK _ ?_
        clear hK K
        repeat (refine wpF_dry (fun K hK => ?_); go_simp; refine hK _ ?_; clear hK K)
        refine wpF_skip (fun K hK => ?_)
        go_simp
        refine hK _ ?_
        clear hK K
        refine wpF_do ?_
        go_wp2_with fail
        refine ⟨c1d, ?_⟩
        refine wpF_do ?_
        go_wp2_with fail
        refine ⟨c1d, ?_⟩
        repeat (refine wpF_dry (fun K hK => ?_); go_simp; refine hK _ ?_; clear hK K)
        refine wpF_nil ?_
        have B2 := Lib.hid hb.out.drew
        go_wp2
        go_roundw
        case rel => first | exact ⟨2, by decide, by go_num, B2⟩ | ((repeat apply Exists.intro); refine ⟨?_, rfl⟩; exact ⟨2, by decide, by go_num, B2⟩)
        case measure => simp [intOf]
end Go.Proofs.Ytoolkamajlgcbaa
