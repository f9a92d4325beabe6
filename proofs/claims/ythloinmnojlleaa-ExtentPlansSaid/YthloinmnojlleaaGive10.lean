/- Give10: a way of Give (written by gen_give.py). -/
import Derived.Test.YthloinmnojlleaaExtJ
import Derived.Test.YthloinmnojlleaaReg4
set_option linter.unusedVariables false
set_option linter.unusedSimpArgs false
namespace Go.Proofs.Ythloinmnojlleaa
open Go.RowKit

set_option maxHeartbeats 6400000 in
set_option maxRecDepth 100000 in
theorem give_10 (w : World) (F : Nat → Prop) (g : Nat) (a : Ar) (v : Value) (h : IsAr w F g a v) (f s : Nat) (h1 : 1 ≤ s) (h2 : f + s ≤ a.size) (i : Nat) (hi : behindI a.holes f = i) (p : Nat) (hp : i = p + 1) (hpl : p < a.holes.length) (hj : ¬ a.holes[p].1 + a.holes[p].2 = f) (hr : i = a.holes.length) (hL : Lies a.size 0 (a.holes.take i ++ ([(f, s)] ++ a.holes.drop i))) :
    Calls Try.prog 13 #[.pointer (some ⟨g, 0, none⟩), .agg #[.int .i64 f, .int .i64 s]] w fun e w' => e = .returned (.int .i64 0) ∧ ∃ F', ArTo w F g { a with holes := a.holes.take i ++ ([(f, s)] ++ a.holes.drop i) } w' F' := by
  obtain ⟨i0, hif, hz0, hz1, hz2⟩ := info_parts infoSp
  have H := Lib.hid h
  have few := h.ok.few
  have hmost := h.ok.most
  have hgs := blk_lt h.blk
  have B0 : Hid (Below w.heap.size w (w.alloc (.cells #[.int .i64 f, .int .i64 s] 30))) := (Below.refl _ w).alloc (Nat.le_refl _) _
  have r0 := blk_new w (.cells #[.int .i64 f, .int .i64 s] 30)
  have R0 := Lib.hid r0
  have k0 := blk_cell r0 0; have k1 := blk_cell r0 1
  simp only [List.getElem?_toArray, List.getElem?_cons_zero, List.getElem?_cons_succ] at k0 k1
  have hw : a.within f s = true := by unfold Ar.within; simp only [Bool.and_eq_true, decide_eq_true_eq]; omega
  have HW := Lib.hid hw
  have HI := Lib.hid hi
  have LN := Lib.hid hL
  obtain ⟨g1, cc, rfl, _, hg1, hc⟩ := row_at h.own (by omega)
  have hcc : a.holes.length ≤ cc := by obtain ⟨_, _, e, hh, _⟩ := rdsp_own h.own; injection e with _ _ e3; omega
  obtain ⟨y1, y2⟩ := hc p hpl
  have Y1 := Lib.hid y1; have Y2 := Lib.hid y2
  replace y1 := cell_below B0.out y1
  replace y2 := cell_below B0.out y2
  have hyin := (lies_get h.ok.lies p hpl).2
  clear hc
  generalize a.holes[p] = y at *
  obtain ⟨fs, hfs⟩ : ∃ fs, fs = f + s := ⟨_, rfl⟩
  have ew : (f : Int) + s = (fs : Int) := by omega
  have ep : (i : Int) - 1 = (p : Int) := by omega
  obtain ⟨r, hr'⟩ : ∃ r, r = y.1 + y.2 := ⟨_, rfl⟩
  have er : (y.1 : Int) + y.2 = (r : Int) := by omega
  have dq : ((r : Int) == (f : Int)) = false := by simp; omega
  have dq' : (r == f) = false := by simp; omega
  have dg : decide ((0 : Int) < (i : Int)) = true := by simp; omega
  have dg' : decide (0 < i) = true := by simp; omega
  have d1 : decide ((i : Int) < a.holes.length) = false := by simp; omega
  have d1' : decide (i < a.holes.length) = false := by simp; omega
  have wfs : IntKind.i64.wrap (fs : Int) = (fs : Int) := by rw [IntKind.wrap_i64]; omega
  have wp : IntKind.i64.wrap (p : Int) = (p : Int) := by rw [IntKind.wrap_i64]; omega
  have wr : IntKind.i64.wrap (r : Int) = (r : Int) := by rw [IntKind.wrap_i64]; omega
  have hil : i ≤ a.holes.length := by omega
  have hfl : i ≤ a.holes.length := by omega
  have hfc : i ≤ cc := by omega
  clear h r0 hw hi hL hfs
  have HP := Lib.hid hp
  clear hr' hj hp
  have HR0 := Lib.hid hr
  clear hr
  go_enter Try.func13, Try.ntmps13
  go_wp2_with fail
  refine (within_any _ F g a _ (H.out.below B0.out) f s).mono ?_
  rintro e w1 ⟨he1, b1⟩
  rw [HW.out] at he1
  subst he1
  have B1 : Hid (Below w.heap.size w w1) := B0.out.trans (b1.mono B0.out.size)
  have R1 : Hid (w1.heap[w.heap.size]? = some (.cells #[.int .i64 f, .int .i64 s] 30 (0, 0))) := (b1.block _ (by simp)).trans R0.out
  replace k0 := cell_below b1 k0
  replace k1 := cell_below b1 k1
  replace y1 := cell_below b1 y1
  replace y2 := cell_below b1 y2
  clear b1 R0 B0
  go_wp2_with fail
  refine (behind_any _ F g a _ (H.out.below B1.out) f).mono ?_
  rintro e w2 ⟨he1, b2⟩
  rw [HI.out] at he1
  subst he1
  have B2 : Hid (Below w.heap.size w w2) := B1.out.trans (b2.mono B1.out.size)
  have R2 : Hid (w2.heap[w.heap.size]? = some (.cells #[.int .i64 f, .int .i64 s] 30 (0, 0))) := (b2.block _ (blk_lt R1.out)).trans R1.out
  replace k0 := cell_below b2 k0
  replace k1 := cell_below b2 k1
  replace y1 := cell_below b2 y1
  replace y2 := cell_below b2 y2
  clear b2 R1 B1
  obtain ⟨_, c1, _⟩ := (H.out.below B2.out).cells
  have f0 := blk_free R2.out 0; have f1 := blk_free R2.out 1
  have f2 := blk_free ((B2.out.block g hgs).trans H.out.blk) 1
  go_wp2_with fail
  refine wp_region_flag (fun _ => True) [(0, 1), (1, 1), (2, 1), (3, 1), (4, 0), (5, 1), (6, 1), (7, 1), (8, 1), (9, 1), (10, 1), (12, 1), (16, 1), (18, 1), (11, 2), (13, 1), (14, 1), (15, 2), (17, 2), (19, 0), (20, 1), (21, 1), (22, 1)] (by kernel_rfl) (by kernel_rfl) trivial ?_
  simp only [ordered, List.map_cons, List.map_nil, List.getD_cons_zero, List.getD_cons_succ]
  repeat (refine wpF_dry (fun K hK => ?_); go_simp; refine hK _ ?_; clear hK K)
  refine wpF_do ?_
  go_wp2_with fail
  refine ⟨trivial, ?_⟩
  repeat (refine wpF_dry (fun K hK => ?_); go_simp; refine hK _ ?_; clear hK K)
  refine wpF_skip (fun K hK => ?_)
  go_simp
  first | refine hK _ ?_ | refine ⟨(fun hh => by cases hh), hK _ ?_⟩
  clear hK K
  repeat (refine wpF_dry (fun K hK => ?_); go_simp; refine hK _ ?_; clear hK K)
  refine wpF_skip (fun K hK => ?_)
  go_simp
  first | refine hK _ ?_ | refine ⟨(fun hh => by cases hh), hK _ ?_⟩
  clear hK K
  refine wpF_skip (fun K hK => ?_)
  go_simp
  first | refine hK _ ?_ | refine ⟨(fun hh => by cases hh), hK _ ?_⟩
  clear hK K
  refine wpF_do ?_
  go_wp2_with fail
  refine ⟨trivial, ?_⟩
  repeat (refine wpF_dry (fun K hK => ?_); go_simp; refine hK _ ?_; clear hK K)
  refine wpF_nil ?_
  go_wp2_with fail
  refine wp_region_flag (fun w' => w'.cell? ⟨g, 1, none⟩ = some (.slice (some ⟨g1, 0, none⟩) a.holes.length cc) ∧ w'.cell? ⟨g1, p * 2, none⟩ = some (.int .i64 y.1) ∧ w'.cell? ⟨g1, p * 2 + 1, none⟩ = some (.int .i64 y.2) ∧ w'.cell? ⟨w.heap.size, 0, none⟩ = some (.int .i64 (f : Nat))) [(0, 1), (1, 1), (2, 1), (3, 1), (4, 1), (5, 1), (7, 1), (8, 1), (12, 1), (13, 1), (14, 1), (16, 1), (17, 1), (22, 1), (6, 2), (9, 1), (10, 1), (11, 2), (15, 2), (18, 1), (19, 1), (20, 2), (21, 1), (23, 0), (24, 1), (25, 1)] (by kernel_rfl) (by kernel_rfl) ⟨c1, y1, y2, k0⟩ ?_
  simp only [ordered, List.map_cons, List.map_nil, List.getD_cons_zero, List.getD_cons_succ]
  repeat (refine wpF_dry (fun K hK => ?_); go_simp; refine hK _ ?_; clear hK K)
  refine wpF_read (.slice (some ⟨g1, 0, none⟩) a.holes.length cc) rfl (fun w' hS => by obtain ⟨s1, s2, s3, s4⟩ := hS; go_simp) (fun K hK => ?_)
  go_simp
  refine hK _ ?_
  clear hK K
  repeat (refine wpF_dry (fun K hK => ?_); go_simp; refine hK _ ?_; clear hK K)
  refine wpF_read (.int .i64 y.1) rfl (fun w' hS => by obtain ⟨s1, s2, s3, s4⟩ := hS; go_simp) (fun K hK => ?_)
  go_simp
  refine hK _ ?_
  clear hK K
  refine wpF_read (.slice (some ⟨g1, 0, none⟩) a.holes.length cc) rfl (fun w' hS => by obtain ⟨s1, s2, s3, s4⟩ := hS; go_simp) (fun K hK => ?_)
  go_simp
  refine hK _ ?_
  clear hK K
  repeat (refine wpF_dry (fun K hK => ?_); go_simp; refine hK _ ?_; clear hK K)
  refine wpF_read (.int .i64 y.2) rfl (fun w' hS => by obtain ⟨s1, s2, s3, s4⟩ := hS; go_simp) (fun K hK => ?_)
  go_simp
  refine hK _ ?_
  clear hK K
  repeat (refine wpF_dry (fun K hK => ?_); go_simp; refine hK _ ?_; clear hK K)
  refine wpF_do ?_
  go_wp2_with fail
  refine ⟨⟨c1, y1, y2, k0⟩, ?_⟩
  repeat (refine wpF_dry (fun K hK => ?_); go_simp; refine hK _ ?_; clear hK K)
  refine wpF_nil ?_
  go_wp2_with fail
  refine wp_at (fun w3 => Below w.heap.size w w3 ∧ w3.heap[w.heap.size]? = some (.cells #[.int .i64 (f : Nat), .int .i64 (s : Nat)] 30 (0, 0))) ⟨by repeat' (first | exact B2.out | refine Below.drew ?_ | exact Nat.le_refl _ | refine Below.setCell ?_ ?_ _), R2.out⟩ ?_
  rintro w3 ⟨b3, r3⟩
  have B3 := Lib.hid b3; have R3 := Lib.hid r3
  clear k0 k1 c1 f0 f1 f2
  have k0 := blk_cell r3 0; have k1 := blk_cell r3 1
  simp only [List.getElem?_toArray, List.getElem?_cons_zero, List.getElem?_cons_succ] at k0 k1
  have f0 := blk_free r3 0; have f1 := blk_free r3 1
  have f2 := blk_free ((b3.block g hgs).trans H.out.blk) 1
  obtain ⟨_, c1, _⟩ := (H.out.below b3).cells
  clear y1 y2
  have y1 := cell_below b3 Y1.out; have y2 := cell_below b3 Y2.out
  clear b3 r3 B2 R2
  refine wp_region_flag (fun _ => True) [(0, 1), (1, 1), (2, 1), (3, 1), (4, 0), (5, 1), (6, 1), (7, 1), (8, 1), (9, 1), (10, 1), (12, 1), (16, 1), (18, 1), (11, 2), (13, 1), (14, 1), (15, 2), (17, 2), (19, 0), (20, 1), (21, 1), (22, 1)] (by kernel_rfl) (by kernel_rfl) trivial ?_
  simp only [ordered, List.map_cons, List.map_nil, List.getD_cons_zero, List.getD_cons_succ]
  repeat (refine wpF_dry (fun K hK => ?_); go_simp; refine hK _ ?_; clear hK K)
  refine wpF_do ?_
  go_wp2_with fail
  refine ⟨trivial, ?_⟩
  repeat (refine wpF_dry (fun K hK => ?_); go_simp; refine hK _ ?_; clear hK K)
  refine wpF_skip (fun K hK => ?_)
  go_simp
  first | refine hK _ ?_ | refine ⟨(fun hh => by cases hh), hK _ ?_⟩
  clear hK K
  repeat (refine wpF_dry (fun K hK => ?_); go_simp; refine hK _ ?_; clear hK K)
  refine wpF_skip (fun K hK => ?_)
  go_simp
  first | refine hK _ ?_ | refine ⟨(fun hh => by cases hh), hK _ ?_⟩
  clear hK K
  refine wpF_skip (fun K hK => ?_)
  go_simp
  first | refine hK _ ?_ | refine ⟨(fun hh => by cases hh), hK _ ?_⟩
  clear hK K
  refine wpF_do ?_
  go_wp2_with fail
  refine ⟨trivial, ?_⟩
  repeat (refine wpF_dry (fun K hK => ?_); go_simp; refine hK _ ?_; clear hK K)
  refine wpF_nil ?_
  go_wp2_with fail
  refine wp_at (fun w4 => Below w.heap.size w w4 ∧ w4.heap[w.heap.size]? = some (.cells #[.int .i64 (f : Nat), .int .i64 (s : Nat)] 30 (0, 0))) ⟨by repeat' (first | exact B3.out | refine Below.drew ?_ | exact Nat.le_refl _ | refine Below.setCell ?_ ?_ _), R3.out⟩ ?_
  rintro w4 ⟨b4, r4⟩
  have B4 := Lib.hid b4; have R4 := Lib.hid r4
  clear k0 k1 c1 f0 f1 f2
  have k0 := blk_cell r4 0; have k1 := blk_cell r4 1
  simp only [List.getElem?_toArray, List.getElem?_cons_zero, List.getElem?_cons_succ] at k0 k1
  have f0 := blk_free r4 0; have f1 := blk_free r4 1
  have f2 := blk_free ((b4.block g hgs).trans H.out.blk) 1
  obtain ⟨_, c1, _⟩ := (H.out.below b4).cells
  clear y1 y2
  have y1 := cell_below b4 Y1.out; have y2 := cell_below b4 Y2.out
  clear b4 r4 B3 R3
  have hto : i ≤ a.holes.length := by omega
  by_cases hcap : i = cc
  · subst hcap
    refine wp_region_last (fun w' => w'.cell? ⟨g, 1, none⟩ = some (.slice (some ⟨g1, 0, none⟩) a.holes.length i) ∧ w'.cell? ⟨w.heap.size, 0, none⟩ = some (.int .i64 (f : Nat)) ∧ w'.cell? ⟨w.heap.size, 1, none⟩ = some (.int .i64 (s : Nat))) [(0, 1), (1, 1), (2, 1), (3, 1), (5, 1), (9, 1), (10, 1), (11, 1), (13, 1), (4, 2), (6, 1), (7, 2), (12, 2), (14, 1), (8, 0), (15, 0), (16, 0), (17, 0), (18, 1)] 19 (by kernel_rfl) (by kernel_rfl) ⟨c1, k0, k1⟩ ?_
    repeat (refine wpL_dry (fun K hK => ?_); simp only [List.getD_cons_zero, List.getD_cons_succ]; go_simp; refine hK _ ?_; clear hK K)
    refine wpL_read (.slice (some ⟨g1, 0, none⟩) a.holes.length i) rfl (fun w' hS => by obtain ⟨s1, s2, s3⟩ := hS; simp only [List.getD_cons_zero, List.getD_cons_succ]; go_simp) (fun K hK => ?_)
    simp only [List.getD_cons_zero, List.getD_cons_succ]
    go_simp
    refine hK _ ?_
    clear hK K
    repeat (refine wpL_dry (fun K hK => ?_); simp only [List.getD_cons_zero, List.getD_cons_succ]; go_simp; refine hK _ ?_; clear hK K)
    refine wpL_read (.agg #[.int .i64 f, .int .i64 s]) rfl (fun w' hS => by obtain ⟨s1, s2, s3⟩ := hS; simp only [List.getD_cons_zero, List.getD_cons_succ]; go_simp) (fun K hK => ?_)
    simp only [List.getD_cons_zero, List.getD_cons_succ]
    go_simp
    refine hK _ ?_
    clear hK K
    refine wpL_read (.slice (some ⟨g1, 0, none⟩) a.holes.length i) rfl (fun w' hS => by obtain ⟨s1, s2, s3⟩ := hS; simp only [List.getD_cons_zero, List.getD_cons_succ]; go_simp) (fun K hK => ?_)
    simp only [List.getD_cons_zero, List.getD_cons_succ]
    go_simp
    refine hK _ ?_
    clear hK K
    repeat (refine wpL_dry (fun K hK => ?_); simp only [List.getD_cons_zero, List.getD_cons_succ]; go_simp; refine hK _ ?_; clear hK K)
    refine wpL_do ?_
    simp only [List.getD_cons_zero, List.getD_cons_succ]
    go_wp2_with fail
    refine ⟨⟨(cell_below (by repeat' (first | exact Below.refl _ _ | refine Below.drew ?_ | refine Below.alloc ?_ (by simp) _)) c1), (cell_below (by repeat' (first | exact Below.refl _ _ | refine Below.drew ?_ | refine Below.alloc ?_ (by simp) _)) k0), (cell_below (by repeat' (first | exact Below.refl _ _ | refine Below.drew ?_ | refine Below.alloc ?_ (by simp) _)) k1)⟩, ?_⟩
    refine wpL_do ?_
    simp only [List.getD_cons_zero, List.getD_cons_succ]
    go_wp2_with fail
    refine ⟨⟨(cell_below (by repeat' (first | exact Below.refl _ _ | refine Below.drew ?_ | refine Below.alloc ?_ (by simp) _)) c1), (cell_below (by repeat' (first | exact Below.refl _ _ | refine Below.drew ?_ | refine Below.alloc ?_ (by simp) _)) k0), (cell_below (by repeat' (first | exact Below.refl _ _ | refine Below.drew ?_ | refine Below.alloc ?_ (by simp) _)) k1)⟩, ?_⟩
    refine wpL_do ?_
    simp only [List.getD_cons_zero, List.getD_cons_succ]
    go_wp2_with fail
    refine (concat_give w4 _ _ _ (a.holes.take i) (a.holes.drop i) _ _ ((rdsp_take H.out.own i hfl _ (by omega)).below B4.out) (rdsp_nil _ (by rw [List.length_drop]; omega)) (by rw [List.length_take]; omega) (by rw [List.length_drop]; omega)).mono ?_
    rintro e w5 ⟨v5, rfl, ho5, b5⟩
    obtain ⟨A5, c5, rfl⟩ := own_slice ho5
    have B5 : Hid (Below w.heap.size w w5) := B4.out.trans (b5.mono B4.out.size)
    have END := Lib.hid (cut_end H.out B5.out ho5 B4.out.size (by have := LN.out; exact this))
    generalize (a.holes.take i ++ ([(f, s)] ++ a.holes.drop i)).length = N5 at END ⊢
    clear f2
    have f2 := blk_free ((B5.out.block g hgs).trans H.out.blk) 1
    have k0' := cell_below b5 k0; have k1' := cell_below b5 k1; have c1' := cell_below b5 c1
    clear k0 k1 c1 b5 ho5
    go_wp2_with fail
    refine ⟨⟨c1', k0', k1'⟩, ?_⟩
    refine wpL_do ?_
    simp only [List.getD_cons_zero, List.getD_cons_succ]
    go_wp2_with fail
    refine ⟨⟨c1', k0', k1'⟩, ?_⟩
    repeat (refine wpL_dry (fun K hK => ?_); simp only [List.getD_cons_zero, List.getD_cons_succ]; go_simp; refine hK _ ?_; clear hK K)
    refine wpL_last ?_
    simp only [List.getD_cons_zero, List.getD_cons_succ]
    go_wp2_with fail
    refine ⟨trivial, ?_⟩
    go_wp2
    go_ret
    refine ⟨rfl, ?_⟩
    have z := END.out
    exact z
  · have hcap' : ¬ cc = i := fun e => hcap e.symm
    refine wp_region_last (fun w' => w'.cell? ⟨g, 1, none⟩ = some (.slice (some ⟨g1, 0, none⟩) a.holes.length cc) ∧ w'.cell? ⟨w.heap.size, 0, none⟩ = some (.int .i64 (f : Nat)) ∧ w'.cell? ⟨w.heap.size, 1, none⟩ = some (.int .i64 (s : Nat))) [(0, 1), (1, 1), (2, 1), (3, 1), (5, 1), (9, 1), (10, 1), (11, 1), (13, 1), (4, 2), (6, 1), (7, 2), (12, 2), (14, 1), (8, 0), (15, 0), (16, 0), (17, 0), (18, 1)] 19 (by kernel_rfl) (by kernel_rfl) ⟨c1, k0, k1⟩ ?_
    repeat (refine wpL_dry (fun K hK => ?_); simp only [List.getD_cons_zero, List.getD_cons_succ]; go_simp; refine hK _ ?_; clear hK K)
    refine wpL_read (.slice (some ⟨g1, 0, none⟩) a.holes.length cc) rfl (fun w' hS => by obtain ⟨s1, s2, s3⟩ := hS; simp only [List.getD_cons_zero, List.getD_cons_succ]; go_simp) (fun K hK => ?_)
    simp only [List.getD_cons_zero, List.getD_cons_succ]
    go_simp
    refine hK _ ?_
    clear hK K
    repeat (refine wpL_dry (fun K hK => ?_); simp only [List.getD_cons_zero, List.getD_cons_succ]; go_simp; refine hK _ ?_; clear hK K)
    refine wpL_read (.agg #[.int .i64 f, .int .i64 s]) rfl (fun w' hS => by obtain ⟨s1, s2, s3⟩ := hS; simp only [List.getD_cons_zero, List.getD_cons_succ]; go_simp) (fun K hK => ?_)
    simp only [List.getD_cons_zero, List.getD_cons_succ]
    go_simp
    refine hK _ ?_
    clear hK K
    refine wpL_read (.slice (some ⟨g1, 0, none⟩) a.holes.length cc) rfl (fun w' hS => by obtain ⟨s1, s2, s3⟩ := hS; simp only [List.getD_cons_zero, List.getD_cons_succ]; go_simp) (fun K hK => ?_)
    simp only [List.getD_cons_zero, List.getD_cons_succ]
    go_simp
    refine hK _ ?_
    clear hK K
    repeat (refine wpL_dry (fun K hK => ?_); simp only [List.getD_cons_zero, List.getD_cons_succ]; go_simp; refine hK _ ?_; clear hK K)
    refine wpL_do ?_
    simp only [List.getD_cons_zero, List.getD_cons_succ]
    go_wp2_with fail
    refine ⟨⟨(cell_below (by repeat' (first | exact Below.refl _ _ | refine Below.drew ?_ | refine Below.alloc ?_ (by simp) _)) c1), (cell_below (by repeat' (first | exact Below.refl _ _ | refine Below.drew ?_ | refine Below.alloc ?_ (by simp) _)) k0), (cell_below (by repeat' (first | exact Below.refl _ _ | refine Below.drew ?_ | refine Below.alloc ?_ (by simp) _)) k1)⟩, ?_⟩
    refine wpL_do ?_
    simp only [List.getD_cons_zero, List.getD_cons_succ]
    go_wp2_with fail
    refine ⟨⟨(cell_below (by repeat' (first | exact Below.refl _ _ | refine Below.drew ?_ | refine Below.alloc ?_ (by simp) _)) c1), (cell_below (by repeat' (first | exact Below.refl _ _ | refine Below.drew ?_ | refine Below.alloc ?_ (by simp) _)) k0), (cell_below (by repeat' (first | exact Below.refl _ _ | refine Below.drew ?_ | refine Below.alloc ?_ (by simp) _)) k1)⟩, ?_⟩
    refine wpL_do ?_
    simp only [List.getD_cons_zero, List.getD_cons_succ]
    go_wp2_with fail
    refine (concat_give w4 _ _ _ (a.holes.take i) (a.holes.drop i) _ _ ((rdsp_take H.out.own i hfl _ (by omega)).below B4.out) ((rdsp_drop H.out.own i hto _ (by omega) _ (.inl rfl)).below B4.out) (by rw [List.length_take]; omega) (by rw [List.length_drop]; omega)).mono ?_
    rintro e w5 ⟨v5, rfl, ho5, b5⟩
    obtain ⟨A5, c5, rfl⟩ := own_slice ho5
    have B5 : Hid (Below w.heap.size w w5) := B4.out.trans (b5.mono B4.out.size)
    have END := Lib.hid (cut_end H.out B5.out ho5 B4.out.size (by have := LN.out; exact this))
    generalize (a.holes.take i ++ ([(f, s)] ++ a.holes.drop i)).length = N5 at END ⊢
    clear f2
    have f2 := blk_free ((B5.out.block g hgs).trans H.out.blk) 1
    have k0' := cell_below b5 k0; have k1' := cell_below b5 k1; have c1' := cell_below b5 c1
    clear k0 k1 c1 b5 ho5
    go_wp2_with fail
    refine ⟨⟨c1', k0', k1'⟩, ?_⟩
    refine wpL_do ?_
    simp only [List.getD_cons_zero, List.getD_cons_succ]
    go_wp2_with fail
    refine ⟨⟨c1', k0', k1'⟩, ?_⟩
    repeat (refine wpL_dry (fun K hK => ?_); simp only [List.getD_cons_zero, List.getD_cons_succ]; go_simp; refine hK _ ?_; clear hK K)
    refine wpL_last ?_
    simp only [List.getD_cons_zero, List.getD_cons_succ]
    go_wp2_with fail
    refine ⟨trivial, ?_⟩
    go_wp2
    go_ret
    refine ⟨rfl, ?_⟩
    have z := END.out
    exact z
end Go.Proofs.Ythloinmnojlleaa
