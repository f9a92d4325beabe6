/- PlayG: the walk of step for a write (written by gen_step.py). -/
import Derived.Test.YtfkonndbgmmckaaPlayB
set_option linter.unusedVariables false
set_option linter.unusedSimpArgs false
namespace Go.Proofs.Ytfkonndbgmmckaa
open Go.RowKit

set_option maxHeartbeats 12800000 in
set_option maxRecDepth 100000 in
theorem step_write (w0 w : World) (F R : Nat → Prop) (g : Nat) (d : Dk) (vl vw : Value) (ps : List Part) (h : Mine w0 w (dk F g d :: rf R d vl vw :: ps)) (o : OpV) (hk : o.kind = 0) (hw : d.writes < 9223372036854775807) (hm : d.waits.length + 1 ≤ 5864062014805) :
    Calls Try.prog 26 #[.pointer (some ⟨g, 0, none⟩), refV d vl vw, .agg #[.int .i64 o.kind, .int .i64 o.at_, .int .i64 o.long, .int .u8 o.fill.toNat, .slice o.pA o.picks.length o.pc]] w fun e w' =>
      ∃ F' g' R' vl' vw', e = .returned (.tuple #[.pointer (some ⟨g', 0, none⟩), refV (d.write o.at_ o.text) vl' vw', .bool true]) ∧ Mine w0 w' (dk F' g' (d.write o.at_ o.text) :: rf R' (d.write o.at_ o.text) vl' vw' :: ps) := by
  have M := Lib.hid h
  obtain ⟨A, c, rfl⟩ := own_slice (h.ref (l1 := [_])).ownW
  obtain ⟨A2, c2, rfl⟩ := own_slice (h.ref (l1 := [_])).own
  clear h
  rw [hk]
  unfold refV
  have B3 : ∀ a b c, Hid (Below w.heap.size w (((w.alloc a).alloc b).alloc c)) := fun a b c => (((Below.refl _ w).alloc (Nat.le_refl _) a).alloc (by simp) b).alloc (by simp; omega) c
  have M3 : Hid (Mine w0 (((w.alloc (.cells #[.slice A2 d.l.length c2, .slice A d.waits.length c, .int .i64 d.fuse, .int .i64 d.writes, .bool d.down] 50)).alloc (.cells #[.int .i64 0, .int .i64 o.at_, .int .i64 o.long, .int .u8 o.fill.toNat, .slice o.pA o.picks.length o.pc] 35)).alloc (.cells #[.slice none 0 0, .slice none 0 0, .int .i64 0, .int .i64 0, .bool false] 50))
      (bx (w.heap.size + 2) #[.slice none 0 0, .slice none 0 0, .int .i64 0, .int .i64 0, .bool false] 50 :: bx (w.heap.size + 1) #[.int .i64 0, .int .i64 o.at_, .int .i64 o.long, .int .u8 o.fill.toNat, .slice o.pA o.picks.length o.pc] 35 ::
       bx w.heap.size #[.slice A2 d.l.length c2, .slice A d.waits.length c, .int .i64 d.fuse, .int .i64 d.writes, .bool d.down] 50 :: dk F g d :: rf R d (.slice A2 d.l.length c2) (.slice A d.waits.length c) :: ps)) :=
    ((M.out.newBx _ rfl _ _).newBx _ (by simp) _ _).newBx _ (by simp) _ _
  go_enter Try.func26, Try.ntmps26
  go_wp2_with fail
  generalize (((w.alloc (.cells #[.slice A2 d.l.length c2, .slice A d.waits.length c, .int .i64 d.fuse, .int .i64 d.writes, .bool d.down] 50)).alloc (.cells #[.int .i64 0, .int .i64 o.at_, .int .i64 o.long, .int .u8 o.fill.toNat, .slice o.pA o.picks.length o.pc] 35)).alloc (.cells #[.slice none 0 0, .slice none 0 0, .int .i64 0, .int .i64 0, .bool false] 50)) = w2 at M3 ⊢
  clear M B3
  have o0 := M3.out.box (l1 := [_])
  have x0 := blk_cell o0 0; have x1 := blk_cell o0 1; have x2 := blk_cell o0 2; have x3 := blk_cell o0 3; have x4 := blk_cell o0 4
  simp only [List.getElem?_toArray, List.getElem?_cons_zero, List.getElem?_cons_succ] at x0 x1 x2 x3 x4
  have r0 := M3.out.box (l1 := [_, _])
  have k0 := blk_cell r0 0; have k1 := blk_cell r0 1; have k2 := blk_cell r0 2; have k3 := blk_cell r0 3; have k4 := blk_cell r0 4
  simp only [List.getElem?_toArray, List.getElem?_cons_zero, List.getElem?_cons_succ] at k0 k1 k2 k3 k4
  clear o0 r0
  refine wp_region_plan (fun w' => w'.cell? ⟨w.heap.size + 1, 1, none⟩ = some (.int .i64 o.at_)) (.op 1 1 (.op 2 2 (.two 0 (.op 3 0 (.op 4 0 (.op 5 0 (.op 6 1 (.op 7 1 (.op 8 1 (.op 9 0 (.op 10 1 .done)))))))) 3 (.two 0 (.op 4 0 (.op 5 0 (.op 6 1 (.op 7 1 (.op 8 1 (.op 9 0 (.op 10 1 .done))))))) 4 (.op 0 0 (.op 5 0 (.op 6 1 (.op 7 1 (.op 8 1 (.op 9 0 (.op 10 1 .done))))))))))) (by kernel_rfl) (by kernel_rfl) x1 ?_
  refine wpP_dry (fun K hK => ?_)
  simp only [List.getD_cons_zero, List.getD_cons_succ]
  go_simp
  refine hK _ ?_
  clear hK K
  refine wpP_read (.int .i64 o.at_) rfl (fun w' hS => by go_simp) (fun K hK => ?_)
  go_simp
  refine hK _ ?_
  clear hK K
  refine wpP_two ?_ ?_
  · simp only [List.getD_cons_zero, List.getD_cons_succ]
    go_wp2_with fail
    refine ⟨x1, ?_⟩
    refine wpP_do ?_
    simp only [List.getD_cons_zero, List.getD_cons_succ]
    go_wp2_with fail
    refine ⟨x1, ?_⟩
    refine wpP_do ?_
    simp only [List.getD_cons_zero, List.getD_cons_succ]
    go_wp2_with fail
    refine (filled_any _ 0 o.at_ o.long o.fill o.pA o.picks.length o.pc).mono ?_
    rintro e w3 ⟨rfl, b3⟩
    have M4 := Lib.hid (M3.out.drew.below b3)
    have j1 := cell_below b3 x1
    have i0 := cell_below b3 k0; have i1 := cell_below b3 k1; have i2 := cell_below b3 k2; have i3 := cell_below b3 k3; have i4 := cell_below b3 k4
    clear b3 x0 x1 x2 x3 x4 k0 k1 k2 k3 k4 M3
    go_wp2_with fail
    refine ⟨j1, ?_⟩
    refine wpP_do ?_
    simp only [List.getD_cons_zero, List.getD_cons_succ]
    have RW := Lib.hid (rwrite_any w3 R d _ _ (M4.out.ref (l1 := [_, _, _, _])) o.at_ (Dk.rep (filledN o.long) o.fill) (by rw [Dk.rep_size]; have := filledN_le o.long; omega) hm hw)
    unfold refV at RW
    go_wp2_with fail
    refine RW.out.mono ?_
    rintro e w4 ⟨R1, v1, v2, rfl, t1⟩
    obtain ⟨A3, c3, rfl⟩ := own_slice t1.has.ownW
    obtain ⟨A4, c4, rfl⟩ := own_slice t1.has.own
    have M5 := Lib.hid (M4.out.rto (l1 := [_, _, _, _]) t1)
    have j1 := cell_below t1.bel j1
    obtain ⟨D, hD⟩ : ∃ D, D = d.write o.at_ (Dk.rep (filledN o.long) o.fill) := ⟨_, rfl⟩
    rw [← hD] at M5 ⊢
    have HD := Lib.hid hD
    have r0 := M5.out.box (l1 := [_, _])
    have k0 := blk_cell r0 0; have k1 := blk_cell r0 1; have k2 := blk_cell r0 2; have k3 := blk_cell r0 3; have k4 := blk_cell r0 4
    have f0 := blk_free r0 0; have f1 := blk_free r0 1; have f2 := blk_free r0 2; have f3 := blk_free r0 3; have f4 := blk_free r0 4
    simp only [List.getElem?_toArray, List.getElem?_cons_zero, List.getElem?_cons_succ] at k0 k1 k2 k3 k4
    clear t1 r0 RW M4 i0 i1 i2 i3 i4 hD
    go_wp2_with fail
    refine ⟨j1, ?_⟩
    repeat (refine wpP_dry (fun K hK => ?_); simp only [List.getD_cons_zero, List.getD_cons_succ]; go_simp; refine hK _ ?_; clear hK K)
    refine wpP_do ?_
    simp only [List.getD_cons_zero, List.getD_cons_succ]
    go_wp2_with fail
    have M6 : Hid (Mine w0 (set5 w4 w.heap.size (.slice A4 D.l.length c4) (.slice A3 D.waits.length c3) (.int .i64 D.fuse) (.int .i64 D.writes) (.bool D.down)) _) := M5.out.setBx (l1 := [_, _])
    clear k0 k1 k2 k3 k4 f0 f1 f2 f3 f4 M5 j1
    have hW : ∃ W, W = set5 w4 w.heap.size (.slice A4 D.l.length c4) (.slice A3 D.waits.length c3) (.int .i64 D.fuse) (.int .i64 D.writes) (.bool D.down) := ⟨_, rfl⟩
    obtain ⟨W, hW⟩ := hW
    have hW2 := hW
    unfold set5 at hW2
    simp only [← hW2]
    rw [← hW] at M6
    have o0 := M6.out.box (l1 := [_])
    have x0 := blk_cell o0 0; have x1 := blk_cell o0 1; have x2 := blk_cell o0 2; have x3 := blk_cell o0 3; have x4 := blk_cell o0 4
    simp only [List.getElem?_toArray, List.getElem?_cons_zero, List.getElem?_cons_succ] at x0 x1 x2 x3 x4
    refine ⟨x1, ?_⟩
    clear hW hW2 o0
    repeat (refine wpP_dry (fun K hK => ?_); simp only [List.getD_cons_zero, List.getD_cons_succ]; go_simp; refine hK _ ?_; clear hK K)
    refine wpP_done ?_
    go_wp2_with fail
    refine wp_region_flag (fun w' => w'.cell? ⟨w.heap.size + 1, 1, none⟩ = some (.int .i64 o.at_)) [(0, 1), (1, 1), (2, 2), (3, 0), (4, 0), (5, 0), (6, 1)] (by kernel_rfl) (by kernel_rfl) x1 ?_
    simp only [ordered, List.map_cons, List.map_nil, List.getD_cons_zero, List.getD_cons_succ]
    repeat (refine wpF_dry (fun K hK => ?_); go_simp; refine hK _ ?_; clear hK K)
    refine wpF_read (.int .i64 o.at_) rfl (fun w' hS => by go_simp) (fun K hK => ?_)
    go_simp
    refine hK _ ?_
    clear hK K
    refine wpF_do ?_
    go_wp2_with fail
    refine ⟨x1, ?_⟩
    refine wpF_do ?_
    go_wp2_with fail
    refine (filled_any _ 0 o.at_ o.long o.fill o.pA o.picks.length o.pc).mono ?_
    rintro e w5 ⟨rfl, b5⟩
    have M7 := Lib.hid (M6.out.drew.below b5)
    have j1 := cell_below b5 x1
    clear b5 x0 x1 x2 x3 x4 M6
    go_wp2_with fail
    refine ⟨j1, ?_⟩
    refine wpF_do ?_
    go_wp2_with fail
    refine (write_h (M7.out.get (l1 := [_, _, _])) o.at_ (Dk.rep (filledN o.long) o.fill) (by rw [Dk.rep_size]; have := filledN_le o.long; omega) hm hw).mono ?_
    rintro e w6 ⟨rfl, F6, h6⟩
    have M8 := Lib.hid (M7.out.dk (l1 := [_, _, _]) h6)
    clear h6 M7 j1
    have o0 := M8.out.box (l1 := [_])
    have x1 := blk_cell o0 1
    simp only [List.getElem?_toArray, List.getElem?_cons_zero, List.getElem?_cons_succ] at x1
    have r0 := M8.out.box (l1 := [_, _])
    have k0 := blk_cell r0 0; have k1 := blk_cell r0 1; have k2 := blk_cell r0 2; have k3 := blk_cell r0 3; have k4 := blk_cell r0 4
    simp only [List.getElem?_toArray, List.getElem?_cons_zero, List.getElem?_cons_succ] at k0 k1 k2 k3 k4
    have p0 := M8.out.box (l1 := [])
    have z0 := blk_cell p0 0; have z1 := blk_cell p0 1; have z2 := blk_cell p0 2; have z3 := blk_cell p0 3; have z4 := blk_cell p0 4
    have y0 := blk_free p0 0; have y1 := blk_free p0 1; have y2 := blk_free p0 2; have y3 := blk_free p0 3; have y4 := blk_free p0 4
    simp only [List.getElem?_toArray, List.getElem?_cons_zero, List.getElem?_cons_succ] at z0 z1 z2 z3 z4
    clear o0 r0 p0
    go_wp2_with fail
    refine ⟨x1, ?_⟩
    repeat (refine wpF_dry (fun K hK => ?_); go_simp; refine hK _ ?_; clear hK K)
    refine wpF_nil ?_
    go_wp2_with fail
    refine wp_region_flag (fun _ => True) [(0, 1), (2, 1), (3, 1), (4, 1), (5, 1), (1, 0), (6, 0), (7, 1)] (by kernel_rfl) (by kernel_rfl) trivial ?_
    simp only [ordered, List.map_cons, List.map_nil, List.getD_cons_zero, List.getD_cons_succ]
    repeat (refine wpF_dry (fun K hK => ?_); go_simp; refine hK _ ?_; clear hK K)
    refine wpF_do ?_
    go_wp2_with fail
    refine ⟨trivial, ?_⟩
    refine wpF_do ?_
    go_wp2_with fail
    refine ⟨trivial, ?_⟩
    repeat (refine wpF_dry (fun K hK => ?_); go_simp; refine hK _ ?_; clear hK K)
    refine wpF_nil ?_
    go_wp2
    have e := HD.out
    subst e
    clear HD
    have M9 : Hid (Mine w0 (set5 w6 (w.heap.size + 2) (.slice A4 (d.write o.at_ o.text).l.length c4) (.slice A3 (d.write o.at_ o.text).waits.length c3) (.int .i64 (d.write o.at_ o.text).fuse) (.int .i64 (d.write o.at_ o.text).writes) (.bool (d.write o.at_ o.text).down)).drew _) := (M8.out.setBx (l1 := [])).drew
    refine bodyPost_ret (ret_ref3 rfl _ rfl (M9.out.box (l1 := []))) rfl ?_
    exact ⟨_, _, _, _, _, rfl, M9.out.drop1.drop1.drop1⟩
  · simp only [List.getD_cons_zero, List.getD_cons_succ]
    go_wp2_with fail
    refine ⟨x1, ?_⟩
    refine wpP_two ?_ ?_
    · simp only [List.getD_cons_zero, List.getD_cons_succ]
      go_wp2_with fail
      refine ⟨x1, ?_⟩
      refine wpP_do ?_
      simp only [List.getD_cons_zero, List.getD_cons_succ]
      go_wp2_with fail
      refine (filled_any _ 0 o.at_ o.long o.fill o.pA o.picks.length o.pc).mono ?_
      rintro e w3 ⟨rfl, b3⟩
      have M4 := Lib.hid (M3.out.drew.below b3)
      have j1 := cell_below b3 x1
      have i0 := cell_below b3 k0; have i1 := cell_below b3 k1; have i2 := cell_below b3 k2; have i3 := cell_below b3 k3; have i4 := cell_below b3 k4
      clear b3 x0 x1 x2 x3 x4 k0 k1 k2 k3 k4 M3
      go_wp2_with fail
      refine ⟨j1, ?_⟩
      refine wpP_do ?_
      simp only [List.getD_cons_zero, List.getD_cons_succ]
      have RW := Lib.hid (rwrite_any w3 R d _ _ (M4.out.ref (l1 := [_, _, _, _])) o.at_ (Dk.rep (filledN o.long) o.fill) (by rw [Dk.rep_size]; have := filledN_le o.long; omega) hm hw)
      unfold refV at RW
      go_wp2_with fail
      refine RW.out.mono ?_
      rintro e w4 ⟨R1, v1, v2, rfl, t1⟩
      obtain ⟨A3, c3, rfl⟩ := own_slice t1.has.ownW
      obtain ⟨A4, c4, rfl⟩ := own_slice t1.has.own
      have M5 := Lib.hid (M4.out.rto (l1 := [_, _, _, _]) t1)
      have j1 := cell_below t1.bel j1
      obtain ⟨D, hD⟩ : ∃ D, D = d.write o.at_ (Dk.rep (filledN o.long) o.fill) := ⟨_, rfl⟩
      rw [← hD] at M5 ⊢
      have HD := Lib.hid hD
      have r0 := M5.out.box (l1 := [_, _])
      have k0 := blk_cell r0 0; have k1 := blk_cell r0 1; have k2 := blk_cell r0 2; have k3 := blk_cell r0 3; have k4 := blk_cell r0 4
      have f0 := blk_free r0 0; have f1 := blk_free r0 1; have f2 := blk_free r0 2; have f3 := blk_free r0 3; have f4 := blk_free r0 4
      simp only [List.getElem?_toArray, List.getElem?_cons_zero, List.getElem?_cons_succ] at k0 k1 k2 k3 k4
      clear t1 r0 RW M4 i0 i1 i2 i3 i4 hD
      go_wp2_with fail
      refine ⟨j1, ?_⟩
      repeat (refine wpP_dry (fun K hK => ?_); simp only [List.getD_cons_zero, List.getD_cons_succ]; go_simp; refine hK _ ?_; clear hK K)
      refine wpP_do ?_
      simp only [List.getD_cons_zero, List.getD_cons_succ]
      go_wp2_with fail
      have M6 : Hid (Mine w0 (set5 w4 w.heap.size (.slice A4 D.l.length c4) (.slice A3 D.waits.length c3) (.int .i64 D.fuse) (.int .i64 D.writes) (.bool D.down)) _) := M5.out.setBx (l1 := [_, _])
      clear k0 k1 k2 k3 k4 f0 f1 f2 f3 f4 M5 j1
      have hW : ∃ W, W = set5 w4 w.heap.size (.slice A4 D.l.length c4) (.slice A3 D.waits.length c3) (.int .i64 D.fuse) (.int .i64 D.writes) (.bool D.down) := ⟨_, rfl⟩
      obtain ⟨W, hW⟩ := hW
      have hW2 := hW
      unfold set5 at hW2
      simp only [← hW2]
      rw [← hW] at M6
      have o0 := M6.out.box (l1 := [_])
      have x0 := blk_cell o0 0; have x1 := blk_cell o0 1; have x2 := blk_cell o0 2; have x3 := blk_cell o0 3; have x4 := blk_cell o0 4
      simp only [List.getElem?_toArray, List.getElem?_cons_zero, List.getElem?_cons_succ] at x0 x1 x2 x3 x4
      refine ⟨x1, ?_⟩
      clear hW hW2 o0
      repeat (refine wpP_dry (fun K hK => ?_); simp only [List.getD_cons_zero, List.getD_cons_succ]; go_simp; refine hK _ ?_; clear hK K)
      refine wpP_done ?_
      go_wp2_with fail
      refine wp_region_flag (fun w' => w'.cell? ⟨w.heap.size + 1, 1, none⟩ = some (.int .i64 o.at_)) [(0, 1), (1, 1), (2, 2), (3, 0), (4, 0), (5, 0), (6, 1)] (by kernel_rfl) (by kernel_rfl) x1 ?_
      simp only [ordered, List.map_cons, List.map_nil, List.getD_cons_zero, List.getD_cons_succ]
      repeat (refine wpF_dry (fun K hK => ?_); go_simp; refine hK _ ?_; clear hK K)
      refine wpF_read (.int .i64 o.at_) rfl (fun w' hS => by go_simp) (fun K hK => ?_)
      go_simp
      refine hK _ ?_
      clear hK K
      refine wpF_do ?_
      go_wp2_with fail
      refine ⟨x1, ?_⟩
      refine wpF_do ?_
      go_wp2_with fail
      refine (filled_any _ 0 o.at_ o.long o.fill o.pA o.picks.length o.pc).mono ?_
      rintro e w5 ⟨rfl, b5⟩
      have M7 := Lib.hid (M6.out.drew.below b5)
      have j1 := cell_below b5 x1
      clear b5 x0 x1 x2 x3 x4 M6
      go_wp2_with fail
      refine ⟨j1, ?_⟩
      refine wpF_do ?_
      go_wp2_with fail
      refine (write_h (M7.out.get (l1 := [_, _, _])) o.at_ (Dk.rep (filledN o.long) o.fill) (by rw [Dk.rep_size]; have := filledN_le o.long; omega) hm hw).mono ?_
      rintro e w6 ⟨rfl, F6, h6⟩
      have M8 := Lib.hid (M7.out.dk (l1 := [_, _, _]) h6)
      clear h6 M7 j1
      have o0 := M8.out.box (l1 := [_])
      have x1 := blk_cell o0 1
      simp only [List.getElem?_toArray, List.getElem?_cons_zero, List.getElem?_cons_succ] at x1
      have r0 := M8.out.box (l1 := [_, _])
      have k0 := blk_cell r0 0; have k1 := blk_cell r0 1; have k2 := blk_cell r0 2; have k3 := blk_cell r0 3; have k4 := blk_cell r0 4
      simp only [List.getElem?_toArray, List.getElem?_cons_zero, List.getElem?_cons_succ] at k0 k1 k2 k3 k4
      have p0 := M8.out.box (l1 := [])
      have z0 := blk_cell p0 0; have z1 := blk_cell p0 1; have z2 := blk_cell p0 2; have z3 := blk_cell p0 3; have z4 := blk_cell p0 4
      have y0 := blk_free p0 0; have y1 := blk_free p0 1; have y2 := blk_free p0 2; have y3 := blk_free p0 3; have y4 := blk_free p0 4
      simp only [List.getElem?_toArray, List.getElem?_cons_zero, List.getElem?_cons_succ] at z0 z1 z2 z3 z4
      clear o0 r0 p0
      go_wp2_with fail
      refine ⟨x1, ?_⟩
      repeat (refine wpF_dry (fun K hK => ?_); go_simp; refine hK _ ?_; clear hK K)
      refine wpF_nil ?_
      go_wp2_with fail
      refine wp_region_flag (fun _ => True) [(0, 1), (2, 1), (3, 1), (4, 1), (5, 1), (1, 0), (6, 0), (7, 1)] (by kernel_rfl) (by kernel_rfl) trivial ?_
      simp only [ordered, List.map_cons, List.map_nil, List.getD_cons_zero, List.getD_cons_succ]
      repeat (refine wpF_dry (fun K hK => ?_); go_simp; refine hK _ ?_; clear hK K)
      refine wpF_do ?_
      go_wp2_with fail
      refine ⟨trivial, ?_⟩
      refine wpF_do ?_
      go_wp2_with fail
      refine ⟨trivial, ?_⟩
      repeat (refine wpF_dry (fun K hK => ?_); go_simp; refine hK _ ?_; clear hK K)
      refine wpF_nil ?_
      go_wp2
      have e := HD.out
      subst e
      clear HD
      have M9 : Hid (Mine w0 (set5 w6 (w.heap.size + 2) (.slice A4 (d.write o.at_ o.text).l.length c4) (.slice A3 (d.write o.at_ o.text).waits.length c3) (.int .i64 (d.write o.at_ o.text).fuse) (.int .i64 (d.write o.at_ o.text).writes) (.bool (d.write o.at_ o.text).down)).drew _) := (M8.out.setBx (l1 := [])).drew
      refine bodyPost_ret (ret_ref3 rfl _ rfl (M9.out.box (l1 := []))) rfl ?_
      exact ⟨_, _, _, _, _, rfl, M9.out.drop1.drop1.drop1⟩
    · simp only [List.getD_cons_zero, List.getD_cons_succ]
      go_wp2_with fail
      refine (filled_any _ 0 o.at_ o.long o.fill o.pA o.picks.length o.pc).mono ?_
      rintro e w3 ⟨rfl, b3⟩
      have M4 := Lib.hid (M3.out.drew.below b3)
      have j1 := cell_below b3 x1
      have i0 := cell_below b3 k0; have i1 := cell_below b3 k1; have i2 := cell_below b3 k2; have i3 := cell_below b3 k3; have i4 := cell_below b3 k4
      clear b3 x0 x1 x2 x3 x4 k0 k1 k2 k3 k4 M3
      go_wp2_with fail
      refine ⟨j1, ?_⟩
      refine wpP_do ?_
      simp only [List.getD_cons_zero, List.getD_cons_succ]
      go_wp2_with fail
      refine ⟨j1, ?_⟩
      refine wpP_do ?_
      simp only [List.getD_cons_zero, List.getD_cons_succ]
      have RW := Lib.hid (rwrite_any w3 R d _ _ (M4.out.ref (l1 := [_, _, _, _])) o.at_ (Dk.rep (filledN o.long) o.fill) (by rw [Dk.rep_size]; have := filledN_le o.long; omega) hm hw)
      unfold refV at RW
      go_wp2_with fail
      refine RW.out.mono ?_
      rintro e w4 ⟨R1, v1, v2, rfl, t1⟩
      obtain ⟨A3, c3, rfl⟩ := own_slice t1.has.ownW
      obtain ⟨A4, c4, rfl⟩ := own_slice t1.has.own
      have M5 := Lib.hid (M4.out.rto (l1 := [_, _, _, _]) t1)
      have j1 := cell_below t1.bel j1
      obtain ⟨D, hD⟩ : ∃ D, D = d.write o.at_ (Dk.rep (filledN o.long) o.fill) := ⟨_, rfl⟩
      rw [← hD] at M5 ⊢
      have HD := Lib.hid hD
      have r0 := M5.out.box (l1 := [_, _])
      have k0 := blk_cell r0 0; have k1 := blk_cell r0 1; have k2 := blk_cell r0 2; have k3 := blk_cell r0 3; have k4 := blk_cell r0 4
      have f0 := blk_free r0 0; have f1 := blk_free r0 1; have f2 := blk_free r0 2; have f3 := blk_free r0 3; have f4 := blk_free r0 4
      simp only [List.getElem?_toArray, List.getElem?_cons_zero, List.getElem?_cons_succ] at k0 k1 k2 k3 k4
      clear t1 r0 RW M4 i0 i1 i2 i3 i4 hD
      go_wp2_with fail
      refine ⟨j1, ?_⟩
      repeat (refine wpP_dry (fun K hK => ?_); simp only [List.getD_cons_zero, List.getD_cons_succ]; go_simp; refine hK _ ?_; clear hK K)
      refine wpP_do ?_
      simp only [List.getD_cons_zero, List.getD_cons_succ]
      go_wp2_with fail
      have M6 : Hid (Mine w0 (set5 w4 w.heap.size (.slice A4 D.l.length c4) (.slice A3 D.waits.length c3) (.int .i64 D.fuse) (.int .i64 D.writes) (.bool D.down)) _) := M5.out.setBx (l1 := [_, _])
      clear k0 k1 k2 k3 k4 f0 f1 f2 f3 f4 M5 j1
      have hW : ∃ W, W = set5 w4 w.heap.size (.slice A4 D.l.length c4) (.slice A3 D.waits.length c3) (.int .i64 D.fuse) (.int .i64 D.writes) (.bool D.down) := ⟨_, rfl⟩
      obtain ⟨W, hW⟩ := hW
      have hW2 := hW
      unfold set5 at hW2
      simp only [← hW2]
      rw [← hW] at M6
      have o0 := M6.out.box (l1 := [_])
      have x0 := blk_cell o0 0; have x1 := blk_cell o0 1; have x2 := blk_cell o0 2; have x3 := blk_cell o0 3; have x4 := blk_cell o0 4
      simp only [List.getElem?_toArray, List.getElem?_cons_zero, List.getElem?_cons_succ] at x0 x1 x2 x3 x4
      refine ⟨x1, ?_⟩
      clear hW hW2 o0
      repeat (refine wpP_dry (fun K hK => ?_); simp only [List.getD_cons_zero, List.getD_cons_succ]; go_simp; refine hK _ ?_; clear hK K)
      refine wpP_done ?_
      go_wp2_with fail
      refine wp_region_flag (fun w' => w'.cell? ⟨w.heap.size + 1, 1, none⟩ = some (.int .i64 o.at_)) [(0, 1), (1, 1), (2, 2), (3, 0), (4, 0), (5, 0), (6, 1)] (by kernel_rfl) (by kernel_rfl) x1 ?_
      simp only [ordered, List.map_cons, List.map_nil, List.getD_cons_zero, List.getD_cons_succ]
      repeat (refine wpF_dry (fun K hK => ?_); go_simp; refine hK _ ?_; clear hK K)
      refine wpF_read (.int .i64 o.at_) rfl (fun w' hS => by go_simp) (fun K hK => ?_)
      go_simp
      refine hK _ ?_
      clear hK K
      refine wpF_do ?_
      go_wp2_with fail
      refine ⟨x1, ?_⟩
      refine wpF_do ?_
      go_wp2_with fail
      refine (filled_any _ 0 o.at_ o.long o.fill o.pA o.picks.length o.pc).mono ?_
      rintro e w5 ⟨rfl, b5⟩
      have M7 := Lib.hid (M6.out.drew.below b5)
      have j1 := cell_below b5 x1
      clear b5 x0 x1 x2 x3 x4 M6
      go_wp2_with fail
      refine ⟨j1, ?_⟩
      refine wpF_do ?_
      go_wp2_with fail
      refine (write_h (M7.out.get (l1 := [_, _, _])) o.at_ (Dk.rep (filledN o.long) o.fill) (by rw [Dk.rep_size]; have := filledN_le o.long; omega) hm hw).mono ?_
      rintro e w6 ⟨rfl, F6, h6⟩
      have M8 := Lib.hid (M7.out.dk (l1 := [_, _, _]) h6)
      clear h6 M7 j1
      have o0 := M8.out.box (l1 := [_])
      have x1 := blk_cell o0 1
      simp only [List.getElem?_toArray, List.getElem?_cons_zero, List.getElem?_cons_succ] at x1
      have r0 := M8.out.box (l1 := [_, _])
      have k0 := blk_cell r0 0; have k1 := blk_cell r0 1; have k2 := blk_cell r0 2; have k3 := blk_cell r0 3; have k4 := blk_cell r0 4
      simp only [List.getElem?_toArray, List.getElem?_cons_zero, List.getElem?_cons_succ] at k0 k1 k2 k3 k4
      have p0 := M8.out.box (l1 := [])
      have z0 := blk_cell p0 0; have z1 := blk_cell p0 1; have z2 := blk_cell p0 2; have z3 := blk_cell p0 3; have z4 := blk_cell p0 4
      have y0 := blk_free p0 0; have y1 := blk_free p0 1; have y2 := blk_free p0 2; have y3 := blk_free p0 3; have y4 := blk_free p0 4
      simp only [List.getElem?_toArray, List.getElem?_cons_zero, List.getElem?_cons_succ] at z0 z1 z2 z3 z4
      clear o0 r0 p0
      go_wp2_with fail
      refine ⟨x1, ?_⟩
      repeat (refine wpF_dry (fun K hK => ?_); go_simp; refine hK _ ?_; clear hK K)
      refine wpF_nil ?_
      go_wp2_with fail
      refine wp_region_flag (fun _ => True) [(0, 1), (2, 1), (3, 1), (4, 1), (5, 1), (1, 0), (6, 0), (7, 1)] (by kernel_rfl) (by kernel_rfl) trivial ?_
      simp only [ordered, List.map_cons, List.map_nil, List.getD_cons_zero, List.getD_cons_succ]
      repeat (refine wpF_dry (fun K hK => ?_); go_simp; refine hK _ ?_; clear hK K)
      refine wpF_do ?_
      go_wp2_with fail
      refine ⟨trivial, ?_⟩
      refine wpF_do ?_
      go_wp2_with fail
      refine ⟨trivial, ?_⟩
      repeat (refine wpF_dry (fun K hK => ?_); go_simp; refine hK _ ?_; clear hK K)
      refine wpF_nil ?_
      go_wp2
      have e := HD.out
      subst e
      clear HD
      have M9 : Hid (Mine w0 (set5 w6 (w.heap.size + 2) (.slice A4 (d.write o.at_ o.text).l.length c4) (.slice A3 (d.write o.at_ o.text).waits.length c3) (.int .i64 (d.write o.at_ o.text).fuse) (.int .i64 (d.write o.at_ o.text).writes) (.bool (d.write o.at_ o.text).down)).drew _) := (M8.out.setBx (l1 := [])).drew
      refine bodyPost_ret (ret_ref3 rfl _ rfl (M9.out.box (l1 := []))) rfl ?_
      exact ⟨_, _, _, _, _, rfl, M9.out.drop1.drop1.drop1⟩
end Go.Proofs.Ytfkonndbgmmckaa
