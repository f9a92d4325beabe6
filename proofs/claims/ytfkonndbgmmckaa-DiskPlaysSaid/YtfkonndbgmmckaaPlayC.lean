/- PlayC: the walks of step for Start and Fuse (written by gen_step.py). -/
import Derived.Test.YtfkonndbgmmckaaPlayB
set_option linter.unusedVariables false
set_option linter.unusedSimpArgs false
namespace Go.Proofs.Ytfkonndbgmmckaa
open Go.RowKit

theorem RefAt.re {w : World} {R : Nat → Prop} {d d' : Dk} {vl vw : Value} (h : RefAt w R d vl vw) (hl : d'.l = d.l) (hw : d'.waits = d.waits) (ok : d'.Ok) : RefAt w R d' vl vw :=
  ⟨by rw [hl]; exact h.own, by rw [hw]; exact h.ownW, h.fl, h.fw, h.lt, ok, fun e => h.nil (by rw [← hw]; exact e)⟩
theorem start_same (d : Dk) : d.start.l = d.l ∧ d.start.waits = d.waits := by unfold Dk.start; split <;> exact ⟨rfl, rfl⟩
theorem setFuse_same (d : Dk) (n : Int) : (d.setFuse n).l = d.l ∧ (d.setFuse n).waits = d.waits := by unfold Dk.setFuse; split <;> exact ⟨rfl, rfl⟩
theorem rstart_t (w : World) (F : Nat → Prop) (d : Dk) (vl vw : Value) (h : RefAt w F d vl vw) (hm : d.waits.length < 9223372036854775807) :
    Calls Try.prog 36 #[refV d vl vw] w fun e w' => ∃ F' vl' vw', e = .returned (.tuple #[refV d.start vl' vw', .int .i64 d.startE]) ∧ RTo w F d.start w' F' vl' vw' :=
  (rstart_any w F d vl vw h hm).mono fun e w' ⟨a, b⟩ => ⟨F, vl, vw, a, RTo.self (h.re (start_same d).1 (start_same d).2 h.ok.start) b⟩
theorem rfuse_t (w : World) (F : Nat → Prop) (d : Dk) (vl vw : Value) (h : RefAt w F d vl vw) (n : Int) (hn : n ≤ 9223372036854775807) :
    Calls Try.prog 34 #[refV d vl vw, .int .i64 n] w fun e w' => ∃ F' vl' vw', e = .returned (.tuple #[refV (d.setFuse n) vl' vw', .int .i64 (d.setFuseE n)]) ∧ RTo w F (d.setFuse n) w' F' vl' vw' :=
  (rfuse_any w F d vl vw h n).mono fun e w' ⟨a, b⟩ => ⟨F, vl, vw, a, by
    have hh : ∀ {w F}, RTo w F d w' F vl vw → RTo w F (d.setFuse n) w' F vl vw := fun t => ⟨t.has.re (setFuse_same d n).1 (setFuse_same d n).2 (t.has.ok.setFuse n hn), t.new, t.bel⟩
    exact hh (RTo.self h b)⟩

set_option maxHeartbeats 1600000 in
set_option maxRecDepth 100000 in
theorem step_start (w0 w : World) (F R : Nat → Prop) (g : Nat) (d : Dk) (vl vw : Value) (ps : List Part) (h : Mine w0 w (dk F g d :: rf R d vl vw :: ps)) (o : OpV) (hk : o.kind = 5) (hm : d.waits.length + 1 ≤ 5864062014805) :
    Calls Try.prog 26 #[.pointer (some ⟨g, 0, none⟩), refV d vl vw, .agg #[.int .i64 o.kind, .int .i64 o.at_, .int .i64 o.long, .int .u8 o.fill.toNat, .slice o.pA o.picks.length o.pc]] w fun e w' =>
      ∃ F' g' R' vl' vw', e = .returned (.tuple #[.pointer (some ⟨g', 0, none⟩), refV d.start vl' vw', .bool true]) ∧ Mine w0 w' (dk F' g' d.start :: rf R' d.start vl' vw' :: ps) := by
  have M := Lib.hid h
  obtain ⟨A, c, rfl⟩ := own_slice (h.ref (l1 := [_])).ownW
  obtain ⟨A2, c2, rfl⟩ := own_slice (h.ref (l1 := [_])).own
  clear h
  rw [hk]
  unfold refV
  have B3 : ∀ a b c, Hid (Below w.heap.size w (((w.alloc a).alloc b).alloc c)) := fun a b c => (((Below.refl _ w).alloc (Nat.le_refl _) a).alloc (by simp) b).alloc (by simp; omega) c
  have M3 : Hid (Mine w0 (((w.alloc (.cells #[.slice A2 d.l.length c2, .slice A d.waits.length c, .int .i64 d.fuse, .int .i64 d.writes, .bool d.down] 50)).alloc (.cells #[.int .i64 5, .int .i64 o.at_, .int .i64 o.long, .int .u8 o.fill.toNat, .slice o.pA o.picks.length o.pc] 35)).alloc (.cells #[.slice none 0 0, .slice none 0 0, .int .i64 0, .int .i64 0, .bool false] 50))
      (bx (w.heap.size + 2) #[.slice none 0 0, .slice none 0 0, .int .i64 0, .int .i64 0, .bool false] 50 :: bx (w.heap.size + 1) #[.int .i64 5, .int .i64 o.at_, .int .i64 o.long, .int .u8 o.fill.toNat, .slice o.pA o.picks.length o.pc] 35 ::
       bx w.heap.size #[.slice A2 d.l.length c2, .slice A d.waits.length c, .int .i64 d.fuse, .int .i64 d.writes, .bool d.down] 50 :: dk F g d :: rf R d (.slice A2 d.l.length c2) (.slice A d.waits.length c) :: ps)) :=
    ((M.out.newBx _ rfl _ _).newBx _ (by simp) _ _).newBx _ (by simp) _ _
  go_enter Try.func26, Try.ntmps26
  have RF := Lib.hid (rstart_t _ R d _ _ (M3.out.ref (l1 := [_, _, _, _])) (by omega))
  unfold refV at RF
  go_wp2_with fail
  refine RF.out.mono ?_
  rintro e w1 ⟨R1, v1, v2, rfl, t1⟩
  obtain ⟨A3, c3, rfl⟩ := own_slice t1.has.ownW
  obtain ⟨A4, c4, rfl⟩ := own_slice t1.has.own
  have M4 := Lib.hid (M3.out.rto (l1 := [_, _, _, _]) t1)
  have r0 := M4.out.box (l1 := [_, _])
  have k0 := blk_cell r0 0; have k1 := blk_cell r0 1; have k2 := blk_cell r0 2; have k3 := blk_cell r0 3; have k4 := blk_cell r0 4
  have f0 := blk_free r0 0; have f1 := blk_free r0 1; have f2 := blk_free r0 2; have f3 := blk_free r0 3; have f4 := blk_free r0 4
  simp only [List.getElem?_toArray, List.getElem?_cons_zero, List.getElem?_cons_succ] at k0 k1 k2 k3 k4
  clear t1 r0 RF M3 M
  go_wp2_with fail
  have M5 : Hid (Mine w0 (set5 w1 w.heap.size (.slice A4 d.start.l.length c4) (.slice A3 d.start.waits.length c3) (.int .i64 d.start.fuse) (.int .i64 d.start.writes) (.bool d.start.down)) _) := M4.out.setBx (l1 := [_, _])
  refine (start_h (M5.out.get (l1 := [_, _, _]))).mono ?_
  rintro e w2 ⟨rfl, F2, h2⟩
  have M6 := Lib.hid (M5.out.dk (l1 := [_, _, _]) h2)
  clear M5 M4 h2 k0 k1 k2 k3 k4 f0 f1 f2 f3 f4
  have r0 := M6.out.box (l1 := [_, _])
  have k0 := blk_cell r0 0; have k1 := blk_cell r0 1; have k2 := blk_cell r0 2; have k3 := blk_cell r0 3; have k4 := blk_cell r0 4
  simp only [List.getElem?_toArray, List.getElem?_cons_zero, List.getElem?_cons_succ] at k0 k1 k2 k3 k4
  have q0 := M6.out.box (l1 := [])
  have z0 := blk_cell q0 0; have z1 := blk_cell q0 1; have z2 := blk_cell q0 2; have z3 := blk_cell q0 3; have z4 := blk_cell q0 4
  have y0 := blk_free q0 0; have y1 := blk_free q0 1; have y2 := blk_free q0 2; have y3 := blk_free q0 3; have y4 := blk_free q0 4
  simp only [List.getElem?_toArray, List.getElem?_cons_zero, List.getElem?_cons_succ] at z0 z1 z2 z3 z4
  clear r0 q0
  go_wp2_with fail
  refine wp_region_flag (fun _ => True) [(0, 1), (2, 1), (3, 1), (4, 1), (5, 1), (1, 0), (6, 0), (7, 1)] (by kernel_rfl) (by kernel_rfl) trivial ?_
  simp only [ordered, List.map_cons, List.map_nil, List.getD_cons_zero, List.getD_cons_succ]
  repeat (refine wpF_dry (fun K hK => ?_); go_simp; refine hK _ ?_; clear hK K)
  refine wpF_do ?_
  go_wp2_with fail
  refine ⟨trivial, ?_⟩
  refine wpF_do ?_
  go_wp2_with fail
  refine ⟨trivial, ?_⟩
  repeat (refine wpF_dry (fun K hK => ?_); go_simp; refine hK _ ?_; clear hK K)
  refine wpF_nil ?_
  go_wp2
  have M7 : Hid (Mine w0 ((set5 w2 (w.heap.size + 2) (.slice A4 d.start.l.length c4) (.slice A3 d.start.waits.length c3) (.int .i64 d.start.fuse) (.int .i64 d.start.writes) (.bool d.start.down)).drew) _) := (M6.out.setBx (l1 := [])).drew
  refine bodyPost_ret (ret_ref3 rfl _ rfl (M7.out.box (l1 := []))) rfl ?_
  exact ⟨_, _, _, _, _, rfl, M7.out.drop1.drop1.drop1⟩
set_option maxHeartbeats 1600000 in
set_option maxRecDepth 100000 in
theorem step_fuse (w0 w : World) (F R : Nat → Prop) (g : Nat) (d : Dk) (vl vw : Value) (ps : List Part) (h : Mine w0 w (dk F g d :: rf R d vl vw :: ps)) (o : OpV) (hk : o.kind = 3) (hat : o.at_ ≤ 9223372036854775807) (hm : d.waits.length + 1 ≤ 5864062014805) :
    Calls Try.prog 26 #[.pointer (some ⟨g, 0, none⟩), refV d vl vw, .agg #[.int .i64 o.kind, .int .i64 o.at_, .int .i64 o.long, .int .u8 o.fill.toNat, .slice o.pA o.picks.length o.pc]] w fun e w' =>
      ∃ F' g' R' vl' vw', e = .returned (.tuple #[.pointer (some ⟨g', 0, none⟩), refV (d.setFuse o.at_) vl' vw', .bool true]) ∧ Mine w0 w' (dk F' g' (d.setFuse o.at_) :: rf R' (d.setFuse o.at_) vl' vw' :: ps) := by
  have M := Lib.hid h
  obtain ⟨A, c, rfl⟩ := own_slice (h.ref (l1 := [_])).ownW
  obtain ⟨A2, c2, rfl⟩ := own_slice (h.ref (l1 := [_])).own
  clear h
  rw [hk]
  unfold refV
  have B3 : ∀ a b c, Hid (Below w.heap.size w (((w.alloc a).alloc b).alloc c)) := fun a b c => (((Below.refl _ w).alloc (Nat.le_refl _) a).alloc (by simp) b).alloc (by simp; omega) c
  have M3 : Hid (Mine w0 (((w.alloc (.cells #[.slice A2 d.l.length c2, .slice A d.waits.length c, .int .i64 d.fuse, .int .i64 d.writes, .bool d.down] 50)).alloc (.cells #[.int .i64 3, .int .i64 o.at_, .int .i64 o.long, .int .u8 o.fill.toNat, .slice o.pA o.picks.length o.pc] 35)).alloc (.cells #[.slice none 0 0, .slice none 0 0, .int .i64 0, .int .i64 0, .bool false] 50))
      (bx (w.heap.size + 2) #[.slice none 0 0, .slice none 0 0, .int .i64 0, .int .i64 0, .bool false] 50 :: bx (w.heap.size + 1) #[.int .i64 3, .int .i64 o.at_, .int .i64 o.long, .int .u8 o.fill.toNat, .slice o.pA o.picks.length o.pc] 35 ::
       bx w.heap.size #[.slice A2 d.l.length c2, .slice A d.waits.length c, .int .i64 d.fuse, .int .i64 d.writes, .bool d.down] 50 :: dk F g d :: rf R d (.slice A2 d.l.length c2) (.slice A d.waits.length c) :: ps)) :=
    ((M.out.newBx _ rfl _ _).newBx _ (by simp) _ _).newBx _ (by simp) _ _
  go_enter Try.func26, Try.ntmps26
  have RF := Lib.hid (rfuse_t _ R d _ _ (M3.out.ref (l1 := [_, _, _, _])) o.at_ hat)
  unfold refV at RF
  go_wp2_with fail
  refine RF.out.mono ?_
  rintro e w1 ⟨R1, v1, v2, rfl, t1⟩
  obtain ⟨A3, c3, rfl⟩ := own_slice t1.has.ownW
  obtain ⟨A4, c4, rfl⟩ := own_slice t1.has.own
  have M4 := Lib.hid (M3.out.rto (l1 := [_, _, _, _]) t1)
  have r0 := M4.out.box (l1 := [_, _])
  have k0 := blk_cell r0 0; have k1 := blk_cell r0 1; have k2 := blk_cell r0 2; have k3 := blk_cell r0 3; have k4 := blk_cell r0 4
  have f0 := blk_free r0 0; have f1 := blk_free r0 1; have f2 := blk_free r0 2; have f3 := blk_free r0 3; have f4 := blk_free r0 4
  simp only [List.getElem?_toArray, List.getElem?_cons_zero, List.getElem?_cons_succ] at k0 k1 k2 k3 k4
  have o0 := M4.out.box (l1 := [_])
  have x1 := blk_cell o0 1
  simp only [List.getElem?_toArray, List.getElem?_cons_zero, List.getElem?_cons_succ] at x1
  clear t1 r0 o0 RF M3 M
  go_wp2_with fail
  have M5 : Hid (Mine w0 (set5 w1 w.heap.size (.slice A4 (d.setFuse o.at_).l.length c4) (.slice A3 (d.setFuse o.at_).waits.length c3) (.int .i64 (d.setFuse o.at_).fuse) (.int .i64 (d.setFuse o.at_).writes) (.bool (d.setFuse o.at_).down)) _) := M4.out.setBx (l1 := [_, _])
  refine (fuse_h (M5.out.get (l1 := [_, _, _])) o.at_ hat).mono ?_
  rintro e w2 ⟨rfl, F2, h2⟩
  have M6 := Lib.hid (M5.out.dk (l1 := [_, _, _]) h2)
  clear M5 M4 h2 k0 k1 k2 k3 k4 f0 f1 f2 f3 f4
  have r0 := M6.out.box (l1 := [_, _])
  have k0 := blk_cell r0 0; have k1 := blk_cell r0 1; have k2 := blk_cell r0 2; have k3 := blk_cell r0 3; have k4 := blk_cell r0 4
  simp only [List.getElem?_toArray, List.getElem?_cons_zero, List.getElem?_cons_succ] at k0 k1 k2 k3 k4
  have q0 := M6.out.box (l1 := [])
  have z0 := blk_cell q0 0; have z1 := blk_cell q0 1; have z2 := blk_cell q0 2; have z3 := blk_cell q0 3; have z4 := blk_cell q0 4
  have y0 := blk_free q0 0; have y1 := blk_free q0 1; have y2 := blk_free q0 2; have y3 := blk_free q0 3; have y4 := blk_free q0 4
  simp only [List.getElem?_toArray, List.getElem?_cons_zero, List.getElem?_cons_succ] at z0 z1 z2 z3 z4
  clear r0 q0
  go_wp2_with fail
  refine wp_region_flag (fun _ => True) [(0, 1), (2, 1), (3, 1), (4, 1), (5, 1), (1, 0), (6, 0), (7, 1)] (by kernel_rfl) (by kernel_rfl) trivial ?_
  simp only [ordered, List.map_cons, List.map_nil, List.getD_cons_zero, List.getD_cons_succ]
  repeat (refine wpF_dry (fun K hK => ?_); go_simp; refine hK _ ?_; clear hK K)
  refine wpF_do ?_
  go_wp2_with fail
  refine ⟨trivial, ?_⟩
  refine wpF_do ?_
  go_wp2_with fail
  refine ⟨trivial, ?_⟩
  repeat (refine wpF_dry (fun K hK => ?_); go_simp; refine hK _ ?_; clear hK K)
  refine wpF_nil ?_
  go_wp2
  have M7 : Hid (Mine w0 ((set5 w2 (w.heap.size + 2) (.slice A4 (d.setFuse o.at_).l.length c4) (.slice A3 (d.setFuse o.at_).waits.length c3) (.int .i64 (d.setFuse o.at_).fuse) (.int .i64 (d.setFuse o.at_).writes) (.bool (d.setFuse o.at_).down)).drew) _) := (M6.out.setBx (l1 := [])).drew
  refine bodyPost_ret (ret_ref3 rfl _ rfl (M7.out.box (l1 := []))) rfl ?_
  exact ⟨_, _, _, _, _, rfl, M7.out.drop1.drop1.drop1⟩
end Go.Proofs.Ytfkonndbgmmckaa
