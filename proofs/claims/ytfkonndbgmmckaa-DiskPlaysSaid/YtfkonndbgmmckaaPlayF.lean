/- PlayF: the walk of step where a clone goes on (written by gen_step.py). -/
import Derived.Test.YtfkonndbgmmckaaPlayB
set_option linter.unusedVariables false
set_option linter.unusedSimpArgs false
namespace Go.Proofs.Ytfkonndbgmmckaa
open Go.RowKit

theorem Mine.sub {w0 w : World} {ps qs : List Part} (h : Mine w0 w ps) (hs : qs.Sublist ps) : Mine w0 w qs := ⟨⟨fun p hp => h.sep.1 p (hs.subset hp), h.sep.2.sublist hs⟩, h.bel, fun p hp k hk => h.abv p (hs.subset hp) k hk⟩

set_option maxHeartbeats 1600000 in
set_option maxRecDepth 100000 in
theorem step_clone (w0 w : World) (F R : Nat → Prop) (g : Nat) (d : Dk) (vl vw : Value) (ps : List Part) (h : Mine w0 w (dk F g d :: rf R d vl vw :: ps)) (o : OpV) (q0 : (o.kind == 0) = false) (q1 : (o.kind == 1) = false) (q2 : (o.kind == 2) = false) (q3 : (o.kind == 3) = false) (q4 : (o.kind == 4) = false) (q5 : (o.kind == 5) = false) (hw : d.writes < 9223372036854775807) (hm : d.waits.length + 1 ≤ 5864062014805) :
    Calls Try.prog 26 #[.pointer (some ⟨g, 0, none⟩), refV d vl vw, .agg #[.int .i64 o.kind, .int .i64 o.at_, .int .i64 o.long, .int .u8 o.fill.toNat, .slice o.pA o.picks.length o.pc]] w fun e w' =>
      ∃ F' g' R' vl' vw', e = .returned (.tuple #[.pointer (some ⟨g', 0, none⟩), refV d vl' vw', .bool true]) ∧ Mine w0 w' (dk F' g' d :: rf R' d vl' vw' :: ps) := by
  have M := Lib.hid h
  obtain ⟨A, c, rfl⟩ := own_slice (h.ref (l1 := [_])).ownW
  obtain ⟨A2, c2, rfl⟩ := own_slice (h.ref (l1 := [_])).own
  clear h
  unfold refV
  have B3 : ∀ a b c, Hid (Below w.heap.size w (((w.alloc a).alloc b).alloc c)) := fun a b c => (((Below.refl _ w).alloc (Nat.le_refl _) a).alloc (by simp) b).alloc (by simp; omega) c
  have M3 : Hid (Mine w0 (((w.alloc (.cells #[.slice A2 d.l.length c2, .slice A d.waits.length c, .int .i64 d.fuse, .int .i64 d.writes, .bool d.down] 50)).alloc (.cells #[.int .i64 o.kind, .int .i64 o.at_, .int .i64 o.long, .int .u8 o.fill.toNat, .slice o.pA o.picks.length o.pc] 35)).alloc (.cells #[.slice none 0 0, .slice none 0 0, .int .i64 0, .int .i64 0, .bool false] 50))
      (bx (w.heap.size + 2) #[.slice none 0 0, .slice none 0 0, .int .i64 0, .int .i64 0, .bool false] 50 :: bx (w.heap.size + 1) #[.int .i64 o.kind, .int .i64 o.at_, .int .i64 o.long, .int .u8 o.fill.toNat, .slice o.pA o.picks.length o.pc] 35 ::
       bx w.heap.size #[.slice A2 d.l.length c2, .slice A d.waits.length c, .int .i64 d.fuse, .int .i64 d.writes, .bool d.down] 50 :: dk F g d :: rf R d (.slice A2 d.l.length c2) (.slice A d.waits.length c) :: ps)) :=
    ((M.out.newBx _ rfl _ _).newBx _ (by simp) _ _).newBx _ (by simp) _ _
  go_enter Try.func26, Try.ntmps26
  go_wp2_with fail
  generalize (((w.alloc (.cells #[.slice A2 d.l.length c2, .slice A d.waits.length c, .int .i64 d.fuse, .int .i64 d.writes, .bool d.down] 50)).alloc (.cells #[.int .i64 o.kind, .int .i64 o.at_, .int .i64 o.long, .int .u8 o.fill.toNat, .slice o.pA o.picks.length o.pc] 35)).alloc (.cells #[.slice none 0 0, .slice none 0 0, .int .i64 0, .int .i64 0, .bool false] 50)) = w2 at M3 ⊢
  clear M B3
  refine (clone_h (M3.out.get (l1 := [_, _, _])) (by omega)).mono ?_
  rintro e w4 ⟨g2, F2, rfl, hd, hF, b⟩
  have M4 := Lib.hid (M3.out.newDk b hd hF)
  clear hd hF b M3
  go_wp2_with fail
  refine (filled_any _ 0 0 0 99 none 0 0).mono ?_
  rintro e w5 ⟨rfl, b5⟩
  have M5 := Lib.hid (M4.out.below b5)
  clear b5 M4
  go_wp2_with fail
  refine (write_h (M5.out.get (l1 := [_, _, _, _])) 0 (Dk.rep (filledN 0) 99) (by rw [Dk.rep_size]; decide) hm hw).mono ?_
  rintro e w6 ⟨rfl, F6, h6⟩
  have M6 := Lib.hid (M5.out.dk (l1 := [_, _, _, _]) h6)
  have hl6 : Hid ((d.write 0 (Dk.rep (filledN 0) 99)).waits.length < 9223372036854775807) := by
    unfold Hid Dk.write
    split
    · simp [Dk.wrote]; omega
    · omega
  clear h6 M5
  go_wp2_with fail
  refine (flush_h (M6.out.get (l1 := [_, _, _, _])) hl6.out).mono ?_
  rintro e w7 ⟨rfl, F7, h7⟩
  have M7 := Lib.hid (M6.out.dk (l1 := [_, _, _, _]) h7)
  have hl7 : Hid ((d.write 0 (Dk.rep (filledN 0) 99)).flush.waits.length < 9223372036854775807) := by
    unfold Hid Dk.flush
    split
    · simp [Dk.settled]
    · exact hl6.out
  clear h7 M6
  go_wp2_with fail
  refine (fail_h (M7.out.get (l1 := [_, _, _, _])) hl7.out _ [] (nilB _) (fun hp => by simp at hp)).mono ?_
  rintro e w8 ⟨rfl, F8, h8⟩
  have M8 := Lib.hid (M7.out.dk (l1 := [_, _, _, _]) h8)
  clear h8 M7 hl6 hl7
  have r0 := M8.out.box (l1 := [_, _, _])
  have k0 := blk_cell r0 0; have k1 := blk_cell r0 1; have k2 := blk_cell r0 2; have k3 := blk_cell r0 3; have k4 := blk_cell r0 4
  simp only [List.getElem?_toArray, List.getElem?_cons_zero, List.getElem?_cons_succ] at k0 k1 k2 k3 k4
  have p0 := M8.out.box (l1 := [_])
  have z0 := blk_cell p0 0; have z1 := blk_cell p0 1; have z2 := blk_cell p0 2; have z3 := blk_cell p0 3; have z4 := blk_cell p0 4
  have y0 := blk_free p0 0; have y1 := blk_free p0 1; have y2 := blk_free p0 2; have y3 := blk_free p0 3; have y4 := blk_free p0 4
  simp only [List.getElem?_toArray, List.getElem?_cons_zero, List.getElem?_cons_succ] at z0 z1 z2 z3 z4
  clear r0 p0
  go_wp2_with fail
  refine wp_region_flag (fun _ => True) [(0, 1), (2, 1), (3, 1), (4, 1), (1, 0), (5, 0), (6, 1)] (by kernel_rfl) (by kernel_rfl) trivial ?_
  simp only [ordered, List.map_cons, List.map_nil, List.getD_cons_zero, List.getD_cons_succ]
  repeat (refine wpF_dry (fun K hK => ?_); go_simp; refine hK _ ?_; clear hK K)
  refine wpF_do ?_
  go_wp2_with fail
  refine ⟨trivial, ?_⟩
  refine wpF_do ?_
  go_wp2_with fail
  refine ⟨trivial, ?_⟩
  repeat (refine wpF_dry (fun K hK => ?_); go_simp; refine hK _ ?_; clear hK K)
  refine wpF_nil ?_
  go_wp2
  have M9 : Hid (Mine w0 ((set5 w8 (w.heap.size + 2) (.slice A2 d.l.length c2) (.slice A d.waits.length c) (.int .i64 d.fuse) (.int .i64 d.writes) (.bool d.down)).drew) _) := (M8.out.setBx (l1 := [_])).drew
  refine bodyPost_ret (ret_ref3 rfl _ rfl (M9.out.box (l1 := [_]))) rfl ?_
  exact ⟨_, _, _, _, _, rfl, M9.out.sub (List.Sublist.cons_cons _ (List.Sublist.cons _ (List.Sublist.cons _ (List.Sublist.cons _ (List.Sublist.cons _ (List.Sublist.refl _))))))⟩
end Go.Proofs.Ytfkonndbgmmckaa
