/- JnN: the walks of Open where it refuses (written by gen_open2.py). -/
import Derived.Test.YtpaabfadniakoaaJnM
set_option linter.unusedVariables false
set_option linter.unusedSimpArgs false
namespace Go.Proofs.Ytpaabfadniakoaa
open Go.RowKit Go.Shelf

theorem size_nil (w : World) : Calls Try.prog 39 #[.pointer none] w fun e w' => e = .returned (.int .i64 0) ∧ w = w' := by
  go_enter Try.func39, Try.ntmps39
  go_wp2
  go_ret
  exact ⟨rfl, rfl⟩
set_option maxHeartbeats 1600000 in
set_option maxRecDepth 100000 in
theorem open_zero (w : World) (dv : Value) (p : Int) (hb : needN p = 0) :
    Calls Try.prog 11 #[dv, .int .i64 p] w fun e w' => e = .returned (.tuple #[.pointer none, .int .i64 1]) ∧ Below w.heap.size w w' := by
  have NEED := fun W => Lib.hid (need_any W p)
  rw [hb] at NEED
  refine (callsIn_wide (n := 3)).1 (callsIn_of_wp_marks Try.func11 rfl trivial ?_ rfl)
  refine wpIn_wide.2 ?_
  simp only [Try.ntmps11, List.size_toArray, List.length_cons, List.length_nil, Nat.reduceAdd, Nat.reduceSub, Array.replicate_succ, Array.replicate_zero, List.push_toArray, List.append_toArray, List.nil_append, List.cons_append]
  go_wp2_with fail
  obtain ⟨W3, hW3⟩ : ∃ W3, W3 = ((w.alloc (.cells #[.int .i64 p] 3)).alloc (.cells #[.pointer none] 23)).alloc (.cells #[.int .i64 0] 24) := ⟨_, rfl⟩
  rw [← hW3]
  have B3 : Hid (Below w.heap.size w W3) := by unfold Hid; rw [hW3]; exact (((Below.refl _ w).alloc (Nat.le_refl _) _).alloc (by simp) _).alloc (by simp; omega) _
  have p3 : Hid (W3.heap[w.heap.size]? = some (.cells #[.int .i64 p] 3 (0, 0))) := by unfold Hid; rw [hW3]; exact blk_alloc (blk_alloc (blk_new w _) _) _
  have p4 : Hid (W3.heap[w.heap.size + 1]? = some (.cells #[.pointer none] 23 (0, 0))) := by unfold Hid; rw [hW3]; exact blk_alloc (heap_alloc2_new w _ _) _
  have p5 : Hid (W3.heap[w.heap.size + 1 + 1]? = some (.cells #[.int .i64 0] 24 (0, 0))) := by unfold Hid; rw [hW3]; have := blk_new ((w.alloc (.cells #[.int .i64 p] 3)).alloc (.cells #[.pointer none] 23)) (.cells #[.int .i64 0] 24); simpa using this
  clear hW3
  have c3 := blk_cell p3.out 0; have c4 := blk_cell p4.out 0; have c5 := blk_cell p5.out 0
  have f4 := blk_free p4.out 0; have f5 := blk_free p5.out 0
  simp only [List.getElem?_toArray, List.getElem?_cons_zero] at c3 c4 c5
  have f4d : W3.drew.frozen? ⟨w.heap.size + 1, 0, none⟩ = false := f4
  have f5d : W3.drew.frozen? ⟨w.heap.size + 1 + 1, 0, none⟩ = false := f5
  have c4d := cell_below (Below.refl _ W3).drew c4
  have c5d := cell_below (Below.refl _ W3).drew c5
  have HP := Lib.hid (blk_set p4.out 0 (.pointer none))
  have X4 : Hid (((W3.drew.setCell ⟨w.heap.size + 1, 0, none⟩ (.pointer none)).setCell ⟨w.heap.size + 1 + 1, 0, none⟩ (.int .i64 1)).heap[w.heap.size + 1]? = some (.cells #[.pointer none] 23 (0, 0))) := (Below.heap_setCell _ _ _ _ (by simp)).trans (blk_set (show W3.drew.heap[w.heap.size + 1]? = _ from p4.out) 0 (.pointer none))
  have X5 : Hid (((W3.drew.setCell ⟨w.heap.size + 1, 0, none⟩ (.pointer none)).setCell ⟨w.heap.size + 1 + 1, 0, none⟩ (.int .i64 1)).heap[w.heap.size + 1 + 1]? = some (.cells #[.int .i64 1] 24 (0, 0))) := blk_set ((Below.heap_setCell _ _ _ _ (by simp)).trans (show W3.drew.heap[w.heap.size + 1 + 1]? = _ from p5.out)) 0 _
  have B9 : Hid (Below w.heap.size w ((W3.drew.setCell ⟨w.heap.size + 1, 0, none⟩ (.pointer none)).setCell ⟨w.heap.size + 1 + 1, 0, none⟩ (.int .i64 1))) := (B3.out.drew.setCell (p := ⟨w.heap.size + 1, 0, none⟩) (by simp) _).setCell (p := ⟨w.heap.size + 1 + 1, 0, none⟩) (by simp; omega) _
  refine wp_region_flag (fun w' => w'.cell? ⟨w.heap.size, 0, none⟩ = some (.int .i64 p)) [(0, 0), (1, 0), (2, 1), (3, 1), (4, 2), (6, 2), (5, 2), (7, 2), (8, 2), (9, 1)] (by kernel_rfl) (by kernel_rfl) c3 ?_
  simp only [ordered, List.map_cons, List.map_nil, List.getD_cons_zero, List.getD_cons_succ]
  refine wpF_do ?_
  go_wp2_with fail
  refine ⟨c3, ?_⟩
  refine wpF_do ?_
  go_wp2_with fail
  refine (NEED _).out.mono ?_
  rintro e w4 ⟨rfl, rfl⟩
  go_wp2_with fail
  refine ⟨c3, ?_⟩
  repeat (refine wpF_dry (fun K hK => ?_); go_simp; refine hK _ ?_; clear hK K)
  refine wpF_skip (fun K hK => ?_)
  go_simp
  first | refine hK _ ?_ | refine ⟨(fun hh => by cases hh), hK _ ?_⟩
  clear hK K
  refine wpF_skip (fun K hK => ?_)
  go_simp
  first | refine hK _ ?_ | refine ⟨(fun hh => by cases hh), hK _ ?_⟩
  clear hK K
  refine wpF_skip (fun K hK => ?_)
  go_simp
  first | refine hK _ ?_ | refine ⟨(fun hh => by cases hh), hK _ ?_⟩
  clear hK K
  refine wpF_skip (fun K hK => ?_)
  go_simp
  first | refine hK _ ?_ | refine ⟨(fun hh => by cases hh), hK _ ?_⟩
  clear hK K
  refine wpF_skip (fun K hK => ?_)
  go_simp
  first | refine hK _ ?_ | refine ⟨(fun hh => by cases hh), hK _ ?_⟩
  clear hK K
  repeat (refine wpF_dry (fun K hK => ?_); go_simp; refine hK _ ?_; clear hK K)
  refine wpF_nil ?_
  go_wp2_with fail
  have e4 := blk_cell X4.out 0
  have e5 := blk_cell X5.out 0
  simp only [List.getElem?_toArray, List.getElem?_cons_zero] at e4 e5
  exact ⟨_, results_cells2 rfl _ rfl rfl (load_pj e4) (load_en e5), rfl, B9.out⟩
set_option maxHeartbeats 1600000 in
set_option maxRecDepth 100000 in
theorem open_few (w : World) (F : Nat → Prop) (g : Nat) (d : Dk) (h : HasDisk w F g d) (p : Int) (hb : needN p ≠ 0) (hl : (d.l.length : Int) < needN p) :
    Calls Try.prog 11 #[.pointer (some ⟨g, 0, none⟩), .int .i64 p] w fun e w' => e = .returned (.tuple #[.pointer none, .int .i64 1]) ∧ Below w.heap.size w w' := by
  have NEED := fun W => Lib.hid (need_any W p)
  have SIZE := fun (W : World) (hW : Below w.heap.size w W) => Lib.hid (size_h (h.below hW).drew)
  have d1 : (needN p == 0) = false := by rw [beq_eq_false_iff_ne]; exact hb
  have d2 : decide ((d.l.length : Int) < needN p) = true := by simpa using hl
  generalize needN p = nn at NEED d1 d2 hb hl
  clear h hb hl
  refine (callsIn_wide (n := 3)).1 (callsIn_of_wp_marks Try.func11 rfl trivial ?_ rfl)
  refine wpIn_wide.2 ?_
  simp only [Try.ntmps11, List.size_toArray, List.length_cons, List.length_nil, Nat.reduceAdd, Nat.reduceSub, Array.replicate_succ, Array.replicate_zero, List.push_toArray, List.append_toArray, List.nil_append, List.cons_append]
  go_wp2_with fail
  obtain ⟨W3, hW3⟩ : ∃ W3, W3 = ((w.alloc (.cells #[.int .i64 p] 3)).alloc (.cells #[.pointer none] 23)).alloc (.cells #[.int .i64 0] 24) := ⟨_, rfl⟩
  rw [← hW3]
  have B3 : Hid (Below w.heap.size w W3) := by unfold Hid; rw [hW3]; exact (((Below.refl _ w).alloc (Nat.le_refl _) _).alloc (by simp) _).alloc (by simp; omega) _
  have p3 : Hid (W3.heap[w.heap.size]? = some (.cells #[.int .i64 p] 3 (0, 0))) := by unfold Hid; rw [hW3]; exact blk_alloc (blk_alloc (blk_new w _) _) _
  have p4 : Hid (W3.heap[w.heap.size + 1]? = some (.cells #[.pointer none] 23 (0, 0))) := by unfold Hid; rw [hW3]; exact blk_alloc (heap_alloc2_new w _ _) _
  have p5 : Hid (W3.heap[w.heap.size + 1 + 1]? = some (.cells #[.int .i64 0] 24 (0, 0))) := by unfold Hid; rw [hW3]; have := blk_new ((w.alloc (.cells #[.int .i64 p] 3)).alloc (.cells #[.pointer none] 23)) (.cells #[.int .i64 0] 24); simpa using this
  clear hW3
  have c3 := blk_cell p3.out 0; have c4 := blk_cell p4.out 0; have c5 := blk_cell p5.out 0
  have f4 := blk_free p4.out 0; have f5 := blk_free p5.out 0
  simp only [List.getElem?_toArray, List.getElem?_cons_zero] at c3 c4 c5
  have f4d : W3.drew.frozen? ⟨w.heap.size + 1, 0, none⟩ = false := f4
  have f5d : W3.drew.frozen? ⟨w.heap.size + 1 + 1, 0, none⟩ = false := f5
  have c4d := cell_below (Below.refl _ W3).drew c4
  have c5d := cell_below (Below.refl _ W3).drew c5
  have HP := Lib.hid (blk_set p4.out 0 (.pointer none))
  have X4 : Hid (((W3.drew.setCell ⟨w.heap.size + 1, 0, none⟩ (.pointer none)).setCell ⟨w.heap.size + 1 + 1, 0, none⟩ (.int .i64 1)).heap[w.heap.size + 1]? = some (.cells #[.pointer none] 23 (0, 0))) := (Below.heap_setCell _ _ _ _ (by simp)).trans (blk_set (show W3.drew.heap[w.heap.size + 1]? = _ from p4.out) 0 (.pointer none))
  have X5 : Hid (((W3.drew.setCell ⟨w.heap.size + 1, 0, none⟩ (.pointer none)).setCell ⟨w.heap.size + 1 + 1, 0, none⟩ (.int .i64 1)).heap[w.heap.size + 1 + 1]? = some (.cells #[.int .i64 1] 24 (0, 0))) := blk_set ((Below.heap_setCell _ _ _ _ (by simp)).trans (show W3.drew.heap[w.heap.size + 1 + 1]? = _ from p5.out)) 0 _
  have B9 : Hid (Below w.heap.size w ((W3.drew.setCell ⟨w.heap.size + 1, 0, none⟩ (.pointer none)).setCell ⟨w.heap.size + 1 + 1, 0, none⟩ (.int .i64 1))) := (B3.out.drew.setCell (p := ⟨w.heap.size + 1, 0, none⟩) (by simp) _).setCell (p := ⟨w.heap.size + 1 + 1, 0, none⟩) (by simp; omega) _
  refine wp_region_flag (fun w' => w'.cell? ⟨w.heap.size, 0, none⟩ = some (.int .i64 p)) [(0, 0), (1, 0), (2, 1), (3, 1), (4, 1), (6, 2), (5, 0), (7, 0), (8, 1), (9, 1)] (by kernel_rfl) (by kernel_rfl) c3 ?_
  simp only [ordered, List.map_cons, List.map_nil, List.getD_cons_zero, List.getD_cons_succ]
  refine wpF_do ?_
  go_wp2_with fail
  refine ⟨c3, ?_⟩
  refine wpF_do ?_
  go_wp2_with fail
  refine (NEED _).out.mono ?_
  rintro e w4 ⟨rfl, rfl⟩
  go_wp2_with fail
  refine ⟨c3, ?_⟩
  repeat (refine wpF_dry (fun K hK => ?_); go_simp; refine hK _ ?_; clear hK K)
  refine wpF_read (.int .i64 p) rfl (fun w' hS => by obtain s1 := hS; go_simp) (fun K hK => ?_)
  go_simp
  refine hK _ ?_
  clear hK K
  refine wpF_do ?_
  go_wp2_with fail
  refine (SIZE _ (B3.out)).out.mono ?_
  rintro e w5 ⟨rfl, rfl⟩
  go_wp2_with fail
  refine ⟨c3, ?_⟩
  refine wpF_do ?_
  go_wp2_with fail
  refine (NEED _).out.mono ?_
  rintro e w4 ⟨rfl, rfl⟩
  go_wp2_with fail
  refine ⟨c3, ?_⟩
  repeat (refine wpF_dry (fun K hK => ?_); go_simp; refine hK _ ?_; clear hK K)
  refine wpF_nil ?_
  go_wp2_with fail
  have e4 := blk_cell X4.out 0
  have e5 := blk_cell X5.out 0
  simp only [List.getElem?_toArray, List.getElem?_cons_zero] at e4 e5
  exact ⟨_, results_cells2 rfl _ rfl rfl (load_pj e4) (load_en e5), rfl, B9.out⟩
set_option maxHeartbeats 1600000 in
set_option maxRecDepth 100000 in
theorem open_nil (w : World) (p : Int) (hb : needN p ≠ 0) :
    Calls Try.prog 11 #[.pointer none, .int .i64 p] w fun e w' => e = .returned (.tuple #[.pointer none, .int .i64 1]) ∧ Below w.heap.size w w' := by
  have NEED := fun W => Lib.hid (need_any W p)
  have SIZE := fun (W : World) (hW : Below w.heap.size w W) => Lib.hid (size_nil W.drew)
  have d1 : (needN p == 0) = false := by rw [beq_eq_false_iff_ne]; exact hb
  have hpos : 0 < needN p := by
    unfold needN at hb ⊢
    split at hb
    · exact absurd rfl hb
    · rename_i h; rw [if_neg h]; omega
  have d2 : decide ((0 : Int) < needN p) = true := by simpa using hpos
  generalize needN p = nn at NEED d1 d2 hb hpos
  clear hb hpos
  refine (callsIn_wide (n := 3)).1 (callsIn_of_wp_marks Try.func11 rfl trivial ?_ rfl)
  refine wpIn_wide.2 ?_
  simp only [Try.ntmps11, List.size_toArray, List.length_cons, List.length_nil, Nat.reduceAdd, Nat.reduceSub, Array.replicate_succ, Array.replicate_zero, List.push_toArray, List.append_toArray, List.nil_append, List.cons_append]
  go_wp2_with fail
  obtain ⟨W3, hW3⟩ : ∃ W3, W3 = ((w.alloc (.cells #[.int .i64 p] 3)).alloc (.cells #[.pointer none] 23)).alloc (.cells #[.int .i64 0] 24) := ⟨_, rfl⟩
  rw [← hW3]
  have B3 : Hid (Below w.heap.size w W3) := by unfold Hid; rw [hW3]; exact (((Below.refl _ w).alloc (Nat.le_refl _) _).alloc (by simp) _).alloc (by simp; omega) _
  have p3 : Hid (W3.heap[w.heap.size]? = some (.cells #[.int .i64 p] 3 (0, 0))) := by unfold Hid; rw [hW3]; exact blk_alloc (blk_alloc (blk_new w _) _) _
  have p4 : Hid (W3.heap[w.heap.size + 1]? = some (.cells #[.pointer none] 23 (0, 0))) := by unfold Hid; rw [hW3]; exact blk_alloc (heap_alloc2_new w _ _) _
  have p5 : Hid (W3.heap[w.heap.size + 1 + 1]? = some (.cells #[.int .i64 0] 24 (0, 0))) := by unfold Hid; rw [hW3]; have := blk_new ((w.alloc (.cells #[.int .i64 p] 3)).alloc (.cells #[.pointer none] 23)) (.cells #[.int .i64 0] 24); simpa using this
  clear hW3
  have c3 := blk_cell p3.out 0; have c4 := blk_cell p4.out 0; have c5 := blk_cell p5.out 0
  have f4 := blk_free p4.out 0; have f5 := blk_free p5.out 0
  simp only [List.getElem?_toArray, List.getElem?_cons_zero] at c3 c4 c5
  have f4d : W3.drew.frozen? ⟨w.heap.size + 1, 0, none⟩ = false := f4
  have f5d : W3.drew.frozen? ⟨w.heap.size + 1 + 1, 0, none⟩ = false := f5
  have c4d := cell_below (Below.refl _ W3).drew c4
  have c5d := cell_below (Below.refl _ W3).drew c5
  have HP := Lib.hid (blk_set p4.out 0 (.pointer none))
  have X4 : Hid (((W3.drew.setCell ⟨w.heap.size + 1, 0, none⟩ (.pointer none)).setCell ⟨w.heap.size + 1 + 1, 0, none⟩ (.int .i64 1)).heap[w.heap.size + 1]? = some (.cells #[.pointer none] 23 (0, 0))) := (Below.heap_setCell _ _ _ _ (by simp)).trans (blk_set (show W3.drew.heap[w.heap.size + 1]? = _ from p4.out) 0 (.pointer none))
  have X5 : Hid (((W3.drew.setCell ⟨w.heap.size + 1, 0, none⟩ (.pointer none)).setCell ⟨w.heap.size + 1 + 1, 0, none⟩ (.int .i64 1)).heap[w.heap.size + 1 + 1]? = some (.cells #[.int .i64 1] 24 (0, 0))) := blk_set ((Below.heap_setCell _ _ _ _ (by simp)).trans (show W3.drew.heap[w.heap.size + 1 + 1]? = _ from p5.out)) 0 _
  have B9 : Hid (Below w.heap.size w ((W3.drew.setCell ⟨w.heap.size + 1, 0, none⟩ (.pointer none)).setCell ⟨w.heap.size + 1 + 1, 0, none⟩ (.int .i64 1))) := (B3.out.drew.setCell (p := ⟨w.heap.size + 1, 0, none⟩) (by simp) _).setCell (p := ⟨w.heap.size + 1 + 1, 0, none⟩) (by simp; omega) _
  refine wp_region_flag (fun w' => w'.cell? ⟨w.heap.size, 0, none⟩ = some (.int .i64 p)) [(0, 0), (1, 0), (2, 1), (3, 1), (4, 1), (6, 2), (5, 0), (7, 0), (8, 1), (9, 1)] (by kernel_rfl) (by kernel_rfl) c3 ?_
  simp only [ordered, List.map_cons, List.map_nil, List.getD_cons_zero, List.getD_cons_succ]
  refine wpF_do ?_
  go_wp2_with fail
  refine ⟨c3, ?_⟩
  refine wpF_do ?_
  go_wp2_with fail
  refine (NEED _).out.mono ?_
  rintro e w4 ⟨rfl, rfl⟩
  go_wp2_with fail
  refine ⟨c3, ?_⟩
  repeat (refine wpF_dry (fun K hK => ?_); go_simp; refine hK _ ?_; clear hK K)
  refine wpF_read (.int .i64 p) rfl (fun w' hS => by obtain s1 := hS; go_simp) (fun K hK => ?_)
  go_simp
  refine hK _ ?_
  clear hK K
  refine wpF_do ?_
  go_wp2_with fail
  refine (SIZE _ (B3.out)).out.mono ?_
  rintro e w5 ⟨rfl, rfl⟩
  go_wp2_with fail
  refine ⟨c3, ?_⟩
  refine wpF_do ?_
  go_wp2_with fail
  refine (NEED _).out.mono ?_
  rintro e w4 ⟨rfl, rfl⟩
  go_wp2_with fail
  refine ⟨c3, ?_⟩
  repeat (refine wpF_dry (fun K hK => ?_); go_simp; refine hK _ ?_; clear hK K)
  refine wpF_nil ?_
  go_wp2_with fail
  have e4 := blk_cell X4.out 0
  have e5 := blk_cell X5.out 0
  simp only [List.getElem?_toArray, List.getElem?_cons_zero] at e4 e5
  exact ⟨_, results_cells2 rfl _ rfl rfl (load_pj e4) (load_en e5), rfl, B9.out⟩
end Go.Proofs.Ytpaabfadniakoaa
