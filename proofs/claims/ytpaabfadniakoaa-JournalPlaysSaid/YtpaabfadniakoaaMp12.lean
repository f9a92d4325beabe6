/- JnN: the walks of Open where it refuses (written by gen_open2.py). -/
import Derived.Test.YtpaabfadniakoaaMp11
set_option linter.unusedVariables false
set_option linter.unusedSimpArgs false
namespace Go.Proofs.Ytpaabfadniakoaa
open Go.RowKit Go.Shelf

theorem size_nil (w : World) : Calls Try.prog 39 #[.pointer none] w fun e w' => e = .returned (.int .i64 0) ∧ w = w' := by
  go_enter Try.func39, Try.ntmps39
  go_wp2
  go_ret
  exact ⟨rfl, rfl⟩
set_option maxHeartbeats 1600000 in
set_option maxRecDepth 100000 in
theorem open_zero (w : World) (dv : Value) (p : Int) (hb : needN p = 0) :
    Calls Try.prog 11 #[dv, .int .i64 p] w fun e w' => e = .returned (.tuple #[.pointer none, .int .i64 1]) ∧ Below w.heap.size w w' := by
  have NEED := fun W => Lib.hid (need_any W p)
  rw [hb] at NEED
  refine (callsIn_wide (n := 3)).1 (callsIn_of_wp_marks Try.func11 rfl trivial ?_ rfl)
  refine wpIn_wide.2 ?_
  simp only [Try.ntmps11, List.size_toArray, List.length_cons, List.length_nil, Nat.reduceAdd, Nat.reduceSub, Array.replicate_succ, Array.replicate_zero, List.push_toArray, List.append_toArray, List.nil_append, List.cons_append]
  go_wp2_with fail
  obtain ⟨W3, hW3⟩ : ∃ W3, W3 = ((w.alloc (.cells #[.int .i64 p] 3)).alloc (.cells #[.pointer none] 23)).alloc (.cells #[.int .i64 0] 24) := ⟨_, rfl⟩
  rw [← hW3]
  have B3 : Hid (Below w.heap.size w W3) := by unfold Hid; rw [hW3]; exact (((Below.refl _ w).alloc (Nat.le_refl _) _).alloc (by simp) _).alloc (by simp; omega) _
  have p3 : Hid (W3.heap[w.heap.size]? = some (.cells #[.int .i64 p] 3 (0, 0))) := by unfold Hid; rw [hW3]; exact blk_alloc (blk_alloc (blk_new w _) _) _
  have p4 : Hid (W3.heap[w.heap.size + 1]? = some (.cells #[.pointer none] 23 (0, 0))) := by unfold Hid; rw [hW3]; exact blk_alloc (heap_alloc2_new w _ _) _
  have p5 : Hid (W3.heap[w.heap.size + 1 + 1]? = some (.cells #[.int .i64 0] 24 (0, 0))) := by unfold Hid; rw [hW3]; have := blk_new ((w.alloc (.cells #[.int .i64 p] 3)).alloc (.cells #[.pointer none] 23)) (.cells #[.int .i64 0] 24); simpa using this
  clear hW3
  have c3 := blk_cell p3.out 0; have c4 := blk_cell p4.out 0; have c5 := blk_cell p5.out 0
  have f4 := blk_free p4.out 0; have f5 := blk_free p5.out 0
  simp only [List.getElem?_toArray, List.getElem?_cons_zero] at c3 c4 c5
  have f4d : W3.drew.frozen? ⟨w.heap.size + 1, 0, none⟩ = false := f4
  have f5d : W3.drew.frozen? ⟨w.heap.size + 1 + 1, 0, none⟩ = false := f5
  have c4d := cell_below (Below.refl _ W3).drew c4
  have c5d := cell_below (Below.refl _ W3).drew c5
  have HP := Lib.hid (blk_set p4.out 0 (.pointer none))
  have X4 : Hid (((W3.drew.setCell ⟨w.heap.size + 1, 0, none⟩ (.pointer none)).setCell ⟨w.heap.size + 1 + 1, 0, none⟩ (.int .i64 1)).heap[w.heap.size + 1]? = some (.cells #[.pointer none] 23 (0, 0))) := (Below.heap_setCell _ _ _ _ (by simp)).trans (blk_set (show W3.drew.heap[w.heap.size + 1]? = _ from p4.out) 0 (.pointer none))
  have X5 : Hid (((W3.drew.setCell ⟨w.heap.size + 1, 0, none⟩ (.pointer none)).setCell ⟨w.heap.size + 1 + 1, 0, none⟩ (.int .i64 1)).heap[w.heap.size + 1 + 1]? = some (.cells #[.int .i64 1] 24 (0, 0))) := blk_set ((Below.heap_setCell _ _ _ _ (by simp)).trans (show W3.drew.heap[w.heap.size + 1 + 1]? = _ from p5.out)) 0 _
  have B9 : Hid (Below w.heap.size w ((W3.drew.setCell ⟨w.heap.size + 1, 0, none⟩ (.pointer none)).setCell ⟨w.heap.size + 1 + 1, 0, none⟩ (.int .i64 1))) := (B3.out.drew.setCell (p := ⟨w.heap.size + 1, 0, none⟩) (by simp) _).setCell (p := ⟨w.heap.size + 1 + 1, 0, none⟩) (by simp; omega) _
  refine wp_region_flag (fun w' => w'.cell? ⟨w.heap.size, 0, none⟩ = some (.int .i64 p)) [(0, 0), (1, 0), (2, 1), (3, 1), (4, 2), (6, 2), (5, 2), (7, 2), (8, 2), (9, 1)] (by kernel_rfl) (by kernel_rfl) c3 ?_
  simp only [ordered, List.map_cons, List.map_nil, List.getD_cons_zero, List.getD_cons_succ]
  refine wpF_do ?_
  go_wp2_with fail
  refine ⟨c3, ?_⟩
  refine wpF_do ?_
  go_wp2_with fail
  refine (NEED _).out.mono ?_
  rintro e w4 ⟨rfl, rfl⟩
  go_wp2_with fail
  refine ⟨c3, ?_⟩
  repeat (refine wpF_dry (fun K hK => ?_); go_simp; refine hK _ ?_; clear hK K)
  refine wpF_skip (fun K hK => ?_)
  go_simp
  first | refine hK _ ?_ | refine ⟨(fun hh => by cases hh), hK _ ?_⟩
  clear hK K
  refine wpF_skip (fun K hK => ?_)
  go_simp
  first | refine hK _ ?_ | refine ⟨(fun hh => by cases hh), hK _ ?_⟩
  clear hK K
  refine wpF_skip (fun K hK => ?_)
  go_simp
  first | refine hK _ ?_ | refine ⟨(fun hh => by cases hh), hK _ ?_⟩
  clear hK K
  refine wpF_skip (fun K hK => ?_)
  go_simp
  first | refine hK _ ?_ | refine ⟨(fun hh => by cases hh), hK _ ?_⟩
  clear hK K
  refine wpF_skip (fun K hK => ?_)
  go_simp
  first | refine hK _ ?_ | refine ⟨(fun hh => by cases hh), hK _ ?_⟩
  clear hK K
  repeat (refine wpF_dry (fun K hK => ?_); go_simp; refine hK _ ?_; clear hK K)
  refine wpF_nil ?_
  go_wp2_with fail
  have e4 := blk_cell X4.out 0
  have e5 := blk_cell X5.out 0
  simp only [List.getElem?_toArray, List.getElem?_cons_zero] at e4 e5
  exact ⟨_, results_cells2 rfl _ rfl rfl (load_pj e4) (load_en e5), rfl, B9.out⟩
set_option maxHeartbeats 1600000 in
set_option maxRecDepth 100000 in
theorem open_few (w : World) (F : Nat → Prop) (g : Nat) (d : Dk) (h : HasDisk w F g d) (p : Int) (hb : needN p ≠ 0) (hl : (d.l.length : Int) < needN p) :
    Calls Try.prog 11 #[.pointer (some ⟨g, 0, none⟩), .int .i64 p] w fun e w' => e = .returned (.tuple #[.pointer none, .int .i64 1]) ∧ Below w.heap.size w w' := by
  have NEED := fun W => Lib.hid (need_any W p)
  have SIZE := fun (W : World) (hW : Below w.heap.size w W) => Lib.hid (size_h (h.below hW).drew)
  have d1 : (needN p == 0) = false := by rw [beq_eq_false_iff_ne]; exact hb
  have d2 : decide ((d.l.length : Int) < needN p) = true := by simpa using hl
  generalize needN p = nn at NEED d1 d2 hb hl
  clear h hb hl
  refine (callsIn_wide (n := 3)).1 (callsIn_of_wp_marks Try.func11 rfl trivial ?_ rfl)
  refine wpIn_wide.2 ?_
  simp only [Try.ntmps11, List.size_toArray, List.length_cons, List.length_nil, Nat.reduceAdd, Nat.reduceSub, Array.replicate_succ, Array.replicate_zero, List.push_toArray, List.append_toArray, List.nil_append, List.cons_append]
  go_wp2_with fail
  obtain ⟨W3, hW3⟩ : ∃ W3, W3 = ((w.alloc (.cells #[.int .i64 p] 3)).alloc (.cells #[.pointer none] 23)).alloc (.cells #[.int .i64 0] 24) := ⟨_, rfl⟩
  rw [← hW3]
  have B3 : Hid (Below w.heap.size w W3) := by unfold Hid; rw [hW3]; exact (((Below.refl _ w).alloc (Nat.le_refl _) _).alloc (by simp) _).alloc (by simp; omega) _
  have p3 : Hid (W3.heap[w.heap.size]? = some (.cells #[.int .i64 p] 3 (0, 0))) := by unfold Hid; rw [hW3]; exact blk_alloc (blk_alloc (blk_new w _) _) _
  have p4 : Hid (W3.heap[w.heap.size + 1]? = some (.cells #[.pointer none] 23 (0, 0))) := by unfold Hid; rw [hW3]; exact blk_alloc (heap_alloc2_new w _ _) _
  have p5 : Hid (W3.heap[w.heap.size + 1 + 1]? = some (.cells #[.int .i64 0] 24 (0, 0))) := by unfold Hid; rw [hW3]; have := blk_new ((w.alloc (.cells #[.int .i64 p] 3)).alloc (.cells #[.pointer none] 23)) (.cells #[.int .i64 0] 24); simpa using this
  clear hW3
  have c3 := blk_cell p3.out 0; have c4 := blk_cell p4.out 0; have c5 := blk_cell p5.out 0
  have f4 := blk_free p4.out 0; have f5 := blk_free p5.out 0
  simp only [List.getElem?_toArray, List.getElem?_cons_zero] at c3 c4 c5
  have f4d : W3.drew.frozen? ⟨w.heap.size + 1, 0, none⟩ = false := f4
  have f5d : W3.drew.frozen? ⟨w.heap.size + 1 + 1, 0, none⟩ = false := f5
  have c4d := cell_below (Below.refl _ W3).drew c4
  have c5d := cell_below (Below.refl _ W3).drew c5
  have HP := Lib.hid (blk_set p4.out 0 (.pointer none))
  have X4 : Hid (((W3.drew.setCell ⟨w.heap.size + 1, 0, none⟩ (.pointer none)).setCell ⟨w.heap.size + 1 + 1, 0, none⟩ (.int .i64 1)).heap[w.heap.size + 1]? = some (.cells #[.pointer none] 23 (0, 0))) := (Below.heap_setCell _ _ _ _ (by simp)).trans (blk_set (show W3.drew.heap[w.heap.size + 1]? = _ from p4.out) 0 (.pointer none))
  have X5 : Hid (((W3.drew.setCell ⟨w.heap.size + 1, 0, none⟩ (.pointer none)).setCell ⟨w.heap.size + 1 + 1, 0, none⟩ (.int .i64 1)).heap[w.heap.size + 1 + 1]? = some (.cells #[.int .i64 1] 24 (0, 0))) := blk_set ((Below.heap_setCell _ _ _ _ (by simp)).trans (show W3.drew.heap[w.heap.size + 1 + 1]? = _ from p5.out)) 0 _
  have B9 : Hid (Below w.heap.size w ((W3.drew.setCell ⟨w.heap.size + 1, 0, none⟩ (.pointer none)).setCell ⟨w.heap.size + 1 + 1, 0, none⟩ (.int .i64 1))) := (B3.out.drew.setCell (p := ⟨w.heap.size + 1, 0, none⟩) (by simp) _).setCell (p := ⟨w.heap.size + 1 + 1, 0, none⟩) (by simp; omega) _
  refine wp_region_flag (fun w' => w'.cell? ⟨w.heap.size, 0, none⟩ = some (.int .i64 p)) [(0, 0), (1, 0), (2, 1), (3, 1), (4, 1), (6, 2), (5, 0), (7, 0), (8, 1), (9, 1)] (by kernel_rfl) (by kernel_rfl) c3 ?_
  simp only [ordered, List.map_cons, List.map_nil, List.getD_cons_zero, List.getD_cons_succ]
  refine wpF_do ?_
  go_wp2_with fail
  refine ⟨c3, ?_⟩
  refine wpF_do ?_
  go_wp2_with fail
  refine (NEED _).out.mono ?_
  rintro e w4 ⟨rfl, rfl⟩
  go_wp2_with fail
  refine ⟨c3, ?_⟩
  repeat (refine wpF_dry (fun K hK => ?_); go_simp; refine hK _ ?_; clear hK K)
  refine wpF_read (.int .i64 p) rfl (fun w' hS => by obtain s1 := hS; go_simp) (fun K hK => ?_)
  go_simp
  refine hK _ ?_
  clear hK K
  refine wpF_do ?_
  go_wp2_with fail
  refine (SIZE _ (B3.out)).out.mono ?_
  rintro e w5 ⟨rfl, rfl⟩
  go_wp2_with fail
  refine ⟨c3, ?_⟩
  refine wpF_do ?_
  go_wp2_with fail
  refine (NEED _).out.mono ?_
  rintro e w4 ⟨rfl, rfl⟩
  go_wp2_with fail
  refine ⟨c3, ?_⟩
  repeat (refine wpF_dry (fun K hK => ?_); go_simp; refine hK _ ?_; clear hK K)
  refine wpF_nil ?_
  go_wp2_with fail
  have e4 := blk_cell X4.out 0
  have e5 := blk_cell X5.out 0
  simp only [List.getElem?_toArray, List.getElem?_cons_zero] at e4 e5
  exact ⟨_, results_cells2 rfl _ rfl rfl (load_pj e4) (load_en e5), rfl, B9.out⟩
set_option maxHeartbeats 1600000 in
set_option maxRecDepth 100000 in
theorem open_nil (w : World) (p : Int) (hb : needN p ≠ 0) :
    Calls Try.prog 11 #[.pointer none, .int .i64 p] w fun e w' => e = .returned (.tuple #[.pointer none, .int .i64 1]) ∧ Below w.heap.size w w' := by
  have NEED := fun W => Lib.hid (need_any W p)
  have SIZE := fun (W : World) (hW : Below w.heap.size w W) => Lib.hid (size_nil W.drew)
  have d1 : (needN p == 0) = false := by rw [beq_eq_false_iff_ne]; exact hb
  have hpos : 0 < needN p := by
    unfold needN at hb ⊢
    split at hb
    · exact absurd rfl hb
    · rename_i h; rw [if_neg h]; omega
  have d2 : decide ((0 : Int) < needN p) = true := by simpa using hpos
  generalize needN p = nn at NEED d1 d2 hb hpos
  clear hb hpos
  refine (callsIn_wide (n := 3)).1 (callsIn_of_wp_marks Try.func11 rfl trivial ?_ rfl)
  refine wpIn_wide.2 ?_
  simp only [Try.ntmps11, List.size_toArray, List.length_cons, List.length_nil, Nat.reduceAdd, Nat.reduceSub, Array.replicate_succ, Array.replicate_zero, List.push_toArray, List.append_toArray, List.nil_append, List.cons_append]
  go_wp2_with fail
  obtain ⟨W3, hW3⟩ : ∃ W3, W3 = ((w.alloc (.cells #[.int .i64 p] 3)).alloc (.cells #[.pointer none] 23)).alloc (.cells #[.int .i64 0] 24) := ⟨_, rfl⟩
  rw [← hW3]
  have B3 : Hid (Below w.heap.size w W3) := by unfold Hid; rw [hW3]; exact (((Below.refl _ w).alloc (Nat.le_refl _) _).alloc (by simp) _).alloc (by simp; omega) _
  have p3 : Hid (W3.heap[w.heap.size]? = some (.cells #[.int .i64 p] 3 (0, 0))) := by unfold Hid; rw [hW3]; exact blk_alloc (blk_alloc (blk_new w _) _) _
  have p4 : Hid (W3.heap[w.heap.size + 1]? = some (.cells #[.pointer none] 23 (0, 0))) := by unfold Hid; rw [hW3]; exact blk_alloc (heap_alloc2_new w _ _) _
  have p5 : Hid (W3.heap[w.heap.size + 1 + 1]? = some (.cells #[.int .i64 0] 24 (0, 0))) := by unfold Hid; rw [hW3]; have := blk_new ((w.alloc (.cells #[.int .i64 p] 3)).alloc (.cells #[.pointer none] 23)) (.cells #[.int .i64 0] 24); simpa using this
  clear hW3
  have c3 := blk_cell p3.out 0; have c4 := blk_cell p4.out 0; have c5 := blk_cell p5.out 0
  have f4 := blk_free p4.out 0; have f5 := blk_free p5.out 0
  simp only [List.getElem?_toArray, List.getElem?_cons_zero] at c3 c4 c5
  have f4d : W3.drew.frozen? ⟨w.heap.size + 1, 0, none⟩ = false := f4
  have f5d : W3.drew.frozen? ⟨w.heap.size + 1 + 1, 0, none⟩ = false := f5
  have c4d := cell_below (Below.refl _ W3).drew c4
  have c5d := cell_below (Below.refl _ W3).drew c5
  have HP := Lib.hid (blk_set p4.out 0 (.pointer none))
  have X4 : Hid (((W3.drew.setCell ⟨w.heap.size + 1, 0, none⟩ (.pointer none)).setCell ⟨w.heap.size + 1 + 1, 0, none⟩ (.int .i64 1)).heap[w.heap.size + 1]? = some (.cells #[.pointer none] 23 (0, 0))) := (Below.heap_setCell _ _ _ _ (by simp)).trans (blk_set (show W3.drew.heap[w.heap.size + 1]? = _ from p4.out) 0 (.pointer none))
  have X5 : Hid (((W3.drew.setCell ⟨w.heap.size + 1, 0, none⟩ (.pointer none)).setCell ⟨w.heap.size + 1 + 1, 0, none⟩ (.int .i64 1)).heap[w.heap.size + 1 + 1]? = some (.cells #[.int .i64 1] 24 (0, 0))) := blk_set ((Below.heap_setCell _ _ _ _ (by simp)).trans (show W3.drew.heap[w.heap.size + 1 + 1]? = _ from p5.out)) 0 _
  have B9 : Hid (Below w.heap.size w ((W3.drew.setCell ⟨w.heap.size + 1, 0, none⟩ (.pointer none)).setCell ⟨w.heap.size + 1 + 1, 0, none⟩ (.int .i64 1))) := (B3.out.drew.setCell (p := ⟨w.heap.size + 1, 0, none⟩) (by simp) _).setCell (p := ⟨w.heap.size + 1 + 1, 0, none⟩) (by simp; omega) _
  refine wp_region_flag (fun w' => w'.cell? ⟨w.heap.size, 0, none⟩ = some (.int .i64 p)) [(0, 0), (1, 0), (2, 1), (3, 1), (4, 1), (6, 2), (5, 0), (7, 0), (8, 1), (9, 1)] (by kernel_rfl) (by kernel_rfl) c3 ?_
  simp only [ordered, List.map_cons, List.map_nil, List.getD_cons_zero, List.getD_cons_succ]
  refine wpF_do ?_
  go_wp2_with fail
  refine ⟨c3, ?_⟩
  refine wpF_do ?_
  go_wp2_with fail
  refine (NEED _).out.mono ?_
  rintro e w4 ⟨rfl, rfl⟩
  go_wp2_with fail
  refine ⟨c3, ?_⟩
  repeat (refine wpF_dry (fun K hK => ?_); go_simp; refine hK _ ?_; clear hK K)
  refine wpF_read (.int .i64 p) rfl (fun w' hS => by obtain s1 := hS; go_simp) (fun K hK => ?_)
  go_simp
  refine hK _ ?_
  clear hK K
  refine wpF_do ?_
  go_wp2_with fail
  refine (SIZE _ (B3.out)).out.mono ?_
  rintro e w5 ⟨rfl, rfl⟩
  go_wp2_with fail
  refine ⟨c3, ?_⟩
  refine wpF_do ?_
  go_wp2_with fail
  refine (NEED _).out.mono ?_
  rintro e w4 ⟨rfl, rfl⟩
  go_wp2_with fail
  refine ⟨c3, ?_⟩
  repeat (refine wpF_dry (fun K hK => ?_); go_simp; refine hK _ ?_; clear hK K)
  refine wpF_nil ?_
  go_wp2_with fail
  have e4 := blk_cell X4.out 0
  have e5 := blk_cell X5.out 0
  simp only [List.getElem?_toArray, List.getElem?_cons_zero] at e4 e5
  exact ⟨_, results_cells2 rfl _ rfl rfl (load_pj e4) (load_en e5), rfl, B9.out⟩
end Go.Proofs.Ytpaabfadniakoaa
/- JnO: the walk of filled (written by gen_fill.py). -/
set_option linter.unusedVariables false
set_option linter.unusedSimpArgs false
namespace Go.Proofs.Ytpaabfadniakoaa
open Go.RowKit

def filledN (l : Int) : Nat := if l = 0 then 1024 else if l < 0 then 1 else if 3000 < l then 1 else l.toNat
theorem filledN_le (l : Int) : filledN l ≤ 3000 := by unfold filledN; split; omega; split; omega; split; omega; omega
def part (k n : Nat) (f : UInt8) : List Value := (List.replicate k (Value.int .u8 f.toNat)) ++ List.replicate (n - k) (Value.int .u8 0)
theorem part_length (k n : Nat) (f : UInt8) (h : k ≤ n) : (part k n f).length = n := by simp [part]; omega
theorem part_set (k n : Nat) (f : UInt8) (h : k < n) : (part k n f).set k (.int .u8 f.toNat) = part (k + 1) n f := by
  apply List.ext_getElem
  · simp [part_length, part_length _ _ f (Nat.le_of_lt h), part_length (k + 1) n f h]
  · intro i h1 h2
    simp only [part, List.getElem_set, List.getElem_append, List.getElem_replicate, List.length_replicate]
    by_cases e : k = i
    · subst e; simp
    · rw [if_neg e]
      by_cases e2 : i < k
      · simp [e2, show i < k + 1 by omega]
      · simp [e2, show ¬ i < k + 1 by omega]
theorem part_at (k n i : Nat) (f : UInt8) (h : k ≤ n) (hi : i < n) : ∃ v, (part k n f)[i]? = some v := by
  rw [List.getElem?_eq_getElem (by rw [part_length _ _ _ h]; exact hi)]; exact ⟨_, rfl⟩
theorem strOfNums_rep (n : Nat) (f : UInt8) : strOfNums (List.replicate n (f.toNat : Int)) = Dk.rep n f := by
  simp [strOfNums, Dk.rep]
theorem conv_part (W : World) (n b c : Nat) (f : UInt8) (ho : W.ownsRow 0 5 1 (.slice (some ⟨b, 0, none⟩) n c) n (part n n f)) :
    (convert 84 9 (.slice (some ⟨b, 0, none⟩) n c)).run Try.prog W = .ok (.string (Dk.rep n f)) W := by
  rw [← strOfNums_rep]
  refine run_convert_bytes_arg _ _ _ Try.underlying84 Try.underlying5 _ 0 n c _ (by simp) (fun i hi => ?_) _ Try.underlying9
  rw [Nat.zero_add, ho.cellAt i (by omega)]
  simp [part, hi, List.getD_eq_getElem?_getD]
theorem own_part0 (W : World) (n : Nat) (hn : n ≤ maxLen) : (W.alloc (.cells (madeCells #[.int .u8 0] n) 5)).ownsRow 0 5 1 (.slice (some ⟨W.heap.size, 0, none⟩) n n) n (part 0 n 0) := by
  have h := World.ownsRow_lit (base := 0) (e := 5) (size := 1) W (madeCells #[.int .u8 0] n) n (Nat.zero_le _) hn (by simp [size_madeCells])
  rw [toList_madeCells_one] at h
  simpa [part] using h
theorem part_zero (n : Nat) (f : UInt8) : part 0 n f = part 0 n 0 := by simp [part]

set_option maxHeartbeats 800000 in
set_option maxRecDepth 300000 in
theorem filled_zero (w : World) (p l : Int) (f : UInt8) (hl : l = 0) :
    Calls Try.prog 51 #[.agg #[.int .i64 p, .int .i64 l, .int .u8 f.toNat]] w fun e w' => e = .returned (.string (Dk.rep (filledN l) f)) ∧ Below w.heap.size w w' := by
  subst hl
  have HN : Hid (filledN 0 = 1024) := rfl
  obtain ⟨m, hm⟩ : ∃ m : Nat, m = 1024 := ⟨_, rfl⟩
  have hmk : ∀ W : World, (Instr.makeSlice 84 (.int .i64 (1024 : Int)) (.int .i64 (1024 : Int))).run Try.prog W = .ok (.slice (some ⟨W.heap.size, 0, none⟩) 1024 1024) (W.alloc (.cells (madeCells #[.int .u8 0] 1024) 5)) := by
    intro W
    exact run_make_row' 84 5 (.int .u8 0) 1 Try.underlying84 infoB rfl .i64 .i64 1024 (by omega) (by omega) W
  have hf := f.toNat_lt
  go_enter Try.func51, Try.ntmps51
  go_wp2_with fail
  have hown := own_part0 (w.alloc (.cells #[.int .i64 p, .int .i64 0, .int .u8 f.toNat] 96)) 1024 (by unfold maxLen; omega)
  rw [← part_zero 1024 f] at hown
  simp only [World.size_alloc] at hown
  have hbb := blk_alloc (blk_new w (.cells #[.int .i64 p, .int .i64 0, .int .u8 f.toNat] 96)) (.cells (madeCells #[.int .u8 0] 1024) 5)
  go_loopw [5, 18] (fun j j2 wr => ∃ i : Nat, i ≤ 1024 ∧ j = .int .i64 i ∧ wr.ownsRow 0 5 1 (.slice (some ⟨w.heap.size + 1, 0, none⟩) 1024 1024) 1024 (part i 1024 f) ∧ wr.heap[w.heap.size]? = some (.cells #[.int .i64 p, .int .i64 0, .int .u8 f.toNat] 96 (0, 0)) ∧ Below w.heap.size w wr) (fun j _ _ => 1024 - (intOf j).toNat)
  case atStart => exact ⟨0, Nat.zero_le _, rfl, hown, hbb, ((Below.refl _ w).alloc (Nat.le_refl _) _).alloc (by simp) _⟩
  case round =>
    obtain ⟨i, hi, rfl, ho, hb, hbel⟩ := hrel
    by_cases hlt : i < 1024
    · obtain ⟨v, hv⟩ := part_at i 1024 i f (by omega) hlt
      have c3 := blk_cell hb 2
      simp at c3
      have ci := (ho.cellAt i (by omega)).trans hv
      have fi := ho.frozenAt (g := w.heap.size + 1) i
      have HO := Lib.hid ho
      have HB := Lib.hid hb
      clear hv ho hb hown hbb
      go_wp2
      go_roundw
      case rel =>
        refine ⟨i + 1, by omega, by go_num, ?_, by rw [blk_set_ne (by simp)]; exact HB.out, hbel.setCell (p := ⟨w.heap.size + 1, i, none⟩) (by simp) _⟩
        have st := (HO.out.stored i (.int .u8 f.toNat)).1
        rw [part_set _ _ _ hlt] at st
        exact st
      case measure => simp [intOf]; omega
    · have hi2 : i = 1024 := by omega
      rw [hi2] at ho
      have hcv := conv_part wr 1024 (w.heap.size + 1) 1024 f ho
      clear ho hb hown hbb
      go_wp2
      go_ret
      exact ⟨by rw [HN.out]; rfl, hbel⟩

set_option maxHeartbeats 800000 in
set_option maxRecDepth 300000 in
theorem filled_neg (w : World) (p l : Int) (f : UInt8) (hl : l < 0) :
    Calls Try.prog 51 #[.agg #[.int .i64 p, .int .i64 l, .int .u8 f.toNat]] w fun e w' => e = .returned (.string (Dk.rep (filledN l) f)) ∧ Below w.heap.size w w' := by
  have HN : Hid (filledN l = 1) := by unfold Hid filledN; rw [if_neg (by omega), if_pos hl]
  have q : (l == 0) = false := by simpa using (by omega : ¬ l = 0)
  have hmk : ∀ W : World, (Instr.makeSlice 84 (.int .i64 (1 : Int)) (.int .i64 (1 : Int))).run Try.prog W = .ok (.slice (some ⟨W.heap.size, 0, none⟩) 1 1) (W.alloc (.cells (madeCells #[.int .u8 0] 1) 5)) := by
    intro W
    exact run_make_row' 84 5 (.int .u8 0) 1 Try.underlying84 infoB rfl .i64 .i64 1 (by omega) (by omega) W
  have hf := f.toNat_lt
  go_enter Try.func51, Try.ntmps51
  go_wp2_with fail
  have hown := own_part0 (w.alloc (.cells #[.int .i64 p, .int .i64 l, .int .u8 f.toNat] 96)) 1 (by unfold maxLen; omega)
  rw [← part_zero 1 f] at hown
  simp only [World.size_alloc] at hown
  have hbb := blk_alloc (blk_new w (.cells #[.int .i64 p, .int .i64 l, .int .u8 f.toNat] 96)) (.cells (madeCells #[.int .u8 0] 1) 5)
  go_loopw [5, 18] (fun j j2 wr => ∃ i : Nat, i ≤ 1 ∧ j = .int .i64 i ∧ wr.ownsRow 0 5 1 (.slice (some ⟨w.heap.size + 1, 0, none⟩) 1 1) 1 (part i 1 f) ∧ wr.heap[w.heap.size]? = some (.cells #[.int .i64 p, .int .i64 l, .int .u8 f.toNat] 96 (0, 0)) ∧ Below w.heap.size w wr) (fun j _ _ => 1 - (intOf j).toNat)
  case atStart => exact ⟨0, Nat.zero_le _, rfl, hown, hbb, ((Below.refl _ w).alloc (Nat.le_refl _) _).alloc (by simp) _⟩
  case round =>
    obtain ⟨i, hi, rfl, ho, hb, hbel⟩ := hrel
    by_cases hlt : i < 1
    · obtain ⟨v, hv⟩ := part_at i 1 i f (by omega) hlt
      have c3 := blk_cell hb 2
      simp at c3
      have ci := (ho.cellAt i (by omega)).trans hv
      have fi := ho.frozenAt (g := w.heap.size + 1) i
      have HO := Lib.hid ho
      have HB := Lib.hid hb
      clear hv ho hb hown hbb
      go_wp2
      go_roundw
      case rel =>
        refine ⟨i + 1, by omega, by go_num, ?_, by rw [blk_set_ne (by simp)]; exact HB.out, hbel.setCell (p := ⟨w.heap.size + 1, i, none⟩) (by simp) _⟩
        have st := (HO.out.stored i (.int .u8 f.toNat)).1
        rw [part_set _ _ _ hlt] at st
        exact st
      case measure => simp [intOf]; omega
    · have hi2 : i = 1 := by omega
      rw [hi2] at ho
      have hcv := conv_part wr 1 (w.heap.size + 1) 1 f ho
      clear ho hb hown hbb
      go_wp2
      go_ret
      exact ⟨by rw [HN.out]; rfl, hbel⟩

set_option maxHeartbeats 800000 in
set_option maxRecDepth 300000 in
theorem filled_big (w : World) (p l : Int) (f : UInt8) (hl : 3000 < l) :
    Calls Try.prog 51 #[.agg #[.int .i64 p, .int .i64 l, .int .u8 f.toNat]] w fun e w' => e = .returned (.string (Dk.rep (filledN l) f)) ∧ Below w.heap.size w w' := by
  have HN : Hid (filledN l = 1) := by unfold Hid filledN; rw [if_neg (by omega), if_neg (by omega), if_pos hl]
  have q : (l == 0) = false := by simpa using (by omega : ¬ l = 0)
  have q2 : decide (l < 0) = false := by simpa using (by omega : ¬ l < 0)
  have hmk : ∀ W : World, (Instr.makeSlice 84 (.int .i64 (1 : Int)) (.int .i64 (1 : Int))).run Try.prog W = .ok (.slice (some ⟨W.heap.size, 0, none⟩) 1 1) (W.alloc (.cells (madeCells #[.int .u8 0] 1) 5)) := by
    intro W
    exact run_make_row' 84 5 (.int .u8 0) 1 Try.underlying84 infoB rfl .i64 .i64 1 (by omega) (by omega) W
  have hf := f.toNat_lt
  go_enter Try.func51, Try.ntmps51
  go_wp2_with fail
  have hown := own_part0 (w.alloc (.cells #[.int .i64 p, .int .i64 l, .int .u8 f.toNat] 96)) 1 (by unfold maxLen; omega)
  rw [← part_zero 1 f] at hown
  simp only [World.size_alloc] at hown
  have hbb := blk_alloc (blk_new w (.cells #[.int .i64 p, .int .i64 l, .int .u8 f.toNat] 96)) (.cells (madeCells #[.int .u8 0] 1) 5)
  go_loopw [5, 18] (fun j j2 wr => ∃ i : Nat, i ≤ 1 ∧ j = .int .i64 i ∧ wr.ownsRow 0 5 1 (.slice (some ⟨w.heap.size + 1, 0, none⟩) 1 1) 1 (part i 1 f) ∧ wr.heap[w.heap.size]? = some (.cells #[.int .i64 p, .int .i64 l, .int .u8 f.toNat] 96 (0, 0)) ∧ Below w.heap.size w wr) (fun j _ _ => 1 - (intOf j).toNat)
  case atStart => exact ⟨0, Nat.zero_le _, rfl, hown, hbb, ((Below.refl _ w).alloc (Nat.le_refl _) _).alloc (by simp) _⟩
  case round =>
    obtain ⟨i, hi, rfl, ho, hb, hbel⟩ := hrel
    by_cases hlt : i < 1
    · obtain ⟨v, hv⟩ := part_at i 1 i f (by omega) hlt
      have c3 := blk_cell hb 2
      simp at c3
      have ci := (ho.cellAt i (by omega)).trans hv
      have fi := ho.frozenAt (g := w.heap.size + 1) i
      have HO := Lib.hid ho
      have HB := Lib.hid hb
      clear hv ho hb hown hbb
      go_wp2
      go_roundw
      case rel =>
        refine ⟨i + 1, by omega, by go_num, ?_, by rw [blk_set_ne (by simp)]; exact HB.out, hbel.setCell (p := ⟨w.heap.size + 1, i, none⟩) (by simp) _⟩
        have st := (HO.out.stored i (.int .u8 f.toNat)).1
        rw [part_set _ _ _ hlt] at st
        exact st
      case measure => simp [intOf]; omega
    · have hi2 : i = 1 := by omega
      rw [hi2] at ho
      have hcv := conv_part wr 1 (w.heap.size + 1) 1 f ho
      clear ho hb hown hbb
      go_wp2
      go_ret
      exact ⟨by rw [HN.out]; rfl, hbel⟩

set_option maxHeartbeats 800000 in
set_option maxRecDepth 300000 in
theorem filled_mid (w : World) (p l : Int) (f : UInt8) (hl : 1 ≤ l) (hl2 : l ≤ 3000) :
    Calls Try.prog 51 #[.agg #[.int .i64 p, .int .i64 l, .int .u8 f.toNat]] w fun e w' => e = .returned (.string (Dk.rep (filledN l) f)) ∧ Below w.heap.size w w' := by
  obtain ⟨m, rfl⟩ := Int.eq_ofNat_of_zero_le (show 0 ≤ l by omega)
  have HN : Hid (filledN m = m) := by unfold Hid filledN; rw [if_neg (by omega), if_neg (by omega), if_neg (by omega)]; simp
  have q : ((m : Int) == 0) = false := by simpa using (by omega : ¬ (m : Int) = 0)
  have q2 : decide ((m : Int) < 0) = false := by simp
  have hmk : ∀ W : World, (Instr.makeSlice 84 (.int .i64 (m : Int)) (.int .i64 (m : Int))).run Try.prog W = .ok (.slice (some ⟨W.heap.size, 0, none⟩) m m) (W.alloc (.cells (madeCells #[.int .u8 0] m) 5)) := by
    intro W
    exact run_make_row' 84 5 (.int .u8 0) 1 Try.underlying84 infoB rfl .i64 .i64 m (by omega) (by omega) W
  have hf := f.toNat_lt
  go_enter Try.func51, Try.ntmps51
  go_wp2_with fail
  have hown := own_part0 (w.alloc (.cells #[.int .i64 p, .int .i64 (m : Int), .int .u8 f.toNat] 96)) m (by unfold maxLen; omega)
  rw [← part_zero m f] at hown
  simp only [World.size_alloc] at hown
  have hbb := blk_alloc (blk_new w (.cells #[.int .i64 p, .int .i64 (m : Int), .int .u8 f.toNat] 96)) (.cells (madeCells #[.int .u8 0] m) 5)
  go_loopw [5, 18] (fun j j2 wr => ∃ i : Nat, i ≤ m ∧ j = .int .i64 i ∧ wr.ownsRow 0 5 1 (.slice (some ⟨w.heap.size + 1, 0, none⟩) m m) m (part i m f) ∧ wr.heap[w.heap.size]? = some (.cells #[.int .i64 p, .int .i64 (m : Int), .int .u8 f.toNat] 96 (0, 0)) ∧ Below w.heap.size w wr) (fun j _ _ => m - (intOf j).toNat)
  case atStart => exact ⟨0, Nat.zero_le _, rfl, hown, hbb, ((Below.refl _ w).alloc (Nat.le_refl _) _).alloc (by simp) _⟩
  case round =>
    obtain ⟨i, hi, rfl, ho, hb, hbel⟩ := hrel
    by_cases hlt : i < m
    · obtain ⟨v, hv⟩ := part_at i m i f (by omega) hlt
      have c3 := blk_cell hb 2
      simp at c3
      have ci := (ho.cellAt i (by omega)).trans hv
      have fi := ho.frozenAt (g := w.heap.size + 1) i
      have HO := Lib.hid ho
      have HB := Lib.hid hb
      clear hv ho hb hown hbb
      go_wp2
      go_roundw
      case rel =>
        refine ⟨i + 1, by omega, by go_num, ?_, by rw [blk_set_ne (by simp)]; exact HB.out, hbel.setCell (p := ⟨w.heap.size + 1, i, none⟩) (by simp) _⟩
        have st := (HO.out.stored i (.int .u8 f.toNat)).1
        rw [part_set _ _ _ hlt] at st
        exact st
      case measure => simp [intOf]; omega
    · obtain rfl : i = m := by omega
      have hcv := conv_part wr i (w.heap.size + 1) i f ho
      clear ho hb hown hbb
      go_wp2
      go_ret
      exact ⟨by rw [HN.out]; rfl, hbel⟩

theorem filled_any (w : World) (p l : Int) (f : UInt8) :
    Calls Try.prog 51 #[.agg #[.int .i64 p, .int .i64 l, .int .u8 f.toNat]] w fun e w' => e = .returned (.string (Dk.rep (filledN l) f)) ∧ Below w.heap.size w w' := by
  by_cases h0 : l = 0
  · exact filled_zero w p l f h0
  · by_cases h1 : l < 0
    · exact filled_neg w p l f h1
    · by_cases h2 : 3000 < l
      · exact filled_big w p l f h2
      · exact filled_mid w p l f (by omega) (by omega)
end Go.Proofs.Ytpaabfadniakoaa
/- JnQ: disks without a fuse, new disks: in plain words; the walk of lives. -/
set_option linter.unusedVariables false
set_option linter.unusedSimpArgs false
namespace Go.Proofs.Ytpaabfadniakoaa
open Go.RowKit

/-- How many writes there are. -/
def nwr (l : List Stp) : Nat := (l.filter (fun x => decide (0 ≤ x.1))).length
theorem nwr_append (a b : List Stp) : nwr (a ++ b) = nwr a + nwr b := by unfold nwr; rw [List.filter_append, List.length_append]
structure Calm (d : Dk) : Prop where
  ok : d.Ok
  fuse : d.fuse = 0
  up : d.down = false
theorem step_calm {d : Dk} (h : Calm d) {x : Stp} (hx : Can d.l.length x) : stepE d x = 0 ∧ Calm (step d x) ∧ (step d x).writes = d.writes + (nwr [x] : Nat) ∧ (step d x).l.length = d.l.length := by
  rcases step_shape h.ok hx with ⟨h1, _, _⟩ | ⟨h1, h2, h3, h4, h5⟩
  · rw [h.up] at h1; exact absurd h1 (by decide)
  · refine ⟨h2, ?_, ?_, h4⟩
    · refine ⟨step_ok h.ok x, ?_, ?_⟩
      · unfold step
        split
        · unfold Dk.flush; split; exact h.fuse; exact h.fuse
        · unfold Dk.write; split
          · show (if 0 < d.fuse then d.fuse - 1 else d.fuse) = 0
            rw [h.fuse]; rfl
          · exact h.fuse
      · unfold step
        split
        · unfold Dk.flush; split; exact h.up; exact h.up
        · unfold Dk.write; split
          · show (if 0 < d.fuse then (d.fuse - 1 == 0) else d.down) = false
            rw [h.fuse, h.up]; rfl
          · exact h.up
    · unfold step stepE at *
      by_cases h0 : x.1 < 0
      · rw [if_pos h0]
        have : nwr [x] = 0 := by unfold nwr; rw [List.filter_cons_of_neg (by simpa using h0)]; rfl
        rw [this]
        unfold Dk.flush; split
        · show d.writes = _; omega
        · omega
      · rw [if_neg h0] at h2 ⊢
        have : nwr [x] = 1 := by unfold nwr; rw [List.filter_cons_of_pos (by simp; omega)]; rfl
        rw [this]
        unfold Dk.write
        rw [if_pos h2]
        rfl
theorem run_calm : ∀ (l : List Stp) {d : Dk}, Calm d → (∀ x ∈ l, Can d.l.length x) → (run d l).2 = 0 ∧ Calm (run d l).1 ∧ (run d l).1.writes = d.writes + (nwr l : Nat) ∧ (run d l).1.l.length = d.l.length
  | [], d, h, _ => ⟨rfl, h, by show d.writes = d.writes + ((0 : Nat) : Int); omega, rfl⟩
  | x :: l, d, h, hc => by
    obtain ⟨h1, h2, h3, h4⟩ := step_calm h (hc x (List.mem_cons_self ..))
    rw [run_cons, if_pos h1]
    obtain ⟨k1, k2, k3, k4⟩ := run_calm l h2 (fun y hy => by rw [h4]; exact hc y (List.mem_cons_of_mem _ hy))
    refine ⟨k1, k2, ?_, by rw [k4, h4]⟩
    rw [k3, h3, show x :: l = [x] ++ l from rfl, nwr_append]
    omega
theorem laid_can {n : Nat} {q : Nat} {s : ByteArray} (hs : s.size = 1024) (hq : q + 4 ≤ n) : ∀ x ∈ laid (q : Int) s, Can n x := fun x hx => by
  obtain ⟨j, hj, rfl⟩ := layK_mem hx
  exact .inr ⟨by simp only; omega, cut4_size hs hj⟩
theorem laid_nwr (q : Nat) (s : ByteArray) : nwr (laid (q : Int) s) = 4 := by
  unfold nwr
  rw [List.filter_eq_self.2, laid_len]
  intro x hx
  obtain ⟨j, hj, rfl⟩ := layK_mem hx
  simp only [decide_eq_true_eq]
  omega
theorem stepsA_can {n P : Nat} {M : List Chg} (h : ∀ x ∈ M, x.1 < P ∧ x.2.size = 1024) (hn : 8 * P + 1 ≤ n) : ∀ x ∈ stepsA M, Can n x := fun x hx => by
  unfold stepsA at hx
  rw [List.mem_flatMap] at hx
  obtain ⟨c, hc, hx⟩ := hx
  obtain ⟨h1, h2⟩ := h c hc
  exact laid_can h2 (by omega) x hx
theorem stepsB_can {n P : Nat} {M : List Chg} (h : ∀ x ∈ M, x.1 < P ∧ x.2.size = 1024) (hn : 8 * P + 1 ≤ n) : ∀ x ∈ stepsB P M, Can n x := fun x hx => by
  unfold stepsB at hx
  rw [List.mem_flatMap] at hx
  obtain ⟨c, hc, hx⟩ := hx
  obtain ⟨h1, h2⟩ := h c hc
  exact laid_can h2 (by omega) x hx
theorem mkB_size (l : List Chg) : (mkB l).size = 256 := mkK_len l
theorem commitK_can {n P : Nat} {M : List Chg} (h : ∀ x ∈ M, x.1 < P ∧ x.2.size = 1024) (hn : 8 * P + 1 ≤ n) : ∀ x ∈ commitK P M, Can n x := fun x hx => by
  unfold commitK at hx
  simp only [List.mem_append, List.mem_singleton] at hx
  rcases hx with (((hx | rfl) | (rfl | rfl)) | (hx | rfl)) | (rfl | rfl)
  · exact stepsA_can h hn x hx
  · exact .inl (by decide)
  · exact .inr ⟨by simp only; omega, mkB_size M⟩
  · exact .inl (by decide)
  · exact stepsB_can h hn x hx
  · exact .inl (by decide)
  · exact .inr ⟨by simp only; omega, Dk.rep_size 256 0⟩
  · exact .inl (by decide)
theorem stepsA_nwr (M : List Chg) : nwr (stepsA M) = 4 * M.length := by
  induction M with
  | nil => rfl
  | cons x M ih => show nwr (laid _ _ ++ stepsA M) = _; rw [nwr_append, ih, laid_nwr, List.length_cons]; omega
theorem stepsB_nwr (P : Nat) (M : List Chg) : nwr (stepsB P M) = 4 * M.length := by
  induction M with
  | nil => rfl
  | cons x M ih => show nwr (laid _ _ ++ stepsB P M) = _; rw [nwr_append, ih, laid_nwr, List.length_cons]; omega
theorem flushS_nwr : nwr [flushS] = 0 := rfl
theorem zero_nwr (s : ByteArray) : nwr [(0, s)] = 1 := rfl
theorem commitK_nwr (P : Nat) (M : List Chg) : nwr (commitK P M) = 8 * M.length + 2 := by
  unfold commitK
  simp only [nwr_append, stepsA_nwr, stepsB_nwr, flushS_nwr, zero_nwr]
  omega
-- new disks
theorem calm_new {n : Nat} (h1 : 1 ≤ n) (h2 : n ≤ 2048) : Calm (Dk.new n) := ⟨Dk.Ok.new n h1 h2, rfl, rfl⟩
theorem read_new {n : Nat} {i : Int} (h0 : 0 ≤ i) (h1 : i < (n : Int)) : (Dk.new n).read i = (Dk.sector0, 0) := by
  have hu : (Dk.new n).use i = 0 := by unfold Dk.use; rw [if_neg (show ¬ (Dk.new n).down = true from fun h => by cases h), if_neg (by simp [Dk.new]; omega)]
  unfold Dk.read
  rw [if_pos hu]
  show (Dk.look i [] ((List.replicate n Dk.sector0).getD i.toNat ByteArray.empty), (0 : Int)) = _
  rw [Dk.look, List.getD_eq_getElem?_getD, List.getElem?_eq_getElem (by simp; omega), List.getElem_replicate]
  rfl
theorem told_zero (i : Nat) : told Dk.sector0 i = false := by
  unfold told
  have : (Dk.sector0.data.toList.getD (i / 8) 0) = 0 := by
    show ((List.replicate 256 (0 : UInt8)).getD (i / 8) 0) = 0
    rw [List.getD_eq_getElem?_getD, List.getElem?_replicate]
    split <;> rfl
  rw [this]
  simp
theorem opL_zero (P k : Nat) : opL P Dk.sector0 k = [] := by
  unfold opL
  rw [List.filter_eq_nil_iff]
  intro i _
  rw [told_zero, Bool.and_false]
  decide
theorem openK_zero (P : Nat) (d : Dk) : openK P d Dk.sector0 = [] := by unfold openK; rw [if_pos (opL_zero P 128)]
theorem page_new {n p : Nat} (hp : p + 4 ≤ n) : pageB (Dk.new n) (p : Int) = Dk.rep 1024 0 := by
  have h : ∀ k : Nat, k ≤ 4 → rdK (Dk.new n) p k = List.replicate (256 * k) 0
    := fun k => by
    induction k with
    | zero => intro _; rfl
    | succ k ih =>
      intro hk
      rw [rdK, ih (by omega), read_new (by omega) (by omega)]
      show List.replicate (256 * k) 0 ++ List.replicate 256 (0 : UInt8) = _
      rw [List.replicate_append_replicate, show 256 * k + 256 = 256 * (k + 1) by omega]
  unfold pageB
  rw [h 4 (Nat.le_refl _)]
  rfl
theorem sto_new {P n : Nat} (h1 : 1 ≤ n) (h2 : n ≤ 2048) (h : 8 * P + 1 ≤ n) : Sto P (Dk.new n) := ⟨Dk.Ok.new n h1 h2, sz_new n, by simpa [Dk.new] using h, rfl⟩
theorem perm_one {α : Type} {l : List α} {x : α} (h : l.Perm [x]) : l = [x] := List.perm_singleton.1 h
/-- A commit on a calm disk. -/
theorem coto_calm {P : Nat} {d : Dk} {l : List (Int × ByteArray)} {x : Int} {d' : Dk} (h : CoTo P d l x d') (hc : Calm d) (hb : 8 * P + 1 ≤ d.l.length) :
    (whyE P l ≠ 0 ∧ x = whyE P l ∧ d' = d) ∨ (whyE P l = 0 ∧ x = 0 ∧ l = [] ∧ d' = d) ∨ (whyE P l = 0 ∧ x = 0 ∧ l ≠ [] ∧ Calm d' ∧ d'.writes = d.writes + (8 * l.length + 2 : Nat) ∧ d'.l.length = d.l.length ∧ ∃ M : List Chg, Ord M ∧ (M.map upc).Perm l ∧ d' = (run d (commitK P M)).1) := by
  cases h with
  | why h => exact .inl ⟨h, rfl, rfl⟩
  | down h hd => rw [hc.up] at hd; exact absurd hd (by decide)
  | none h hd hl => exact .inr (.inl ⟨h, rfl, hl, rfl⟩)
  | run h hd hl M hM hp =>
    have hlen : M.length = l.length := by rw [← hp.length_eq, List.length_map]
    have he := why_each h
    have hMe : ∀ c ∈ M, c.1 < P ∧ c.2.size = 1024 := fun c hcM => by
      have := he (upc c) (hp.mem_iff.1 (List.mem_map_of_mem hcM))
      unfold upc at this
      simp only at this
      omega
    obtain ⟨k1, k2, k3, k4⟩ := run_calm (commitK P M) hc (commitK_can hMe hb)
    rw [commitK_nwr, hlen] at k3
    exact .inr (.inr ⟨h, k1, hl, k2, k3, k4, M, hM, hp, rfl⟩)
end Go.Proofs.Ytpaabfadniakoaa
