/- ExtC: the walks of within, of the closures, of behind (written by gen_ext.py). -/
import Derived.Test.YthloinmnojlleaaExtB
set_option linter.unusedVariables false
set_option linter.unusedSimpArgs false
namespace Go.Proofs.Ythloinmnojlleaa
open Go.RowKit

/-- Is a span an extent of the area? -/
def Ar.within (a : Ar) (f s : Int) : Bool := decide (1 ≤ s) && decide (0 ≤ f) && decide (f < a.size) && decide (s ≤ a.size - f)
set_option maxHeartbeats 1600000 in
theorem within_any (w : World) (F : Nat → Prop) (g : Nat) (a : Ar) (v : Value) (h : IsAr w F g a v) (f s : Int) :
    Calls Try.prog 30 #[.pointer (some ⟨g, 0, none⟩), .agg #[.int .i64 f, .int .i64 s]] w fun e w' => e = .returned (.bool (a.within f s)) ∧ Below w.heap.size w w' := by
  obtain ⟨c0, _, _⟩ := h.cells
  have hgs := blk_lt h.blk
  have hmost := h.ok.most
  have B1 : Hid (Below w.heap.size w (w.alloc (.cells #[.int .i64 f, .int .i64 s] 30))) := (Below.refl _ w).alloc (Nat.le_refl _) _
  have c0 := cell_below B1.out c0
  have r0 := blk_new w (.cells #[.int .i64 f, .int .i64 s] 30)
  have k0 := blk_cell r0 0; have k1 := blk_cell r0 1
  simp only [List.getElem?_toArray, List.getElem?_cons_zero, List.getElem?_cons_succ] at k0 k1
  have hh : ∀ b : Bool, a.within f s = b → Hid (a.within f s = b) := fun _ x => x
  clear h r0
  by_cases q1 : 1 ≤ s
  · by_cases q2 : 0 ≤ f
    · by_cases q3 : f < a.size
      · have HV := hh (decide (s ≤ a.size - f)) (by unfold Ar.within; simp [q1, q2, q3])
        have d1 : decide (1 ≤ s) = true := by simpa using q1
        have d2 : decide (0 ≤ f) = true := by simpa using q2
        have d3 : decide (f < (a.size : Int)) = true := by simpa using q3
        have hw : IntKind.i64.wrap ((a.size : Int) - f) = a.size - f := by rw [IntKind.wrap_i64]; omega
        clear hh
        go_enter Try.func30, Try.ntmps30
        go_wp2_with fail
        refine wp_region_flag (fun w' => w'.cell? ⟨w.heap.size, 0, none⟩ = some (.int .i64 f) ∧ w'.cell? ⟨w.heap.size, 1, none⟩ = some (.int .i64 s) ∧ w'.cell? ⟨g, 0, none⟩ = some (.int .i64 a.size)) [(0, 1), (1, 0), (2, 1), (3, 1), (4, 1), (5, 0), (6, 1), (7, 1), (8, 1), (9, 1), (11, 1), (12, 1), (13, 1), (10, 2), (14, 0), (15, 1), (16, 1), (17, 1), (18, 1), (20, 1), (21, 1), (22, 1), (24, 1), (19, 2), (23, 2), (25, 0), (26, 1), (27, 1), (28, 1), (29, 1)] (by kernel_rfl) (by kernel_rfl) ⟨k0, k1, c0⟩ ?_
        simp only [ordered, List.map_cons, List.map_nil, List.getD_cons_zero, List.getD_cons_succ]
        repeat (refine wpF_dry (fun K hK => ?_); go_simp; refine hK _ ?_; clear hK K)
        refine wpF_do ?_
        go_wp2_with fail
        refine ⟨⟨k0, k1, c0⟩, ?_⟩
        repeat (refine wpF_dry (fun K hK => ?_); go_simp; refine hK _ ?_; clear hK K)
        refine wpF_do ?_
        go_wp2_with fail
        refine ⟨⟨k0, k1, c0⟩, ?_⟩
        repeat (refine wpF_dry (fun K hK => ?_); go_simp; refine hK _ ?_; clear hK K)
        refine wpF_read (.int .i64 f) rfl (fun w' hS => by obtain ⟨s1, s2, s3⟩ := hS; go_simp) (fun K hK => ?_)
        go_simp
        refine hK _ ?_
        clear hK K
        refine wpF_do ?_
        go_wp2_with fail
        refine ⟨⟨k0, k1, c0⟩, ?_⟩
        repeat (refine wpF_dry (fun K hK => ?_); go_simp; refine hK _ ?_; clear hK K)
        refine wpF_read (.int .i64 s) rfl (fun w' hS => by obtain ⟨s1, s2, s3⟩ := hS; go_simp) (fun K hK => ?_)
        go_simp
        refine hK _ ?_
        clear hK K
        refine wpF_read (.int .i64 a.size) rfl (fun w' hS => by obtain ⟨s1, s2, s3⟩ := hS; go_simp) (fun K hK => ?_)
        go_simp
        refine hK _ ?_
        clear hK K
        refine wpF_do ?_
        go_wp2_with fail
        refine ⟨⟨k0, k1, c0⟩, ?_⟩
        repeat (refine wpF_dry (fun K hK => ?_); go_simp; refine hK _ ?_; clear hK K)
        refine wpF_nil ?_
        go_wp2
        go_ret
        exact ⟨by rw [HV.out]; rfl, B1.out.drew⟩
      · have HV := hh false (by unfold Ar.within; simp [q1, q2, q3])
        have d1 : decide (1 ≤ s) = true := by simpa using q1
        have d2 : decide (0 ≤ f) = true := by simpa using q2
        have d3 : decide (f < (a.size : Int)) = false := by simpa using q3
        clear hh
        go_enter Try.func30, Try.ntmps30
        go_wp2_with fail
        refine wp_region_flag (fun w' => w'.cell? ⟨w.heap.size, 0, none⟩ = some (.int .i64 f) ∧ w'.cell? ⟨w.heap.size, 1, none⟩ = some (.int .i64 s) ∧ w'.cell? ⟨g, 0, none⟩ = some (.int .i64 a.size)) [(0, 1), (1, 0), (2, 1), (3, 1), (4, 1), (5, 0), (6, 1), (7, 1), (8, 1), (9, 1), (11, 1), (12, 1), (13, 1), (10, 2), (14, 0), (15, 1), (16, 1), (17, 1), (18, 1), (20, 1), (21, 1), (22, 1), (24, 1), (19, 2), (23, 2), (25, 0), (26, 1), (27, 1), (28, 1), (29, 1)] (by kernel_rfl) (by kernel_rfl) ⟨k0, k1, c0⟩ ?_
        simp only [ordered, List.map_cons, List.map_nil, List.getD_cons_zero, List.getD_cons_succ]
        repeat (refine wpF_dry (fun K hK => ?_); go_simp; refine hK _ ?_; clear hK K)
        refine wpF_do ?_
        go_wp2_with fail
        refine ⟨⟨k0, k1, c0⟩, ?_⟩
        repeat (refine wpF_dry (fun K hK => ?_); go_simp; refine hK _ ?_; clear hK K)
        refine wpF_do ?_
        go_wp2_with fail
        refine ⟨⟨k0, k1, c0⟩, ?_⟩
        repeat (refine wpF_dry (fun K hK => ?_); go_simp; refine hK _ ?_; clear hK K)
        refine wpF_read (.int .i64 f) rfl (fun w' hS => by obtain ⟨s1, s2, s3⟩ := hS; go_simp) (fun K hK => ?_)
        go_simp
        refine hK _ ?_
        clear hK K
        refine wpF_do ?_
        go_wp2_with fail
        refine ⟨⟨k0, k1, c0⟩, ?_⟩
        repeat (refine wpF_dry (fun K hK => ?_); go_simp; refine hK _ ?_; clear hK K)
        refine wpF_skip (fun K hK => ?_)
        go_simp
        first | refine hK _ ?_ | refine ⟨(fun hh => by cases hh), hK _ ?_⟩
        clear hK K
        refine wpF_skip (fun K hK => ?_)
        go_simp
        first | refine hK _ ?_ | refine ⟨(fun hh => by cases hh), hK _ ?_⟩
        clear hK K
        refine wpF_do ?_
        go_wp2_with fail
        refine ⟨⟨k0, k1, c0⟩, ?_⟩
        repeat (refine wpF_dry (fun K hK => ?_); go_simp; refine hK _ ?_; clear hK K)
        refine wpF_nil ?_
        go_wp2
        go_ret
        exact ⟨by rw [HV.out]; rfl, B1.out.drew⟩
    · have HV := hh false (by unfold Ar.within; simp [q1, q2])
      have d1 : decide (1 ≤ s) = true := by simpa using q1
      have d2 : decide (0 ≤ f) = false := by simpa using q2
      clear hh
      go_enter Try.func30, Try.ntmps30
      go_wp2_with fail
      refine wp_region_flag (fun w' => w'.cell? ⟨w.heap.size, 0, none⟩ = some (.int .i64 f) ∧ w'.cell? ⟨w.heap.size, 1, none⟩ = some (.int .i64 s) ∧ w'.cell? ⟨g, 0, none⟩ = some (.int .i64 a.size)) [(0, 1), (1, 0), (2, 1), (3, 1), (4, 1), (5, 0), (6, 1), (7, 1), (8, 1), (9, 1), (11, 1), (12, 1), (13, 1), (10, 2), (14, 0), (15, 1), (16, 1), (17, 1), (18, 1), (20, 1), (21, 1), (22, 1), (24, 1), (19, 2), (23, 2), (25, 0), (26, 1), (27, 1), (28, 1), (29, 1)] (by kernel_rfl) (by kernel_rfl) ⟨k0, k1, c0⟩ ?_
      simp only [ordered, List.map_cons, List.map_nil, List.getD_cons_zero, List.getD_cons_succ]
      repeat (refine wpF_dry (fun K hK => ?_); go_simp; refine hK _ ?_; clear hK K)
      refine wpF_do ?_
      go_wp2_with fail
      refine ⟨⟨k0, k1, c0⟩, ?_⟩
      repeat (refine wpF_dry (fun K hK => ?_); go_simp; refine hK _ ?_; clear hK K)
      refine wpF_do ?_
      go_wp2_with fail
      refine ⟨⟨k0, k1, c0⟩, ?_⟩
      repeat (refine wpF_dry (fun K hK => ?_); go_simp; refine hK _ ?_; clear hK K)
      refine wpF_skip (fun K hK => ?_)
      go_simp
      first | refine hK _ ?_ | refine ⟨(fun hh => by cases hh), hK _ ?_⟩
      clear hK K
      refine wpF_do ?_
      go_wp2_with fail
      refine ⟨⟨k0, k1, c0⟩, ?_⟩
      repeat (refine wpF_dry (fun K hK => ?_); go_simp; refine hK _ ?_; clear hK K)
      refine wpF_skip (fun K hK => ?_)
      go_simp
      first | refine hK _ ?_ | refine ⟨(fun hh => by cases hh), hK _ ?_⟩
      clear hK K
      refine wpF_skip (fun K hK => ?_)
      go_simp
      first | refine hK _ ?_ | refine ⟨(fun hh => by cases hh), hK _ ?_⟩
      clear hK K
      refine wpF_do ?_
      go_wp2_with fail
      refine ⟨⟨k0, k1, c0⟩, ?_⟩
      repeat (refine wpF_dry (fun K hK => ?_); go_simp; refine hK _ ?_; clear hK K)
      refine wpF_nil ?_
      go_wp2
      go_ret
      exact ⟨by rw [HV.out]; rfl, B1.out.drew⟩
  · have HV := hh false (by unfold Ar.within; simp [q1])
    have d1 : decide (1 ≤ s) = false := by simpa using q1
    clear hh
    go_enter Try.func30, Try.ntmps30
    go_wp2_with fail
    refine wp_region_flag (fun w' => w'.cell? ⟨w.heap.size, 0, none⟩ = some (.int .i64 f) ∧ w'.cell? ⟨w.heap.size, 1, none⟩ = some (.int .i64 s) ∧ w'.cell? ⟨g, 0, none⟩ = some (.int .i64 a.size)) [(0, 1), (1, 0), (2, 1), (3, 1), (4, 1), (5, 0), (6, 1), (7, 1), (8, 1), (9, 1), (11, 1), (12, 1), (13, 1), (10, 2), (14, 0), (15, 1), (16, 1), (17, 1), (18, 1), (20, 1), (21, 1), (22, 1), (24, 1), (19, 2), (23, 2), (25, 0), (26, 1), (27, 1), (28, 1), (29, 1)] (by kernel_rfl) (by kernel_rfl) ⟨k0, k1, c0⟩ ?_
    simp only [ordered, List.map_cons, List.map_nil, List.getD_cons_zero, List.getD_cons_succ]
    repeat (refine wpF_dry (fun K hK => ?_); go_simp; refine hK _ ?_; clear hK K)
    refine wpF_do ?_
    go_wp2_with fail
    refine ⟨⟨k0, k1, c0⟩, ?_⟩
    repeat (refine wpF_dry (fun K hK => ?_); go_simp; refine hK _ ?_; clear hK K)
    refine wpF_do ?_
    go_wp2_with fail
    refine ⟨⟨k0, k1, c0⟩, ?_⟩
    repeat (refine wpF_dry (fun K hK => ?_); go_simp; refine hK _ ?_; clear hK K)
    refine wpF_skip (fun K hK => ?_)
    go_simp
    first | refine hK _ ?_ | refine ⟨(fun hh => by cases hh), hK _ ?_⟩
    clear hK K
    refine wpF_do ?_
    go_wp2_with fail
    refine ⟨⟨k0, k1, c0⟩, ?_⟩
    repeat (refine wpF_dry (fun K hK => ?_); go_simp; refine hK _ ?_; clear hK K)
    refine wpF_skip (fun K hK => ?_)
    go_simp
    first | refine hK _ ?_ | refine ⟨(fun hh => by cases hh), hK _ ?_⟩
    clear hK K
    refine wpF_skip (fun K hK => ?_)
    go_simp
    first | refine hK _ ?_ | refine ⟨(fun hh => by cases hh), hK _ ?_⟩
    clear hK K
    refine wpF_do ?_
    go_wp2_with fail
    refine ⟨⟨k0, k1, c0⟩, ?_⟩
    repeat (refine wpF_dry (fun K hK => ?_); go_simp; refine hK _ ?_; clear hK K)
    refine wpF_nil ?_
    go_wp2
    go_ret
    exact ⟨by rw [HV.out]; rfl, B1.out.drew⟩

theorem better_best (w : World) (f s f2 s2 : Int) : Calls Try.prog 46 #[.agg #[.int .i64 f, .int .i64 s], .agg #[.int .i64 f2, .int .i64 s2]] w fun e w' => e = .returned (.bool (decide (s < s2))) ∧ Below w.heap.size w w' := by
  have B2 : ∀ a b, Hid (Below w.heap.size w ((w.alloc a).alloc b)) := fun a b => ((Below.refl _ w).alloc (Nat.le_refl _) a).alloc (by simp) b
  go_enter Try.func46, Try.ntmps46
  go_wp2
  go_ret
  exact ⟨rfl, (B2 _ _).out⟩
theorem better_worst (w : World) (f s f2 s2 : Int) : Calls Try.prog 47 #[.agg #[.int .i64 f, .int .i64 s], .agg #[.int .i64 f2, .int .i64 s2]] w fun e w' => e = .returned (.bool (decide (s2 < s))) ∧ Below w.heap.size w w' := by
  have B2 : ∀ a b, Hid (Below w.heap.size w ((w.alloc a).alloc b)) := fun a b => ((Below.refl _ w).alloc (Nat.le_refl _) a).alloc (by simp) b
  go_enter Try.func47, Try.ntmps47
  go_wp2
  go_ret
  exact ⟨rfl, (B2 _ _).out⟩
theorem better_first (w : World) (f s f2 s2 : Int) : Calls Try.prog 49 #[.agg #[.int .i64 f, .int .i64 s], .agg #[.int .i64 f2, .int .i64 s2]] w fun e w' => e = .returned (.bool false) ∧ Below w.heap.size w w' := by
  have B2 : ∀ a b, Hid (Below w.heap.size w ((w.alloc a).alloc b)) := fun a b => ((Below.refl _ w).alloc (Nat.le_refl _) a).alloc (by simp) b
  go_enter Try.func49, Try.ntmps49
  go_wp2
  go_ret
  exact ⟨rfl, (B2 _ _).out⟩
theorem cmp_behind (w : World) (f s : Nat) (hfs : f + s ≤ 1048576) (at_ : Int) : Calls Try.prog 51 #[.agg #[.int .i64 f, .int .i64 s], .int .i64 at_] w fun e w' => e = .returned (.int .i64 (if (f : Int) + s ≤ at_ then -1 else 1)) ∧ Below w.heap.size w w' := by
  have B2 : ∀ a, Hid (Below w.heap.size w (w.alloc a)) := fun a => (Below.refl _ w).alloc (Nat.le_refl _) a
  by_cases h : (f : Int) + s ≤ at_
  · have d : decide ((f : Int) + s ≤ at_) = true := by simpa using h
    rw [if_pos h]
    clear h
    go_enter Try.func51, Try.ntmps51
    go_wp2
    go_ret
    exact ⟨rfl, (B2 _).out⟩
  · have d : decide ((f : Int) + s ≤ at_) = false := by simpa using h
    rw [if_neg h]
    clear h
    go_enter Try.func51, Try.ntmps51
    go_wp2
    go_ret
    exact ⟨rfl, (B2 _).out⟩
end Go.Proofs.Ythloinmnojlleaa
