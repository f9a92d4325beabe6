/- PnA: the walks of extent's taken and of Plan's compare (written by gen_plan.py). -/
import Derived.Test.YthloinmnojlleaaExtK
import Derived.Shelf.SlSortCmp.WholeK
set_option linter.unusedVariables false
set_option linter.unusedSimpArgs false
namespace Go.Proofs.Ythloinmnojlleaa
open Go.RowKit

/-- Is a span taken, as a whole? -/
def tknB (H : List (Nat × Nat)) (f z : Nat) : Bool := decide (behindI H (f : Int) = H.length) || decide (f + z ≤ (H.getD (behindI H (f : Int)) (0, 0)).1)
set_option maxHeartbeats 1600000 in
set_option maxRecDepth 100000 in
theorem tkn_any (w : World) (F : Nat → Prop) (g : Nat) (a : Ar) (v : Value) (h : IsAr w F g a v) (fn sn : Nat) (hb : fn + sn ≤ 4194304) :
    Calls Try.prog 45 #[.pointer (some ⟨g, 0, none⟩), .agg #[.int .i64 fn, .int .i64 sn]] w fun e w' => e = .returned (.bool (tknB a.holes fn sn)) ∧ Below w.heap.size w w' := by
  have H := Lib.hid h
  have few := h.ok.few
  have hmost := h.ok.most
  have hgs := blk_lt h.blk
  have B0 : Hid (Below w.heap.size w (w.alloc (.cells #[.int .i64 fn, .int .i64 sn] 30))) := (Below.refl _ w).alloc (Nat.le_refl _) _
  have r0 := blk_new w (.cells #[.int .i64 fn, .int .i64 sn] 30)
  have k0 := blk_cell r0 0; have k1 := blk_cell r0 1
  simp only [List.getElem?_toArray, List.getElem?_cons_zero, List.getElem?_cons_succ] at k0 k1
  obtain ⟨A, cc, rfl⟩ := own_slice h.own
  clear h r0
  go_enter Try.func45, Try.ntmps45
  go_wp2_with fail
  refine (behind_any _ F g a _ (H.out.below B0.out) fn).mono ?_
  rintro e w2 ⟨rfl, b2⟩
  have B2 : Hid (Below w.heap.size w w2) := B0.out.trans (b2.mono B0.out.size)
  replace k0 := cell_below b2 k0; replace k1 := cell_below b2 k1
  clear b2 B0
  obtain ⟨_, c1, _⟩ := (H.out.below B2.out).cells
  have ile := behind_le a.holes fn
  have GE : Hid (tknB a.holes fn sn = (decide (behindI a.holes (fn : Int) = a.holes.length) || decide (fn + sn ≤ (a.holes.getD (behindI a.holes (fn : Int)) (0, 0)).1))) := rfl
  generalize hi : behindI a.holes (fn : Int) = i at ile GE ⊢
  clear hi
  obtain ⟨fs, hfs⟩ : ∃ fs, fs = fn + sn := ⟨_, rfl⟩
  have e1 : (fn : Int) + (sn : Int) = (fs : Int) := by omega
  have e2 : IntKind.i64.wrap (fs : Int) = (fs : Int) := by rw [IntKind.wrap_i64]; omega
  have HFS := Lib.hid hfs
  clear hfs hb
  by_cases hil : i < a.holes.length
  · have d0 : (i == a.holes.length) = false := by simp; omega
    have d0' : ((i : Int) == (a.holes.length : Int)) = false := by simp; omega
    obtain ⟨g1, c1', e3, _, _, hc⟩ := row_at H.out.own (by omega)
    injection e3 with e3 e4 e5
    subst e3 e5
    obtain ⟨z1, z2⟩ := hc i hil
    have z1 := cell_below B2.out z1
    rw [getD_get hil] at GE
    obtain ⟨x, hxx⟩ : ∃ x, x = a.holes[i] := ⟨_, rfl⟩
    rw [← hxx] at z1 GE
    clear hc e4 z2 hxx
    by_cases q1 : x.1 < fs
    · have E : Hid (tknB a.holes fn sn = false) := by have := HFS.out; unfold Hid; rw [GE.out, decide_eq_false (by omega), decide_eq_false (by omega)]; rfl
      have d1 : decide (fs ≤ x.1) = false := by simp; omega
      clear q1
      go_wp2_with fail
      refine wp_region_flag (fun w' => w'.cell? ⟨g, 1, none⟩ = some (.slice (some ⟨g1, 0, none⟩) a.holes.length cc) ∧ w'.cell? ⟨w.heap.size, 0, none⟩ = some (.int .i64 (fn : Nat)) ∧ w'.cell? ⟨w.heap.size, 1, none⟩ = some (.int .i64 (sn : Nat)) ∧ w'.cell? ⟨g1, i * 2, none⟩ = some (.int .i64 (x.1 : Nat))) [(0, 1), (1, 1), (2, 1), (3, 1), (4, 0), (5, 1), (6, 1), (7, 1), (8, 1), (9, 1), (10, 1), (12, 1), (16, 1), (18, 1), (11, 2), (13, 1), (14, 1), (15, 2), (17, 2), (19, 0), (20, 1), (21, 1), (22, 1), (23, 1)] (by kernel_rfl) (by kernel_rfl) ⟨c1, k0, k1, z1⟩ ?_
      simp only [ordered, List.map_cons, List.map_nil, List.getD_cons_zero, List.getD_cons_succ]
      repeat (refine wpF_dry (fun K hK => ?_); go_simp; refine hK _ ?_; clear hK K)
      refine wpF_do ?_
      go_wp2_with fail
      refine ⟨⟨c1, k0, k1, z1⟩, ?_⟩
      repeat (refine wpF_dry (fun K hK => ?_); go_simp; refine hK _ ?_; clear hK K)
      refine wpF_read (.slice (some ⟨g1, 0, none⟩) a.holes.length cc) rfl (fun w' hS => by obtain ⟨s1, s2, s3, s4⟩ := hS; go_simp) (fun K hK => ?_)
      go_simp
      refine hK _ ?_
      clear hK K
      repeat (refine wpF_dry (fun K hK => ?_); go_simp; refine hK _ ?_; clear hK K)
      refine wpF_read (.int .i64 (x.1 : Nat)) rfl (fun w' hS => by obtain ⟨s1, s2, s3, s4⟩ := hS; go_simp) (fun K hK => ?_)
      go_simp
      refine hK _ ?_
      clear hK K
      refine wpF_read (.int .i64 (fn : Nat)) rfl (fun w' hS => by obtain ⟨s1, s2, s3, s4⟩ := hS; go_simp) (fun K hK => ?_)
      go_simp
      refine hK _ ?_
      clear hK K
      refine wpF_do ?_
      go_wp2_with fail
      refine ⟨⟨c1, k0, k1, z1⟩, ?_⟩
      repeat (refine wpF_dry (fun K hK => ?_); go_simp; refine hK _ ?_; clear hK K)
      refine wpF_nil ?_
      go_wp2
      go_ret
      exact ⟨by rw [E.out]; rfl, B2.out.drew⟩
    · have E : Hid (tknB a.holes fn sn = true) := by have := HFS.out; unfold Hid; rw [GE.out, decide_eq_false (by omega), decide_eq_true (by omega)]; rfl
      have d1 : decide (fs ≤ x.1) = true := by simp; omega
      clear q1
      go_wp2_with fail
      refine wp_region_flag (fun w' => w'.cell? ⟨g, 1, none⟩ = some (.slice (some ⟨g1, 0, none⟩) a.holes.length cc) ∧ w'.cell? ⟨w.heap.size, 0, none⟩ = some (.int .i64 (fn : Nat)) ∧ w'.cell? ⟨w.heap.size, 1, none⟩ = some (.int .i64 (sn : Nat)) ∧ w'.cell? ⟨g1, i * 2, none⟩ = some (.int .i64 (x.1 : Nat))) [(0, 1), (1, 1), (2, 1), (3, 1), (4, 0), (5, 1), (6, 1), (7, 1), (8, 1), (9, 1), (10, 1), (12, 1), (16, 1), (18, 1), (11, 2), (13, 1), (14, 1), (15, 2), (17, 2), (19, 0), (20, 1), (21, 1), (22, 1), (23, 1)] (by kernel_rfl) (by kernel_rfl) ⟨c1, k0, k1, z1⟩ ?_
      simp only [ordered, List.map_cons, List.map_nil, List.getD_cons_zero, List.getD_cons_succ]
      repeat (refine wpF_dry (fun K hK => ?_); go_simp; refine hK _ ?_; clear hK K)
      refine wpF_do ?_
      go_wp2_with fail
      refine ⟨⟨c1, k0, k1, z1⟩, ?_⟩
      repeat (refine wpF_dry (fun K hK => ?_); go_simp; refine hK _ ?_; clear hK K)
      refine wpF_read (.slice (some ⟨g1, 0, none⟩) a.holes.length cc) rfl (fun w' hS => by obtain ⟨s1, s2, s3, s4⟩ := hS; go_simp) (fun K hK => ?_)
      go_simp
      refine hK _ ?_
      clear hK K
      repeat (refine wpF_dry (fun K hK => ?_); go_simp; refine hK _ ?_; clear hK K)
      refine wpF_read (.int .i64 (x.1 : Nat)) rfl (fun w' hS => by obtain ⟨s1, s2, s3, s4⟩ := hS; go_simp) (fun K hK => ?_)
      go_simp
      refine hK _ ?_
      clear hK K
      refine wpF_read (.int .i64 (fn : Nat)) rfl (fun w' hS => by obtain ⟨s1, s2, s3, s4⟩ := hS; go_simp) (fun K hK => ?_)
      go_simp
      refine hK _ ?_
      clear hK K
      refine wpF_do ?_
      go_wp2_with fail
      refine ⟨⟨c1, k0, k1, z1⟩, ?_⟩
      repeat (refine wpF_dry (fun K hK => ?_); go_simp; refine hK _ ?_; clear hK K)
      refine wpF_nil ?_
      go_wp2
      go_ret
      exact ⟨by rw [E.out]; rfl, B2.out.drew⟩
  · have hie : i = a.holes.length := by omega
    have E : Hid (tknB a.holes fn sn = true) := by unfold Hid; rw [GE.out, decide_eq_true hie]; rfl
    have d0 : (i == a.holes.length) = true := by simpa using hie
    have d0' : ((i : Int) == (a.holes.length : Int)) = true := by simp; omega
    clear hie hil
    go_wp2_with fail
    refine wp_region_flag (fun w' => w'.cell? ⟨g, 1, none⟩ = some (.slice A a.holes.length cc) ∧ w'.cell? ⟨w.heap.size, 0, none⟩ = some (.int .i64 (fn : Nat)) ∧ w'.cell? ⟨w.heap.size, 1, none⟩ = some (.int .i64 (sn : Nat))) [(0, 1), (1, 1), (2, 1), (3, 1), (4, 0), (5, 1), (6, 1), (7, 1), (8, 1), (9, 1), (10, 1), (12, 1), (16, 1), (18, 1), (11, 2), (13, 1), (14, 1), (15, 2), (17, 2), (19, 0), (20, 1), (21, 1), (22, 1), (23, 1)] (by kernel_rfl) (by kernel_rfl) ⟨c1, k0, k1⟩ ?_
    simp only [ordered, List.map_cons, List.map_nil, List.getD_cons_zero, List.getD_cons_succ]
    repeat (refine wpF_dry (fun K hK => ?_); go_simp; refine hK _ ?_; clear hK K)
    refine wpF_do ?_
    go_wp2_with fail
    refine ⟨⟨c1, k0, k1⟩, ?_⟩
    repeat (refine wpF_dry (fun K hK => ?_); go_simp; refine hK _ ?_; clear hK K)
    refine wpF_skip (fun K hK => ?_)
    go_simp
    first | refine hK _ ?_ | refine ⟨(fun hh => by cases hh), hK _ ?_⟩
    clear hK K
    repeat (refine wpF_dry (fun K hK => ?_); go_simp; refine hK _ ?_; clear hK K)
    refine wpF_skip (fun K hK => ?_)
    go_simp
    first | refine hK _ ?_ | refine ⟨(fun hh => by cases hh), hK _ ?_⟩
    clear hK K
    refine wpF_skip (fun K hK => ?_)
    go_simp
    first | refine hK _ ?_ | refine ⟨(fun hh => by cases hh), hK _ ?_⟩
    clear hK K
    refine wpF_do ?_
    go_wp2_with fail
    refine ⟨⟨c1, k0, k1⟩, ?_⟩
    repeat (refine wpF_dry (fun K hK => ?_); go_simp; refine hK _ ?_; clear hK K)
    refine wpF_nil ?_
    go_wp2
    go_ret
    exact ⟨by rw [E.out]; rfl, B2.out.drew⟩

/-- A span whose place is no great number. -/
abbrev BSp := { x : Nat × Nat // x.1 ≤ 4194304 }
instance : Inhabited BSp := ⟨⟨(0, 0), by decide⟩⟩
def encB (x : BSp) : List Value := [.int .i64 (x.1.1 : Int), .int .i64 (x.1.2 : Int)]
def cfB (x y : BSp) : Int := (x.1.1 : Int) - y.1.1
open Go.Shelf Go.Lib Go.Sort in
theorem cmpB_any (x y : BSp) (W : World) : Calls Try.prog 44 #[.agg #[.int .i64 (x.1.1 : Int), .int .i64 (x.1.2 : Int)], .agg #[.int .i64 (y.1.1 : Int), .int .i64 (y.1.2 : Int)]] W fun e w' => e = .returned (.int .i64 (cfB x y)) ∧ ∃ q os', w' = grow (W.drewN q) os' := by
  have hx := x.2; have hy := y.2
  unfold cfB
  generalize x.1 = a at hx ⊢
  generalize y.1 = b at hy ⊢
  go_enter Try.func44, Try.ntmps44
  go_wp2
  go_ret
  exact ⟨rfl, 0, _, by rw [alloc_eq_grow, alloc_eq_grow, grow_grow]; rfl⟩
open Go.Shelf Go.Lib Go.Sort in
theorem cmpB_lays (blk off size : Nat) (w : World) : CmpLays Try.prog 44 #[] encB 2 cfB blk off size w := fun _ _ _ _ x y => cmpB_any x y _
open Go.Sort in
theorem ltB (x y : BSp) : ltOf cfB x y = decide (x.1.1 < y.1.1) := by
  unfold ltOf cfB
  by_cases h : x.1.1 < y.1.1
  · rw [decide_eq_true h, decide_eq_true (by omega)]
  · rw [decide_eq_false h, decide_eq_false (by omega)]
open Go.Sort in
theorem swoB : SWO (ltOf cfB) where
  irrefl x := by rw [ltB]; simp
  trans x y z h1 h2 := by rw [ltB] at *; simp at *; omega
  ntrans x y z h1 h2 := by rw [ltB] at *; simp at *; omega
end Go.Proofs.Ythloinmnojlleaa
