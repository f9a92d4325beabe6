/- PlE: the walk of extent's Take (written by gen_take.py). -/
import Derived.Test.YthloinmnojlleaaPlP
set_option linter.unusedVariables false
set_option linter.unusedSimpArgs false
namespace Go.Proofs.Ythloinmnojlleaa
open Go.RowKit

/-- What Take answers. -/
def Ar.takeE (a : Ar) (f s : Int) : Int :=
  if a.within f s = false then 9 else if behindI a.holes f < a.holes.length ∧ ((a.holes.getD (behindI a.holes f) (0, 0)).1 : Int) ≤ f ∧ f + s ≤ ((a.holes.getD (behindI a.holes f) (0, 0)).1 : Int) + (a.holes.getD (behindI a.holes f) (0, 0)).2 then 0 else 8
def TakeTo (w : World) (F : Nat → Prop) (g : Nat) (a : Ar) (f s : Int) (e : Ending) (w' : World) : Prop :=
  e = .returned (.int .i64 (a.takeE f s)) ∧ (if a.takeE f s = 0 then ∃ F', ArTo w F g { a with holes := cutL a.holes (behindI a.holes f) (a.holes.getD (behindI a.holes f) (0, 0)) f.toNat s.toNat } w' F' else Below w.heap.size w w')
set_option maxHeartbeats 3200000 in
set_option maxRecDepth 100000 in
theorem take_any (w : World) (F : Nat → Prop) (g : Nat) (a : Ar) (v : Value) (h : IsAr w F g a v) (f s : Int) :
    Calls Try.prog 23 #[.pointer (some ⟨g, 0, none⟩), .agg #[.int .i64 f, .int .i64 s]] w fun e w' => TakeTo w F g a f s e w' := by
  have H := Lib.hid h
  have few := h.ok.few
  have hmost := h.ok.most
  have hgs := blk_lt h.blk
  have B0 : Hid (Below w.heap.size w (w.alloc (.cells #[.int .i64 f, .int .i64 s] 30))) := (Below.refl _ w).alloc (Nat.le_refl _) _
  have r0 := blk_new w (.cells #[.int .i64 f, .int .i64 s] 30)
  have R0 := Lib.hid r0
  have k0 := blk_cell r0 0; have k1 := blk_cell r0 1
  simp only [List.getElem?_toArray, List.getElem?_cons_zero, List.getElem?_cons_succ] at k0 k1
  obtain ⟨A, cc, rfl⟩ := own_slice h.own
  clear h r0
  go_enter Try.func23, Try.ntmps23
  go_wp2_with fail
  refine (within_any _ F g a _ (H.out.below B0.out) f s).mono ?_
  rintro e w1 ⟨rfl, b1⟩
  have B1 : Hid (Below w.heap.size w w1) := B0.out.trans (b1.mono B0.out.size)
  replace k0 := cell_below b1 k0; replace k1 := cell_below b1 k1
  have R1 : Hid (w1.heap[w.heap.size]? = some (.cells #[.int .i64 f, .int .i64 s] 30 (0, 0))) := (b1.block _ (by simp)).trans R0.out
  clear b1 R0 B0
  cases hw : a.within f s with
  | false =>
    have E : Hid (a.takeE f s = 9) := by unfold Hid Ar.takeE; rw [if_pos hw]
    clear hw
    go_wp2
    go_ret
    unfold TakeTo
    rw [E.out, if_neg (by decide)]
    exact ⟨rfl, B1.out⟩
  | true =>
    have HW := Lib.hid hw
    have hb := within_iff hw
    clear hw
    go_wp2_with fail
    refine (behind_any _ F g a _ (H.out.below B1.out) f).mono ?_
    rintro e w2 ⟨rfl, b2⟩
    have B2 : Hid (Below w.heap.size w w2) := B1.out.trans (b2.mono B1.out.size)
    replace k0 := cell_below b2 k0; replace k1 := cell_below b2 k1
    clear b2 R1 B1
    obtain ⟨_, c1, _⟩ := (H.out.below B2.out).cells
    have ile := behind_le a.holes f
    obtain ⟨fn, rfl⟩ := Int.eq_ofNat_of_zero_le (show 0 ≤ f by omega)
    obtain ⟨sn, rfl⟩ := Int.eq_ofNat_of_zero_le (show 0 ≤ s by omega)
    have GE : Hid (a.takeE fn sn = if behindI a.holes fn < a.holes.length ∧ ((a.holes.getD (behindI a.holes fn) (0, 0)).1 : Int) ≤ fn ∧ (fn : Int) + sn ≤ ((a.holes.getD (behindI a.holes fn) (0, 0)).1 : Int) + (a.holes.getD (behindI a.holes fn) (0, 0)).2 then 0 else 8) := by unfold Hid Ar.takeE; rw [if_neg (by rw [HW.out]; simp)]
    have TT : Hid (∀ e w', TakeTo w F g a fn sn e w' ↔ (e = .returned (.int .i64 (a.takeE fn sn)) ∧ (if a.takeE fn sn = 0 then ∃ F', ArTo w F g { a with holes := cutL a.holes (behindI a.holes fn) (a.holes.getD (behindI a.holes fn) (0, 0)) fn sn } w' F' else Below w.heap.size w w'))) := fun e w' => Iff.rfl
    generalize hi : behindI a.holes (fn : Int) = i at ile GE TT ⊢
    clear hi
    obtain ⟨fs, hfs⟩ : ∃ fs, fs = fn + sn := ⟨_, rfl⟩
    have e1 : (fn : Int) + (sn : Int) = (fs : Int) := by omega
    have e2 : IntKind.i64.wrap (fs : Int) = (fs : Int) := by rw [IntKind.wrap_i64]; omega
    have HFS := Lib.hid hfs
    have HBD := Lib.hid hb
    clear hfs hb
    by_cases hil : i < a.holes.length
    · have d0 : (i == a.holes.length) = false := by simp; omega
      have d0' : ((i : Int) == (a.holes.length : Int)) = false := by simp; omega
      obtain ⟨g1, c1', e3, _, _, hc⟩ := row_at H.out.own (by omega)
      injection e3 with e3 e4 e5
      subst e3 e5
      obtain ⟨z1, z2⟩ := hc i hil
      have z1 := cell_below B2.out z1; have z2 := cell_below B2.out z2
      have hx := lies_get H.out.ok.lies i hil
      rw [getD_get hil] at GE TT
      obtain ⟨x, hxx⟩ : ∃ x, x = a.holes[i] := ⟨_, rfl⟩
      rw [← hxx] at z1 z2 GE hx
      have HXX := Lib.hid hxx
      obtain ⟨r, hr⟩ : ∃ r, r = x.1 + x.2 := ⟨_, rfl⟩
      have hr1 : (x.1 : Int) + (x.2 : Int) = (r : Int) := by omega
      have hr2 : IntKind.i64.wrap (r : Int) = (r : Int) := by rw [IntKind.wrap_i64]; omega
      have HR := Lib.hid hr
      clear hc e4 hxx hr
      by_cases q1 : fn < x.1
      · have E : Hid (a.takeE fn sn = 8) := by unfold Hid; rw [GE.out, if_neg (by omega)]
        have d1 : decide (fn < x.1) = true := by simpa using q1
        clear q1 hx
        go_wp2_with fail
        refine wp_region_flag (fun w' => w'.cell? ⟨g, 1, none⟩ = some (.slice (some ⟨g1, 0, none⟩) a.holes.length cc) ∧ w'.cell? ⟨w.heap.size, 0, none⟩ = some (.int .i64 (fn : Nat)) ∧ w'.cell? ⟨w.heap.size, 1, none⟩ = some (.int .i64 (sn : Nat)) ∧ w'.cell? ⟨g1, i * 2, none⟩ = some (.int .i64 (x.1 : Nat)) ∧ w'.cell? ⟨g1, i * 2 + 1, none⟩ = some (.int .i64 (x.2 : Nat))) [(0, 1), (1, 1), (2, 1), (3, 1), (4, 0), (5, 1), (6, 1), (7, 1), (8, 1), (9, 1), (10, 1), (12, 1), (16, 1), (11, 2), (13, 1), (14, 1), (15, 2), (17, 0), (18, 1), (19, 1), (20, 1), (21, 1), (22, 1), (23, 1), (25, 1), (29, 1), (30, 1), (31, 1), (33, 1), (38, 1), (40, 1), (24, 2), (26, 1), (27, 1), (28, 2), (32, 2), (34, 1), (35, 1), (36, 2), (37, 1), (39, 2), (41, 0), (42, 1), (43, 1), (44, 1)] (by kernel_rfl) (by kernel_rfl) ⟨c1, k0, k1, z1, z2⟩ ?_
        simp only [ordered, List.map_cons, List.map_nil, List.getD_cons_zero, List.getD_cons_succ]
        repeat (refine wpF_dry (fun K hK => ?_); go_simp; refine hK _ ?_; clear hK K)
        refine wpF_do ?_
        go_wp2_with fail
        refine ⟨⟨c1, k0, k1, z1, z2⟩, ?_⟩
        repeat (refine wpF_dry (fun K hK => ?_); go_simp; refine hK _ ?_; clear hK K)
        refine wpF_read (.slice (some ⟨g1, 0, none⟩) a.holes.length cc) rfl (fun w' hS => by obtain ⟨s1, s2, s3, s4, s5⟩ := hS; go_simp) (fun K hK => ?_)
        go_simp
        refine hK _ ?_
        clear hK K
        repeat (refine wpF_dry (fun K hK => ?_); go_simp; refine hK _ ?_; clear hK K)
        refine wpF_read (.int .i64 (x.1 : Nat)) rfl (fun w' hS => by obtain ⟨s1, s2, s3, s4, s5⟩ := hS; go_simp) (fun K hK => ?_)
        go_simp
        refine hK _ ?_
        clear hK K
        refine wpF_do ?_
        go_wp2_with fail
        refine ⟨⟨c1, k0, k1, z1, z2⟩, ?_⟩
        repeat (refine wpF_dry (fun K hK => ?_); go_simp; refine hK _ ?_; clear hK K)
        refine wpF_skip (fun K hK => ?_)
        go_simp
        first | refine hK _ ?_ | refine ⟨(fun hh => by cases hh), hK _ ?_⟩
        clear hK K
        repeat (refine wpF_dry (fun K hK => ?_); go_simp; refine hK _ ?_; clear hK K)
        refine wpF_skip (fun K hK => ?_)
        go_simp
        first | refine hK _ ?_ | refine ⟨(fun hh => by cases hh), hK _ ?_⟩
        clear hK K
        refine wpF_skip (fun K hK => ?_)
        go_simp
        first | refine hK _ ?_ | refine ⟨(fun hh => by cases hh), hK _ ?_⟩
        clear hK K
        repeat (refine wpF_dry (fun K hK => ?_); go_simp; refine hK _ ?_; clear hK K)
        refine wpF_skip (fun K hK => ?_)
        go_simp
        first | refine hK _ ?_ | refine ⟨(fun hh => by cases hh), hK _ ?_⟩
        clear hK K
        repeat (refine wpF_dry (fun K hK => ?_); go_simp; refine hK _ ?_; clear hK K)
        refine wpF_skip (fun K hK => ?_)
        go_simp
        first | refine hK _ ?_ | refine ⟨(fun hh => by cases hh), hK _ ?_⟩
        clear hK K
        refine wpF_do ?_
        go_wp2_with fail
        refine ⟨⟨c1, k0, k1, z1, z2⟩, ?_⟩
        repeat (refine wpF_dry (fun K hK => ?_); go_simp; refine hK _ ?_; clear hK K)
        refine wpF_nil ?_
        go_wp2
        go_ret
        rw [TT.out, E.out, if_neg (by decide)]
        exact ⟨rfl, B2.out.drew⟩
      · by_cases q2 : r < fs
        · have E : Hid (a.takeE fn sn = 8) := by have := HFS.out; have := HR.out; unfold Hid; rw [GE.out, if_neg (by omega)]
          have d1 : decide (fn < x.1) = false := by simpa using q1
          have d2 : decide (r < fs) = true := by simpa using q2
          clear q1 q2 hx
          go_wp2_with fail
          refine wp_region_flag (fun w' => w'.cell? ⟨g, 1, none⟩ = some (.slice (some ⟨g1, 0, none⟩) a.holes.length cc) ∧ w'.cell? ⟨w.heap.size, 0, none⟩ = some (.int .i64 (fn : Nat)) ∧ w'.cell? ⟨w.heap.size, 1, none⟩ = some (.int .i64 (sn : Nat)) ∧ w'.cell? ⟨g1, i * 2, none⟩ = some (.int .i64 (x.1 : Nat)) ∧ w'.cell? ⟨g1, i * 2 + 1, none⟩ = some (.int .i64 (x.2 : Nat))) [(0, 1), (1, 1), (2, 1), (3, 1), (4, 0), (5, 1), (6, 1), (7, 1), (8, 1), (9, 1), (10, 1), (12, 1), (16, 1), (11, 2), (13, 1), (14, 1), (15, 2), (17, 0), (18, 1), (19, 1), (20, 1), (21, 1), (22, 1), (23, 1), (25, 1), (29, 1), (30, 1), (31, 1), (33, 1), (38, 1), (40, 1), (24, 2), (26, 1), (27, 1), (28, 2), (32, 2), (34, 1), (35, 1), (36, 2), (37, 1), (39, 2), (41, 0), (42, 1), (43, 1), (44, 1)] (by kernel_rfl) (by kernel_rfl) ⟨c1, k0, k1, z1, z2⟩ ?_
          simp only [ordered, List.map_cons, List.map_nil, List.getD_cons_zero, List.getD_cons_succ]
          repeat (refine wpF_dry (fun K hK => ?_); go_simp; refine hK _ ?_; clear hK K)
          refine wpF_do ?_
          go_wp2_with fail
          refine ⟨⟨c1, k0, k1, z1, z2⟩, ?_⟩
          repeat (refine wpF_dry (fun K hK => ?_); go_simp; refine hK _ ?_; clear hK K)
          refine wpF_read (.slice (some ⟨g1, 0, none⟩) a.holes.length cc) rfl (fun w' hS => by obtain ⟨s1, s2, s3, s4, s5⟩ := hS; go_simp) (fun K hK => ?_)
          go_simp
          refine hK _ ?_
          clear hK K
          repeat (refine wpF_dry (fun K hK => ?_); go_simp; refine hK _ ?_; clear hK K)
          refine wpF_read (.int .i64 (x.1 : Nat)) rfl (fun w' hS => by obtain ⟨s1, s2, s3, s4, s5⟩ := hS; go_simp) (fun K hK => ?_)
          go_simp
          refine hK _ ?_
          clear hK K
          refine wpF_do ?_
          go_wp2_with fail
          refine ⟨⟨c1, k0, k1, z1, z2⟩, ?_⟩
          repeat (refine wpF_dry (fun K hK => ?_); go_simp; refine hK _ ?_; clear hK K)
          refine wpF_read (.slice (some ⟨g1, 0, none⟩) a.holes.length cc) rfl (fun w' hS => by obtain ⟨s1, s2, s3, s4, s5⟩ := hS; go_simp) (fun K hK => ?_)
          go_simp
          refine hK _ ?_
          clear hK K
          repeat (refine wpF_dry (fun K hK => ?_); go_simp; refine hK _ ?_; clear hK K)
          refine wpF_read (.int .i64 (x.1 : Nat)) rfl (fun w' hS => by obtain ⟨s1, s2, s3, s4, s5⟩ := hS; go_simp) (fun K hK => ?_)
          go_simp
          refine hK _ ?_
          clear hK K
          refine wpF_read (.slice (some ⟨g1, 0, none⟩) a.holes.length cc) rfl (fun w' hS => by obtain ⟨s1, s2, s3, s4, s5⟩ := hS; go_simp) (fun K hK => ?_)
          go_simp
          refine hK _ ?_
          clear hK K
          repeat (refine wpF_dry (fun K hK => ?_); go_simp; refine hK _ ?_; clear hK K)
          refine wpF_read (.int .i64 (x.2 : Nat)) rfl (fun w' hS => by obtain ⟨s1, s2, s3, s4, s5⟩ := hS; go_simp) (fun K hK => ?_)
          go_simp
          refine hK _ ?_
          clear hK K
          repeat (refine wpF_dry (fun K hK => ?_); go_simp; refine hK _ ?_; clear hK K)
          refine wpF_read (.int .i64 (fn : Nat)) rfl (fun w' hS => by obtain ⟨s1, s2, s3, s4, s5⟩ := hS; go_simp) (fun K hK => ?_)
          go_simp
          refine hK _ ?_
          clear hK K
          refine wpF_do ?_
          go_wp2_with fail
          refine ⟨⟨c1, k0, k1, z1, z2⟩, ?_⟩
          repeat (refine wpF_dry (fun K hK => ?_); go_simp; refine hK _ ?_; clear hK K)
          refine wpF_nil ?_
          go_wp2
          go_ret
          rw [TT.out, E.out, if_neg (by decide)]
          exact ⟨rfl, B2.out.drew⟩
        · have E : Hid (a.takeE fn sn = 0) := by have := HFS.out; have := HR.out; unfold Hid; rw [GE.out, if_pos (by omega)]
          have d1 : decide (fn < x.1) = false := by simpa using q1
          have d2 : decide (r < fs) = false := by simpa using q2
          have CU := Lib.hid (cut_any w2.drew F g a _ ((H.out.below B2.out).below (Below.refl _ _).drew) i hil fn sn (by rw [← HXX.out]; omega) (by have := HBD.out; omega) (by have := HFS.out; have := HR.out; rw [← HXX.out]; omega))
          clear q1 q2 hx
          go_wp2_with fail
          refine wp_region_flag (fun w' => w'.cell? ⟨g, 1, none⟩ = some (.slice (some ⟨g1, 0, none⟩) a.holes.length cc) ∧ w'.cell? ⟨w.heap.size, 0, none⟩ = some (.int .i64 (fn : Nat)) ∧ w'.cell? ⟨w.heap.size, 1, none⟩ = some (.int .i64 (sn : Nat)) ∧ w'.cell? ⟨g1, i * 2, none⟩ = some (.int .i64 (x.1 : Nat)) ∧ w'.cell? ⟨g1, i * 2 + 1, none⟩ = some (.int .i64 (x.2 : Nat))) [(0, 1), (1, 1), (2, 1), (3, 1), (4, 0), (5, 1), (6, 1), (7, 1), (8, 1), (9, 1), (10, 1), (12, 1), (16, 1), (11, 2), (13, 1), (14, 1), (15, 2), (17, 0), (18, 1), (19, 1), (20, 1), (21, 1), (22, 1), (23, 1), (25, 1), (29, 1), (30, 1), (31, 1), (33, 1), (38, 1), (40, 1), (24, 2), (26, 1), (27, 1), (28, 2), (32, 2), (34, 1), (35, 1), (36, 2), (37, 1), (39, 2), (41, 0), (42, 1), (43, 1), (44, 1)] (by kernel_rfl) (by kernel_rfl) ⟨c1, k0, k1, z1, z2⟩ ?_
          simp only [ordered, List.map_cons, List.map_nil, List.getD_cons_zero, List.getD_cons_succ]
          repeat (refine wpF_dry (fun K hK => ?_); go_simp; refine hK _ ?_; clear hK K)
          refine wpF_do ?_
          go_wp2_with fail
          refine ⟨⟨c1, k0, k1, z1, z2⟩, ?_⟩
          repeat (refine wpF_dry (fun K hK => ?_); go_simp; refine hK _ ?_; clear hK K)
          refine wpF_read (.slice (some ⟨g1, 0, none⟩) a.holes.length cc) rfl (fun w' hS => by obtain ⟨s1, s2, s3, s4, s5⟩ := hS; go_simp) (fun K hK => ?_)
          go_simp
          refine hK _ ?_
          clear hK K
          repeat (refine wpF_dry (fun K hK => ?_); go_simp; refine hK _ ?_; clear hK K)
          refine wpF_read (.int .i64 (x.1 : Nat)) rfl (fun w' hS => by obtain ⟨s1, s2, s3, s4, s5⟩ := hS; go_simp) (fun K hK => ?_)
          go_simp
          refine hK _ ?_
          clear hK K
          refine wpF_do ?_
          go_wp2_with fail
          refine ⟨⟨c1, k0, k1, z1, z2⟩, ?_⟩
          repeat (refine wpF_dry (fun K hK => ?_); go_simp; refine hK _ ?_; clear hK K)
          refine wpF_read (.slice (some ⟨g1, 0, none⟩) a.holes.length cc) rfl (fun w' hS => by obtain ⟨s1, s2, s3, s4, s5⟩ := hS; go_simp) (fun K hK => ?_)
          go_simp
          refine hK _ ?_
          clear hK K
          repeat (refine wpF_dry (fun K hK => ?_); go_simp; refine hK _ ?_; clear hK K)
          refine wpF_read (.int .i64 (x.1 : Nat)) rfl (fun w' hS => by obtain ⟨s1, s2, s3, s4, s5⟩ := hS; go_simp) (fun K hK => ?_)
          go_simp
          refine hK _ ?_
          clear hK K
          refine wpF_read (.slice (some ⟨g1, 0, none⟩) a.holes.length cc) rfl (fun w' hS => by obtain ⟨s1, s2, s3, s4, s5⟩ := hS; go_simp) (fun K hK => ?_)
          go_simp
          refine hK _ ?_
          clear hK K
          repeat (refine wpF_dry (fun K hK => ?_); go_simp; refine hK _ ?_; clear hK K)
          refine wpF_read (.int .i64 (x.2 : Nat)) rfl (fun w' hS => by obtain ⟨s1, s2, s3, s4, s5⟩ := hS; go_simp) (fun K hK => ?_)
          go_simp
          refine hK _ ?_
          clear hK K
          repeat (refine wpF_dry (fun K hK => ?_); go_simp; refine hK _ ?_; clear hK K)
          refine wpF_read (.int .i64 (fn : Nat)) rfl (fun w' hS => by obtain ⟨s1, s2, s3, s4, s5⟩ := hS; go_simp) (fun K hK => ?_)
          go_simp
          refine hK _ ?_
          clear hK K
          refine wpF_do ?_
          go_wp2_with fail
          refine ⟨⟨c1, k0, k1, z1, z2⟩, ?_⟩
          repeat (refine wpF_dry (fun K hK => ?_); go_simp; refine hK _ ?_; clear hK K)
          refine wpF_nil ?_
          go_wp2_with fail
          refine CU.out.mono ?_
          rintro e w3 ⟨rfl, F', ht⟩
          have HT := Lib.hid (ht.lift B2.out.drew)
          clear ht CU
          go_wp2
          go_ret
          rw [TT.out, E.out, if_pos rfl]
          exact ⟨rfl, F', HT.out⟩
    · have hie : i = a.holes.length := by omega
      have E : Hid (a.takeE fn sn = 8) := by unfold Hid; rw [GE.out, if_neg (fun h => hil h.1)]
      have d0 : (i == a.holes.length) = true := by simpa using hie
      have d0' : ((i : Int) == (a.holes.length : Int)) = true := by simp; omega
      have HIE := Lib.hid hie
      clear hie hil
      go_wp2_with fail
      refine wp_region_flag (fun w' => w'.cell? ⟨g, 1, none⟩ = some (.slice A a.holes.length cc) ∧ w'.cell? ⟨w.heap.size, 0, none⟩ = some (.int .i64 (fn : Nat)) ∧ w'.cell? ⟨w.heap.size, 1, none⟩ = some (.int .i64 (sn : Nat))) [(0, 1), (1, 1), (2, 1), (3, 1), (4, 0), (5, 1), (6, 1), (7, 1), (8, 1), (9, 1), (10, 1), (12, 1), (16, 1), (11, 2), (13, 1), (14, 1), (15, 2), (17, 0), (18, 1), (19, 1), (20, 1), (21, 1), (22, 1), (23, 1), (25, 1), (29, 1), (30, 1), (31, 1), (33, 1), (38, 1), (40, 1), (24, 2), (26, 1), (27, 1), (28, 2), (32, 2), (34, 1), (35, 1), (36, 2), (37, 1), (39, 2), (41, 0), (42, 1), (43, 1), (44, 1)] (by kernel_rfl) (by kernel_rfl) ⟨c1, k0, k1⟩ ?_
      simp only [ordered, List.map_cons, List.map_nil, List.getD_cons_zero, List.getD_cons_succ]
      repeat (refine wpF_dry (fun K hK => ?_); go_simp; refine hK _ ?_; clear hK K)
      refine wpF_do ?_
      go_wp2_with fail
      refine ⟨⟨c1, k0, k1⟩, ?_⟩
      repeat (refine wpF_dry (fun K hK => ?_); go_simp; refine hK _ ?_; clear hK K)
      refine wpF_skip (fun K hK => ?_)
      go_simp
      first | refine hK _ ?_ | refine ⟨(fun hh => by cases hh), hK _ ?_⟩
      clear hK K
      repeat (refine wpF_dry (fun K hK => ?_); go_simp; refine hK _ ?_; clear hK K)
      refine wpF_skip (fun K hK => ?_)
      go_simp
      first | refine hK _ ?_ | refine ⟨(fun hh => by cases hh), hK _ ?_⟩
      clear hK K
      refine wpF_do ?_
      go_wp2_with fail
      refine ⟨⟨c1, k0, k1⟩, ?_⟩
      repeat (refine wpF_dry (fun K hK => ?_); go_simp; refine hK _ ?_; clear hK K)
      refine wpF_skip (fun K hK => ?_)
      go_simp
      first | refine hK _ ?_ | refine ⟨(fun hh => by cases hh), hK _ ?_⟩
      clear hK K
      repeat (refine wpF_dry (fun K hK => ?_); go_simp; refine hK _ ?_; clear hK K)
      refine wpF_skip (fun K hK => ?_)
      go_simp
      first | refine hK _ ?_ | refine ⟨(fun hh => by cases hh), hK _ ?_⟩
      clear hK K
      refine wpF_skip (fun K hK => ?_)
      go_simp
      first | refine hK _ ?_ | refine ⟨(fun hh => by cases hh), hK _ ?_⟩
      clear hK K
      repeat (refine wpF_dry (fun K hK => ?_); go_simp; refine hK _ ?_; clear hK K)
      refine wpF_skip (fun K hK => ?_)
      go_simp
      first | refine hK _ ?_ | refine ⟨(fun hh => by cases hh), hK _ ?_⟩
      clear hK K
      repeat (refine wpF_dry (fun K hK => ?_); go_simp; refine hK _ ?_; clear hK K)
      refine wpF_skip (fun K hK => ?_)
      go_simp
      first | refine hK _ ?_ | refine ⟨(fun hh => by cases hh), hK _ ?_⟩
      clear hK K
      refine wpF_do ?_
      go_wp2_with fail
      refine ⟨⟨c1, k0, k1⟩, ?_⟩
      repeat (refine wpF_dry (fun K hK => ?_); go_simp; refine hK _ ?_; clear hK K)
      refine wpF_nil ?_
      go_wp2
      go_ret
      rw [TT.out, E.out, if_neg (by decide)]
      exact ⟨rfl, B2.out.drew⟩
end Go.Proofs.Ythloinmnojlleaa
