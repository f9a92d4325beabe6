/- ExtG: the walk of Alloc (written by gen_ext.py). -/
import Derived.Test.YthloinmnojlleaaExtF
set_option linter.unusedVariables false
set_option linter.unusedSimpArgs false
namespace Go.Proofs.Ythloinmnojlleaa
open Go.RowKit

set_option maxHeartbeats 1600000 in
theorem better_next (w : World) (F : Nat → Prop) (g : Nat) (a : Ar) (v : Value) (h : IsAr w F g a v) {bx : Nat} (hb : w.cell? ⟨bx, 0, none⟩ = some (.pointer (some ⟨g, 0, none⟩))) (f s f2 s2 : Int) :
    Calls Try.prog 48 #[.agg #[.int .i64 f, .int .i64 s], .agg #[.int .i64 f2, .int .i64 s2], .pointer (some ⟨bx, 0, none⟩)] w fun e w' => e = .returned (.bool (decide ((a.next : Int) ≤ f) && decide (f2 < (a.next : Int)))) ∧ Below w.heap.size w w' := by
  have B2 : Hid (Below w.heap.size w ((w.alloc (.cells #[.int .i64 f, .int .i64 s] 30)).alloc (.cells #[.int .i64 f2, .int .i64 s2] 30))) := ((Below.refl _ w).alloc (Nat.le_refl _) _).alloc (by simp) _
  obtain ⟨_, _, c2⟩ := h.cells
  have c2 := cell_below B2.out c2
  have hb2 := cell_below B2.out hb
  have r0 := blk_alloc (blk_new w (.cells #[.int .i64 f, .int .i64 s] 30)) (.cells #[.int .i64 f2, .int .i64 s2] 30)
  have r1 := blk_new (w.alloc (.cells #[.int .i64 f, .int .i64 s] 30)) (.cells #[.int .i64 f2, .int .i64 s2] 30)
  rw [World.size_alloc] at r1
  have k0 := blk_cell r0 0; have k1 := blk_cell r1 0
  simp only [List.getElem?_toArray, List.getElem?_cons_zero, List.getElem?_cons_succ] at k0 k1
  clear h r0 r1 hb
  by_cases q : (a.next : Int) ≤ f
  · have d : decide ((a.next : Int) ≤ f) = true := by simpa using q
    have HV : Hid ((decide ((a.next : Int) ≤ f) && decide (f2 < (a.next : Int))) = decide (f2 < (a.next : Int))) := by unfold Hid; rw [d]; rfl
    go_enter Try.func48, Try.ntmps48
    go_wp2_with fail
    refine wp_region_flag (fun w' => w'.cell? ⟨w.heap.size, 0, none⟩ = some (.int .i64 f) ∧ w'.cell? ⟨w.heap.size + 1, 0, none⟩ = some (.int .i64 f2)) [(0, 1), (1, 2), (2, 0), (3, 1), (4, 1), (5, 0), (6, 1), (7, 1), (8, 1), (9, 2), (10, 0), (11, 1), (12, 1), (13, 0), (14, 1), (15, 1), (16, 1)] (by kernel_rfl) (by kernel_rfl) ⟨k0, k1⟩ ?_
    simp only [ordered, List.map_cons, List.map_nil, List.getD_cons_zero, List.getD_cons_succ]
    repeat (refine wpF_dry (fun K hK => ?_); go_simp; refine hK _ ?_; clear hK K)
    refine wpF_read (.int .i64 f) rfl (fun w' hS => by obtain ⟨s1, s2⟩ := hS; go_simp) (fun K hK => ?_)
    go_simp
    refine hK _ ?_
    clear hK K
    refine wpF_do ?_
    go_wp2_with fail
    refine ⟨⟨k0, k1⟩, ?_⟩
    repeat (refine wpF_dry (fun K hK => ?_); go_simp; refine hK _ ?_; clear hK K)
    refine wpF_do ?_
    go_wp2_with fail
    refine ⟨⟨k0, k1⟩, ?_⟩
    repeat (refine wpF_dry (fun K hK => ?_); go_simp; refine hK _ ?_; clear hK K)
    refine wpF_read (.int .i64 f2) rfl (fun w' hS => by obtain ⟨s1, s2⟩ := hS; go_simp) (fun K hK => ?_)
    go_simp
    refine hK _ ?_
    clear hK K
    refine wpF_do ?_
    go_wp2_with fail
    refine ⟨⟨k0, k1⟩, ?_⟩
    repeat (refine wpF_dry (fun K hK => ?_); go_simp; refine hK _ ?_; clear hK K)
    refine wpF_do ?_
    go_wp2_with fail
    refine ⟨⟨k0, k1⟩, ?_⟩
    repeat (refine wpF_dry (fun K hK => ?_); go_simp; refine hK _ ?_; clear hK K)
    refine wpF_nil ?_
    go_wp2
    go_ret
    exact ⟨by rw [HV.out]; rfl, B2.out.drew⟩
  · have d : decide ((a.next : Int) ≤ f) = false := by simpa using q
    have HV : Hid ((decide ((a.next : Int) ≤ f) && decide (f2 < (a.next : Int))) = false) := by unfold Hid; rw [d]; rfl
    go_enter Try.func48, Try.ntmps48
    go_wp2_with fail
    refine wp_region_flag (fun w' => w'.cell? ⟨w.heap.size, 0, none⟩ = some (.int .i64 f) ∧ w'.cell? ⟨w.heap.size + 1, 0, none⟩ = some (.int .i64 f2)) [(0, 1), (1, 2), (2, 0), (3, 1), (4, 1), (5, 0), (6, 1), (7, 1), (8, 1), (9, 2), (10, 0), (11, 1), (12, 1), (13, 0), (14, 1), (15, 1), (16, 1)] (by kernel_rfl) (by kernel_rfl) ⟨k0, k1⟩ ?_
    simp only [ordered, List.map_cons, List.map_nil, List.getD_cons_zero, List.getD_cons_succ]
    repeat (refine wpF_dry (fun K hK => ?_); go_simp; refine hK _ ?_; clear hK K)
    refine wpF_read (.int .i64 f) rfl (fun w' hS => by obtain ⟨s1, s2⟩ := hS; go_simp) (fun K hK => ?_)
    go_simp
    refine hK _ ?_
    clear hK K
    refine wpF_do ?_
    go_wp2_with fail
    refine ⟨⟨k0, k1⟩, ?_⟩
    repeat (refine wpF_dry (fun K hK => ?_); go_simp; refine hK _ ?_; clear hK K)
    refine wpF_do ?_
    go_wp2_with fail
    refine ⟨⟨k0, k1⟩, ?_⟩
    repeat (refine wpF_dry (fun K hK => ?_); go_simp; refine hK _ ?_; clear hK K)
    refine wpF_skip (fun K hK => ?_)
    go_simp
    first | refine hK _ ?_ | refine ⟨(fun hh => by cases hh), hK _ ?_⟩
    clear hK K
    refine wpF_do ?_
    go_wp2_with fail
    refine ⟨⟨k0, k1⟩, ?_⟩
    repeat (refine wpF_dry (fun K hK => ?_); go_simp; refine hK _ ?_; clear hK K)
    refine wpF_do ?_
    go_wp2_with fail
    refine ⟨⟨k0, k1⟩, ?_⟩
    repeat (refine wpF_dry (fun K hK => ?_); go_simp; refine hK _ ?_; clear hK K)
    refine wpF_nil ?_
    go_wp2
    go_ret
    exact ⟨by rw [HV.out]; rfl, B2.out.drew⟩

/-- Is one hole chosen over another one? -/
def bet (r : Nat) (nx : Nat) (x y : Nat × Nat) : Bool := if r = 1 then decide (x.2 < y.2) else if r = 2 then decide (y.2 < x.2) else if r = 3 then decide (nx ≤ x.1) && decide (y.1 < nx) else false
/-- The hole that is chosen of the first k. -/
def choose (L : List (Nat × Nat)) (n : Nat) (b : Nat × Nat → Nat × Nat → Bool) : Nat → Option Nat
  | 0 => none
  | k + 1 => match choose L n b k with
    | none => if n ≤ (L.getD k (0, 0)).2 then some k else none
    | some j => if n ≤ (L.getD k (0, 0)).2 ∧ b (L.getD k (0, 0)) (L.getD j (0, 0)) = true then some k else some j
def chI : Option Nat → Int
  | none => -1
  | some j => j
theorem choose_lt {L : List (Nat × Nat)} {n : Nat} {b : Nat × Nat → Nat × Nat → Bool} : ∀ {k j : Nat}, choose L n b k = some j → j < k ∧ n ≤ (L.getD j (0, 0)).2
  | k + 1, j, h => by
    unfold choose at h
    split at h
    · split at h
      · rename_i hn; cases h; exact ⟨by omega, hn⟩
      · cases h
    · rename_i j' hj
      have ih := choose_lt hj
      split at h
      · rename_i hn; cases h; exact ⟨by omega, hn.1⟩
      · cases h; exact ⟨by omega, ih.2⟩
theorem choose_no {L : List (Nat × Nat)} {n : Nat} {b : Nat × Nat → Nat × Nat → Bool} {k : Nat} (hk : k < L.length) (h : ¬ n ≤ L[k].2) : choose L n b (k + 1) = choose L n b k := by
  have e : L.getD k (0, 0) = L[k] := by simp [hk]
  conv => lhs; unfold choose
  rw [e]
  split
  · rename_i hc; rw [if_neg h, hc]
  · rename_i j hc; rw [if_neg (fun x => h x.1), hc]
theorem choose_first {L : List (Nat × Nat)} {n : Nat} {b : Nat × Nat → Nat × Nat → Bool} {k : Nat} (hk : k < L.length) (h : n ≤ L[k].2) (hc : choose L n b k = none) : choose L n b (k + 1) = some k := by
  have e : L.getD k (0, 0) = L[k] := by simp [hk]
  conv => lhs; unfold choose
  rw [e, hc]
  simp [h]
theorem choose_next {L : List (Nat × Nat)} {n : Nat} {b : Nat × Nat → Nat × Nat → Bool} {k j : Nat} (hk : k < L.length) (hj : j < L.length) (h : n ≤ L[k].2) (hc : choose L n b k = some j) (v : Bool) (hv : b L[k] L[j] = v) : choose L n b (k + 1) = if v then some k else some j := by
  have e : L.getD k (0, 0) = L[k] := by simp [hk]
  have e2 : L.getD j (0, 0) = L[j] := by simp [hj]
  conv => lhs; unfold choose
  rw [e, hc]
  simp only [e2, hv, h, true_and]
end Go.Proofs.Ythloinmnojlleaa
