/- JnH: the walks of layAll, at Commit's two places (written by gen_com.py). -/
import Derived.Test.YtpaabfadniakoaaMp07
set_option linter.unusedVariables false
set_option linter.unusedSimpArgs false
namespace Go.Proofs.Ytpaabfadniakoaa
open Go.RowKit

theorem c2_any (W : World) (i : Nat) (hi : i ≤ 128) : Calls Try.prog 50 #[.int .i64 (i : Int)] W fun e w' => e = .returned (.int .i64 ((1 + 4 * i : Nat) : Int)) ∧ W = w' := by
  have e1 : ((1 + 4 * i : Nat) : Int) = 1 + 4 * (i : Int) := by omega
  rw [e1]
  clear e1
  go_enter Try.func50, Try.ntmps50
  go_wp2
  go_ret
  exact ⟨rfl, rfl⟩
def stepsA (l : List Chg) : List Stp := l.flatMap (fun c => laid ((1 + 4 * c.1 : Nat) : Int) c.2)
def stepsB (P : Nat) (l : List Chg) : List Stp := l.flatMap (fun c => laid ((1 + 4 * (P + c.1) : Nat) : Int) c.2)
theorem stepsA_take {l : List Chg} {k : Nat} (h : k < l.length) : stepsA (l.take (k + 1)) = stepsA (l.take k) ++ laid ((1 + 4 * l[k].1 : Nat) : Int) l[k].2 := by
  rw [List.take_succ_eq_append_getElem h, stepsA, List.flatMap_append]; simp [stepsA]
theorem stepsB_take (P : Nat) {l : List Chg} {k : Nat} (h : k < l.length) : stepsB P (l.take (k + 1)) = stepsB P (l.take k) ++ laid ((1 + 4 * (P + l[k].1) : Nat) : Int) l[k].2 := by
  rw [List.take_succ_eq_append_getElem h, stepsB, List.flatMap_append]; simp [stepsB]
theorem stepsA_len (l : List Chg) : (stepsA l).length = 4 * l.length := by
  induction l with
  | nil => rfl
  | cons x l ih => show (laid _ _ ++ stepsA l).length = _; rw [List.length_append, ih, laid, layK_len, List.length_cons]; omega
theorem stepsB_len (P : Nat) (l : List Chg) : (stepsB P l).length = 4 * l.length := by
  induction l with
  | nil => rfl
  | cons x l ih => show (laid _ _ ++ stepsB P l).length = _; rw [List.length_append, ih, laid, layK_len, List.length_cons]; omega
theorem stepsA_more (l : List Chg) (k : Nat) : ∃ r, stepsA l = stepsA (l.take k) ++ r := ⟨stepsA (l.drop k), by rw [stepsA, stepsA, stepsA, ← List.flatMap_append, List.take_append_drop]⟩
theorem stepsB_more (P : Nat) (l : List Chg) (k : Nat) : ∃ r, stepsB P l = stepsB P (l.take k) ++ r := ⟨stepsB P (l.drop k), by rw [stepsB, stepsB, stepsB, ← List.flatMap_append, List.take_append_drop]⟩
set_option maxHeartbeats 3200000 in
set_option maxRecDepth 100000 in
theorem layAllA_any (w : World) (F : Nat → Prop) (gj g P : Nat) (d : Dk) (h : HasDisk w F g d) (hj : Jb w gj g P) (hF : ¬ F gj) (hP : P ≤ 128) (l : List Chg) (b c : Nat) (cur : Array Value) (hb : w.heap[b]? = some (.cells cur 44 (0, 0))) (hFb : ¬ F b)
    (hcs : ∀ j (h : j < l.length), cur[j * 2]? = some (.int .i64 (l[j].1 : Int)) ∧ cur[j * 2 + 1]? = some (.string l[j].2)) (hS : ∀ x ∈ l, x.1 ≤ 127 ∧ x.2.size = 1024) (hf : Fw (4 * l.length) d) (hn : l.length ≤ 1000000) :
    Calls Try.prog 49 #[.pointer (some ⟨gj, 0, none⟩), .slice (some ⟨b, 0, none⟩) l.length c, .func (.func 50) #[] #[]] w fun e w' => JTo w F g d (stepsA l) e w' := by
  have H0 : Hid (DTo w F g d w F) := DTo.self h
  have HJ := Lib.hid hj; have HF := Lib.hid hF; have FW := Lib.hid hf; have HB := Lib.hid hb; have HFB := Lib.hid hFb; have HCS := Lib.hid hcs; have HS := Lib.hid hS
  clear h hj hF hf hb hFb hcs hS
  go_enter Try.func49, Try.ntmps49
  go_wp2_with fail
  go_loopw [12] (fun i wr => ∃ (k : Nat) (F' : Nat → Prop), k ≤ l.length ∧ i = .int .i64 k ∧ Hid ((run d (stepsA (l.take k))).2 = 0) ∧ Hid (DTo w F g (run d (stepsA (l.take k))).1 wr F')) (fun i _ => l.length - (intOf i).toNat)
  case atStart => exact ⟨0, F, Nat.zero_le _, rfl, rfl, H0⟩
  case round =>
    obtain ⟨k, F', hk, rfl, he, ht⟩ := hrel
    by_cases hlt : k < l.length
    · have hB := blk_touch ht.out.touch HB.out HFB.out
      obtain ⟨x0, x1⟩ := HCS.out k hlt
      have z0 := blk_cell hB (k * 2)
      have z1 := blk_cell hB (k * 2 + 1)
      rw [x0] at z0
      rw [x1] at z1
      obtain ⟨q1, q2⟩ := HS.out l[k] (List.getElem_mem hlt)
      have LK := Lib.hid (stepsA_take hlt)
      have FW2 : Hid (Fw (4 * (l.length - k)) (run d (stepsA (l.take k))).1) := fw_run _ (FW.out.mono (by rw [stepsA_len, List.length_take]; omega))
      have RS := fun b => Lib.hid (run_go he.out b)
      generalize hx : l[k] = x at z0 z1 q1 q2 LK
      obtain ⟨n, s⟩ := x
      simp only at z0 z1 q1 q2 LK
      have Q1 := Lib.hid q1
      obtain ⟨D, hD⟩ : ∃ D, D = (run d (stepsA (l.take k))).1 := ⟨_, rfl⟩
      rw [← hD] at FW2 ht RS
      have T1 : Hid (DTo w F g D (wr.alloc (.cells #[.int .i64 (n : Int), .string s] 44)).drew F') := ht.out.post ((Below.refl _ wr).alloc (Nat.le_refl _) _).drew
      have J1 : Hid (Jb (wr.alloc (.cells #[.int .i64 (n : Int), .string s] 44)).drew gj g P) := HJ.out.touch T1.out.touch HF.out
      have NF : Hid (¬ F' gj) := fun hh => by
        rcases ht.out.new gj hh with hh | hh
        · exact HF.out hh
        · exact absurd (lt_of_block HJ.out) (by omega)
      have N2 : Hid (¬ F' wr.heap.size) := fun hh => by
        have := ht.out.has.lt _ hh
        omega
      have g2 := blk_new wr (.cells #[.int .i64 (n : Int), .string s] 44)
      have G2 := Lib.hid g2
      have y0 : (wr.alloc (.cells #[.int .i64 (n : Int), .string s] 44)).drew.cell? ⟨wr.heap.size, 0, none⟩ = some (.int .i64 (n : Int)) := blk_cell g2 0
      have y1 : (wr.alloc (.cells #[.int .i64 (n : Int), .string s] 44)).drew.cell? ⟨wr.heap.size, 1, none⟩ = some (.string s) := blk_cell g2 1
      have PL := Lib.hid (c2_any (wr.alloc (.cells #[.int .i64 (n : Int), .string s] 44)).drew n (by omega))
      obtain ⟨q, hq⟩ : ∃ q : Nat, q = 1 + 4 * n := ⟨_, rfl⟩
      have hq4 : q ≤ 4096 := by omega
      rw [← hq] at PL LK
      have LY := Lib.hid (lay_any (wr.alloc (.cells #[.int .i64 (n : Int), .string s] 44)).drew F' gj g P D T1.out.has J1.out NF.out (FW2.out.mono (by omega)) q hq4 s q2)
      clear hB x0 x1 q1 q2 hx g2 hq
      unfold JTo at LY
      obtain ⟨r, hr⟩ : ∃ r, r = run D (laid (q : Int) s) := ⟨_, rfl⟩
      rw [← hr] at LY
      have HR := Lib.hid hr
      clear hr hD
      by_cases hw : r.2 = 0
      · have HW := Lib.hid hw
        rw [hw] at LY
        clear hw
        go_wp2_with fail
        refine wp_region_flag (fun w' => w'.cell? ⟨wr.heap.size, 0, none⟩ = some (.int .i64 (n : Int)) ∧ w'.cell? ⟨wr.heap.size, 1, none⟩ = some (.string s)) [(0, 1), (1, 1), (2, 1), (5, 1), (3, 2), (6, 2), (4, 0), (7, 0), (8, 1)] (by kernel_rfl) (by kernel_rfl) ⟨y0, y1⟩ ?_
        simp only [ordered, List.map_cons, List.map_nil, List.getD_cons_zero, List.getD_cons_succ]
        repeat (refine wpF_dry (fun K hK => ?_); go_simp; refine hK _ ?_; clear hK K)
        refine wpF_read (.int .i64 (n : Int)) rfl (fun w' hS => by obtain ⟨s1, s2⟩ := hS; go_simp) (fun K hK => ?_)
        go_simp
        refine hK _ ?_
        clear hK K
        refine wpF_read (.string s) rfl (fun w' hS => by obtain ⟨s1, s2⟩ := hS; go_simp) (fun K hK => ?_)
        go_simp
        refine hK _ ?_
        clear hK K
        refine wpF_do ?_
        go_wp2_with fail
        refine PL.out.mono ?_
        rintro e w3 ⟨rfl, rfl⟩
        clear PL
        go_wp2_with fail
        refine ⟨⟨y0, y1⟩, ?_⟩
        refine wpF_do ?_
        go_wp2_with fail
        refine LY.out.mono ?_
        rintro e w4 ⟨rfl, F4, ht4⟩
        have T4 : Hid (DTo w F g r.1 w4 F4) := T1.out.then ht4
        have g4 := blk_touch ht4.touch (show (wr.alloc (.cells #[.int .i64 (n : Int), .string s] 44)).drew.heap[wr.heap.size]? = _ from G2.out) N2.out
        have v0 : w4.cell? ⟨wr.heap.size, 0, none⟩ = some (.int .i64 (n : Int)) := blk_cell g4 0
        have v1 : w4.cell? ⟨wr.heap.size, 1, none⟩ = some (.string s) := blk_cell g4 1
        clear ht4 LY g4 y0 y1 z0 z1
        go_wp2_with fail
        refine ⟨⟨v0, v1⟩, ?_⟩
        repeat (refine wpF_dry (fun K hK => ?_); go_simp; refine hK _ ?_; clear hK K)
        refine wpF_nil ?_
        have R4 : Hid ((run d (stepsA (l.take (k + 1)))).2 = 0) := by unfold Hid; rw [LK.out, (RS _).out, ← HR.out, HW.out]
        have T5 : Hid (DTo w F g (run d (stepsA (l.take (k + 1)))).1 w4 F4) := by unfold Hid; rw [LK.out, (RS _).out, ← HR.out]; exact T4.out
        go_wp2
        go_roundw
        case rel => first | exact ⟨k + 1, F4, hlt, by go_num, R4, T5⟩ | ((repeat apply Exists.intro); refine ⟨?_, rfl⟩; exact ⟨k + 1, F4, hlt, by go_num, R4, T5⟩)
        case measure => simp [intOf]; omega
      · have R4 : Hid (run d (stepsA l) = r) := by
          obtain ⟨m, hm⟩ := stepsA_more l (k + 1)
          unfold Hid
          rw [hm, run_stop (by rw [LK.out, (RS _).out, ← HR.out]; exact hw), LK.out, (RS _).out, ← HR.out]
        clear HR
        obtain ⟨r1, r2⟩ := r
        simp only at hw LY
        have d0 : (r2 != 0) = true := by simpa using hw
        clear hw RS
        go_wp2_with fail
        refine wp_region_flag (fun w' => w'.cell? ⟨wr.heap.size, 0, none⟩ = some (.int .i64 (n : Int)) ∧ w'.cell? ⟨wr.heap.size, 1, none⟩ = some (.string s)) [(0, 1), (1, 1), (2, 1), (5, 1), (3, 2), (6, 2), (4, 0), (7, 0), (8, 1)] (by kernel_rfl) (by kernel_rfl) ⟨y0, y1⟩ ?_
        simp only [ordered, List.map_cons, List.map_nil, List.getD_cons_zero, List.getD_cons_succ]
        repeat (refine wpF_dry (fun K hK => ?_); go_simp; refine hK _ ?_; clear hK K)
        refine wpF_read (.int .i64 (n : Int)) rfl (fun w' hS => by obtain ⟨s1, s2⟩ := hS; go_simp) (fun K hK => ?_)
        go_simp
        refine hK _ ?_
        clear hK K
        refine wpF_read (.string s) rfl (fun w' hS => by obtain ⟨s1, s2⟩ := hS; go_simp) (fun K hK => ?_)
        go_simp
        refine hK _ ?_
        clear hK K
        refine wpF_do ?_
        go_wp2_with fail
        refine PL.out.mono ?_
        rintro e w3 ⟨rfl, rfl⟩
        clear PL
        go_wp2_with fail
        refine ⟨⟨y0, y1⟩, ?_⟩
        refine wpF_do ?_
        go_wp2_with fail
        refine LY.out.mono ?_
        rintro e w4 ⟨rfl, F4, ht4⟩
        have T4 : Hid (DTo w F g r1 w4 F4) := T1.out.then ht4
        have g4 := blk_touch ht4.touch (show (wr.alloc (.cells #[.int .i64 (n : Int), .string s] 44)).drew.heap[wr.heap.size]? = _ from G2.out) N2.out
        have v0 : w4.cell? ⟨wr.heap.size, 0, none⟩ = some (.int .i64 (n : Int)) := blk_cell g4 0
        have v1 : w4.cell? ⟨wr.heap.size, 1, none⟩ = some (.string s) := blk_cell g4 1
        clear ht4 LY g4 y0 y1 z0 z1
        go_wp2_with fail
        refine ⟨⟨v0, v1⟩, ?_⟩
        repeat (refine wpF_dry (fun K hK => ?_); go_simp; refine hK _ ?_; clear hK K)
        refine wpF_nil ?_
        go_wp2
        go_ret
        refine ⟨by rw [R4.out]; rfl, F4, ?_⟩
        rw [R4.out]
        exact T4.out
    · obtain rfl : k = l.length := by omega
      rw [List.take_length] at he ht
      go_wp2
      go_ret
      exact ⟨by rw [he.out]; rfl, F', ht.out⟩
set_option maxHeartbeats 3200000 in
set_option maxRecDepth 100000 in
theorem layAllB_any (w : World) (F : Nat → Prop) (gj g P : Nat) (d : Dk) (h : HasDisk w F g d) (hj : Jb w gj g P) (hF : ¬ F gj) (hP : P ≤ 128) (l : List Chg) (b c : Nat) (cur : Array Value) (hb : w.heap[b]? = some (.cells cur 44 (0, 0))) (hFb : ¬ F b)
    (hcs : ∀ j (h : j < l.length), cur[j * 2]? = some (.int .i64 (l[j].1 : Int)) ∧ cur[j * 2 + 1]? = some (.string l[j].2)) (hS : ∀ x ∈ l, x.1 ≤ 127 ∧ x.2.size = 1024) (hf : Fw (4 * l.length) d) (hn : l.length ≤ 1000000) :
    Calls Try.prog 49 #[.pointer (some ⟨gj, 0, none⟩), .slice (some ⟨b, 0, none⟩) l.length c, .func (.func 38) #[.pointer (some ⟨gj, 0, none⟩)] #[]] w fun e w' => JTo w F g d (stepsB P l) e w' := by
  have H0 : Hid (DTo w F g d w F) := DTo.self h
  have HJ := Lib.hid hj; have HF := Lib.hid hF; have FW := Lib.hid hf; have HB := Lib.hid hb; have HFB := Lib.hid hFb; have HCS := Lib.hid hcs; have HS := Lib.hid hS
  clear h hj hF hf hb hFb hcs hS
  go_enter Try.func49, Try.ntmps49
  go_wp2_with fail
  go_loopw [12] (fun i wr => ∃ (k : Nat) (F' : Nat → Prop), k ≤ l.length ∧ i = .int .i64 k ∧ Hid ((run d (stepsB P (l.take k))).2 = 0) ∧ Hid (DTo w F g (run d (stepsB P (l.take k))).1 wr F')) (fun i _ => l.length - (intOf i).toNat)
  case atStart => exact ⟨0, F, Nat.zero_le _, rfl, rfl, H0⟩
  case round =>
    obtain ⟨k, F', hk, rfl, he, ht⟩ := hrel
    by_cases hlt : k < l.length
    · have hB := blk_touch ht.out.touch HB.out HFB.out
      obtain ⟨x0, x1⟩ := HCS.out k hlt
      have z0 := blk_cell hB (k * 2)
      have z1 := blk_cell hB (k * 2 + 1)
      rw [x0] at z0
      rw [x1] at z1
      obtain ⟨q1, q2⟩ := HS.out l[k] (List.getElem_mem hlt)
      have LK := Lib.hid (stepsB_take P hlt)
      have FW2 : Hid (Fw (4 * (l.length - k)) (run d (stepsB P (l.take k))).1) := fw_run _ (FW.out.mono (by rw [stepsB_len, List.length_take]; omega))
      have RS := fun b => Lib.hid (run_go he.out b)
      generalize hx : l[k] = x at z0 z1 q1 q2 LK
      obtain ⟨n, s⟩ := x
      simp only at z0 z1 q1 q2 LK
      have Q1 := Lib.hid q1
      obtain ⟨D, hD⟩ : ∃ D, D = (run d (stepsB P (l.take k))).1 := ⟨_, rfl⟩
      rw [← hD] at FW2 ht RS
      have T1 : Hid (DTo w F g D (wr.alloc (.cells #[.int .i64 (n : Int), .string s] 44)).drew F') := ht.out.post ((Below.refl _ wr).alloc (Nat.le_refl _) _).drew
      have J1 : Hid (Jb (wr.alloc (.cells #[.int .i64 (n : Int), .string s] 44)).drew gj g P) := HJ.out.touch T1.out.touch HF.out
      have NF : Hid (¬ F' gj) := fun hh => by
        rcases ht.out.new gj hh with hh | hh
        · exact HF.out hh
        · exact absurd (lt_of_block HJ.out) (by omega)
      have N2 : Hid (¬ F' wr.heap.size) := fun hh => by
        have := ht.out.has.lt _ hh
        omega
      have g2 := blk_new wr (.cells #[.int .i64 (n : Int), .string s] 44)
      have G2 := Lib.hid g2
      have y0 : (wr.alloc (.cells #[.int .i64 (n : Int), .string s] 44)).drew.cell? ⟨wr.heap.size, 0, none⟩ = some (.int .i64 (n : Int)) := blk_cell g2 0
      have y1 : (wr.alloc (.cells #[.int .i64 (n : Int), .string s] 44)).drew.cell? ⟨wr.heap.size, 1, none⟩ = some (.string s) := blk_cell g2 1
      have PL := Lib.hid (own_any (wr.alloc (.cells #[.int .i64 (n : Int), .string s] 44)).drew gj g P J1.out hP n (by omega))
      rw [show 1 + 4 * ((P : Int) + (n : Int)) = ((1 + 4 * (P + n) : Nat) : Int) by omega] at PL
      obtain ⟨q, hq⟩ : ∃ q : Nat, q = 1 + 4 * (P + n) := ⟨_, rfl⟩
      have hq4 : q ≤ 4096 := by omega
      rw [← hq] at PL LK
      have LY := Lib.hid (lay_any (wr.alloc (.cells #[.int .i64 (n : Int), .string s] 44)).drew F' gj g P D T1.out.has J1.out NF.out (FW2.out.mono (by omega)) q hq4 s q2)
      clear hB x0 x1 q1 q2 hx g2 hq
      unfold JTo at LY
      obtain ⟨r, hr⟩ : ∃ r, r = run D (laid (q : Int) s) := ⟨_, rfl⟩
      rw [← hr] at LY
      have HR := Lib.hid hr
      clear hr hD
      by_cases hw : r.2 = 0
      · have HW := Lib.hid hw
        rw [hw] at LY
        clear hw
        go_wp2_with fail
        refine wp_region_flag (fun w' => w'.cell? ⟨wr.heap.size, 0, none⟩ = some (.int .i64 (n : Int)) ∧ w'.cell? ⟨wr.heap.size, 1, none⟩ = some (.string s)) [(0, 1), (1, 1), (2, 1), (5, 1), (3, 2), (6, 2), (4, 0), (7, 0), (8, 1)] (by kernel_rfl) (by kernel_rfl) ⟨y0, y1⟩ ?_
        simp only [ordered, List.map_cons, List.map_nil, List.getD_cons_zero, List.getD_cons_succ]
        repeat (refine wpF_dry (fun K hK => ?_); go_simp; refine hK _ ?_; clear hK K)
        refine wpF_read (.int .i64 (n : Int)) rfl (fun w' hS => by obtain ⟨s1, s2⟩ := hS; go_simp) (fun K hK => ?_)
        go_simp
        refine hK _ ?_
        clear hK K
        refine wpF_read (.string s) rfl (fun w' hS => by obtain ⟨s1, s2⟩ := hS; go_simp) (fun K hK => ?_)
        go_simp
        refine hK _ ?_
        clear hK K
        refine wpF_do ?_
        go_wp2_with fail
        refine PL.out.mono ?_
        rintro e w3 ⟨rfl, rfl⟩
        clear PL
        go_wp2_with fail
        refine ⟨⟨y0, y1⟩, ?_⟩
        refine wpF_do ?_
        go_wp2_with fail
        refine LY.out.mono ?_
        rintro e w4 ⟨rfl, F4, ht4⟩
        have T4 : Hid (DTo w F g r.1 w4 F4) := T1.out.then ht4
        have g4 := blk_touch ht4.touch (show (wr.alloc (.cells #[.int .i64 (n : Int), .string s] 44)).drew.heap[wr.heap.size]? = _ from G2.out) N2.out
        have v0 : w4.cell? ⟨wr.heap.size, 0, none⟩ = some (.int .i64 (n : Int)) := blk_cell g4 0
        have v1 : w4.cell? ⟨wr.heap.size, 1, none⟩ = some (.string s) := blk_cell g4 1
        clear ht4 LY g4 y0 y1 z0 z1
        go_wp2_with fail
        refine ⟨⟨v0, v1⟩, ?_⟩
        repeat (refine wpF_dry (fun K hK => ?_); go_simp; refine hK _ ?_; clear hK K)
        refine wpF_nil ?_
        have R4 : Hid ((run d (stepsB P (l.take (k + 1)))).2 = 0) := by unfold Hid; rw [LK.out, (RS _).out, ← HR.out, HW.out]
        have T5 : Hid (DTo w F g (run d (stepsB P (l.take (k + 1)))).1 w4 F4) := by unfold Hid; rw [LK.out, (RS _).out, ← HR.out]; exact T4.out
        go_wp2
        go_roundw
        case rel => first | exact ⟨k + 1, F4, hlt, by go_num, R4, T5⟩ | ((repeat apply Exists.intro); refine ⟨?_, rfl⟩; exact ⟨k + 1, F4, hlt, by go_num, R4, T5⟩)
        case measure => simp [intOf]; omega
      · have R4 : Hid (run d (stepsB P l) = r) := by
          obtain ⟨m, hm⟩ := stepsB_more P l (k + 1)
          unfold Hid
          rw [hm, run_stop (by rw [LK.out, (RS _).out, ← HR.out]; exact hw), LK.out, (RS _).out, ← HR.out]
        clear HR
        obtain ⟨r1, r2⟩ := r
        simp only at hw LY
        have d0 : (r2 != 0) = true := by simpa using hw
        clear hw RS
        go_wp2_with fail
        refine wp_region_flag (fun w' => w'.cell? ⟨wr.heap.size, 0, none⟩ = some (.int .i64 (n : Int)) ∧ w'.cell? ⟨wr.heap.size, 1, none⟩ = some (.string s)) [(0, 1), (1, 1), (2, 1), (5, 1), (3, 2), (6, 2), (4, 0), (7, 0), (8, 1)] (by kernel_rfl) (by kernel_rfl) ⟨y0, y1⟩ ?_
        simp only [ordered, List.map_cons, List.map_nil, List.getD_cons_zero, List.getD_cons_succ]
        repeat (refine wpF_dry (fun K hK => ?_); go_simp; refine hK _ ?_; clear hK K)
        refine wpF_read (.int .i64 (n : Int)) rfl (fun w' hS => by obtain ⟨s1, s2⟩ := hS; go_simp) (fun K hK => ?_)
        go_simp
        refine hK _ ?_
        clear hK K
        refine wpF_read (.string s) rfl (fun w' hS => by obtain ⟨s1, s2⟩ := hS; go_simp) (fun K hK => ?_)
        go_simp
        refine hK _ ?_
        clear hK K
        refine wpF_do ?_
        go_wp2_with fail
        refine PL.out.mono ?_
        rintro e w3 ⟨rfl, rfl⟩
        clear PL
        go_wp2_with fail
        refine ⟨⟨y0, y1⟩, ?_⟩
        refine wpF_do ?_
        go_wp2_with fail
        refine LY.out.mono ?_
        rintro e w4 ⟨rfl, F4, ht4⟩
        have T4 : Hid (DTo w F g r1 w4 F4) := T1.out.then ht4
        have g4 := blk_touch ht4.touch (show (wr.alloc (.cells #[.int .i64 (n : Int), .string s] 44)).drew.heap[wr.heap.size]? = _ from G2.out) N2.out
        have v0 : w4.cell? ⟨wr.heap.size, 0, none⟩ = some (.int .i64 (n : Int)) := blk_cell g4 0
        have v1 : w4.cell? ⟨wr.heap.size, 1, none⟩ = some (.string s) := blk_cell g4 1
        clear ht4 LY g4 y0 y1 z0 z1
        go_wp2_with fail
        refine ⟨⟨v0, v1⟩, ?_⟩
        repeat (refine wpF_dry (fun K hK => ?_); go_simp; refine hK _ ?_; clear hK K)
        refine wpF_nil ?_
        go_wp2
        go_ret
        refine ⟨by rw [R4.out]; rfl, F4, ?_⟩
        rw [R4.out]
        exact T4.out
    · obtain rfl : k = l.length := by omega
      rw [List.take_length] at he ht
      go_wp2
      go_ret
      exact ⟨by rw [he.out]; rfl, F', ht.out⟩
end Go.Proofs.Ytpaabfadniakoaa
/- Reg3: as Reg2, and where three operations may come: all ways. -/
set_option linter.unusedVariables false
set_option linter.unusedSimpArgs false
namespace Go.Proofs.Ytpaabfadniakoaa
open Go.RowKit

inductive Plan where
  | done
  | op (i f : Nat) (p : Plan)
  | two (i : Nat) (p : Plan) (j : Nat) (q : Plan)
  | three (i : Nat) (p : Plan) (j : Nat) (q : Plan) (k : Nat) (r : Plan)

def planB (ops : Array Oper) : Nat → Plan → Array Bool → Bool
  | _, .done, listed => (Region.ready .any ops listed).isEmpty
  | n + 1, .op i 0 p, listed => decide (i < ops.size) && (Region.ready .any ops listed == [i]) && planB ops n p (listed.setIfInBounds i true)
  | n + 1, .op i _ p, listed => decide (i < ops.size) && (Region.ready .any ops listed).contains i && Region.free .any ops listed i && planB ops n p (listed.setIfInBounds i true)
  | n + 1, .two i p j q, listed => decide (i < ops.size) && decide (j < ops.size) && (Region.ready .any ops listed == [i, j]) && planB ops n p (listed.setIfInBounds i true) && planB ops n q (listed.setIfInBounds j true)
  | n + 1, .three i p j q k r, listed => decide (i < ops.size) && decide (j < ops.size) && decide (k < ops.size) && (Region.ready .any ops listed == [i, j, k]) && planB ops n p (listed.setIfInBounds i true) && planB ops n q (listed.setIfInBounds j true) && planB ops n r (listed.setIfInBounds k true)
  | 0, _, _ => false

def wpP (P : Program) (ops : Array Oper) (l : List Oper) (S : World → Prop) (Q : Exit → Act → World → Prop) : Plan → Act → World → Prop
  | .done, a, w => Q .normal a w
  | .op i 0 p, a, w => wpList P ops (Exit.then (fun a' w' => Both (S w') (wpP P ops l S Q p a' w')) (OnlyOut Q)) [l.getD i default] a w
  | .op i 1 p, a, w => dry P ops (l.getD i default) a (fun a' => wpP P ops l S Q p a' w)
  | .op i _ p, a, w => dryS P ops S (l.getD i default) a (fun a' => wpP P ops l S Q p a' w)
  | .two i p j q, a, w => wpList P ops (Exit.then (fun a' w' => Both (S w') (wpP P ops l S Q p a' w')) (OnlyOut Q)) [l.getD i default] a w ∧
      wpList P ops (Exit.then (fun a' w' => Both (S w') (wpP P ops l S Q q a' w')) (OnlyOut Q)) [l.getD j default] a w
  | .three i p j q k r, a, w => wpList P ops (Exit.then (fun a' w' => Both (S w') (wpP P ops l S Q p a' w')) (OnlyOut Q)) [l.getD i default] a w ∧
      wpList P ops (Exit.then (fun a' w' => Both (S w') (wpP P ops l S Q q a' w')) (OnlyOut Q)) [l.getD j default] a w ∧
      wpList P ops (Exit.then (fun a' w' => Both (S w') (wpP P ops l S Q r a' w')) (OnlyOut Q)) [l.getD k default] a w

theorem do_one {P : Program} {Q : Exit → Act → World → Prop} {S : World → Prop} (ops : List Oper) (i : Nat) (hi : i < ops.length) {T U : Act → World → Prop} {a : Act} {w : World} (key : ∀ a w, Both (S w) (T a w) → U a w)
    (h : wpList P ops.toArray (Exit.then (fun a' w' => Both (S w') (T a' w')) (OnlyOut Q)) [ops[i]] a w) : wpOp P ops.toArray (Exit.then (fun a w => Q .normal a w) (OnlyOut Q)) i U a w := by
  have ho : ops.toArray[i]? = some ops[i] := by simp [hi]
  unfold wpOp
  simp only [ho]
  unfold wpList at h
  have hout : LetsOut (Exit.then (fun a' w' => Both (S w') (T a' w')) (OnlyOut Q)) → LetsOut (Exit.then (fun a w => Q .normal a w) (OnlyOut Q)) := by
    rintro ⟨a, w, x⟩
    exact ⟨a, w, x⟩
  split
  · rename_i hw
    rw [if_pos hw] at h
    rcases h with h | ⟨h, hx⟩
    · refine .inl ?_
      unfold Oper.wp at h ⊢
      generalize (execOp a.eval ops[i]).run P w = r at h
      cases r with
      | ok n w' =>
        cases n <;> simp only [Oper.upon] at h ⊢
        case value v => exact key _ _ h
        case skip => exact key _ _ h
        case defer d => exact key _ _ h
        case enter f args =>
          exact h.mono fun e w'' he => by
            cases e with
            | returned v => exact key _ _ he
            | panicked c => exact he
            | outgrown => exact hout he
        case row row args => exact h.mono fun v w'' he => key _ _ he
      | halt x w' => cases x <;> simp only [Oper.upon] at h ⊢ <;> exact h
    · exact .inr ⟨h, hout hx⟩
  · rename_i hw
    rw [if_neg hw] at h
    exact key _ _ h

theorem wpAny_plan {P : Program} {Q : Exit → Act → World → Prop} {S : World → Prop} (ops : List Oper) (hs : Region.noSelect ops.toArray = true) :
    ∀ (p : Plan) (n : Nat) (listed : Array Bool) (a : Act) (w : World), planB ops.toArray n p listed = true → S w →
      wpP P ops.toArray ops S Q p a w → wpAnyH P .any ops.toArray (Exit.then (fun a w => Q .normal a w) (OnlyOut Q)) S n listed a w
  | .done, n, listed, a, w, hB, hS, h => by
    refine wpAnyH_done (by cases n <;> simpa [planB] using hB) ?_ _
    exact h
  | .op i 0 p, 0, listed, a, w, hB, hS, h => by simp [planB] at hB
  | .op i (k + 1) p, 0, listed, a, w, hB, hS, h => by simp [planB] at hB
  | .two i p j q, 0, listed, a, w, hB, hS, h => by simp [planB] at hB
  | .three i p j q k r, 0, listed, a, w, hB, hS, h => by simp [planB] at hB
  | .op i 0 p, n + 1, listed, a, w, hB, hS, h => by
    simp only [planB, Bool.and_eq_true, beq_iff_eq, decide_eq_true_eq, List.size_toArray] at hB
    obtain ⟨⟨hi, h1⟩, h3⟩ := hB
    have hd : ops.getD i default = ops[i] := by simp [hi]
    simp only [wpP, hd] at h
    refine wpAnyH_all h1 (by simp) (fun j hj => ?_)
    obtain rfl : j = i := by simpa using hj
    exact do_one ops j hi (fun a w hh => ⟨hh.1, wpAny_plan ops hs p n _ a w h3 hh.1 hh.2⟩) h
  | .op i 1 p, n + 1, listed, a, w, hB, hS, h => by
    simp only [planB, Bool.and_eq_true, decide_eq_true_eq, List.size_toArray] at hB
    obtain ⟨⟨⟨hi, h1⟩, h2⟩, h3⟩ := hB
    have hd : ops.getD i default = ops[i] := by simp [hi]
    simp only [wpP, hd] at h
    exact take_dry ops hs i hi h1 h2 hS (fun a' hh => wpAny_plan ops hs p n _ a' w h3 hS hh) (dry_S h)
  | .op i (k + 2) p, n + 1, listed, a, w, hB, hS, h => by
    simp only [planB, Bool.and_eq_true, decide_eq_true_eq, List.size_toArray] at hB
    obtain ⟨⟨⟨hi, h1⟩, h2⟩, h3⟩ := hB
    have hd : ops.getD i default = ops[i] := by simp [hi]
    simp only [wpP, hd] at h
    exact take_dry ops hs i hi h1 h2 hS (fun a' hh => wpAny_plan ops hs p n _ a' w h3 hS hh) h
  | .two i p j q, n + 1, listed, a, w, hB, hS, h => by
    simp only [planB, Bool.and_eq_true, beq_iff_eq, decide_eq_true_eq, List.size_toArray] at hB
    obtain ⟨⟨⟨⟨hi, hj'⟩, h1⟩, h3⟩, h4⟩ := hB
    have hd : ops.getD i default = ops[i] := by simp [hi]
    have hd2 : ops.getD j default = ops[j] := by simp [hj']
    simp only [wpP, hd, hd2] at h
    refine wpAnyH_all h1 (by simp) (fun m hm => ?_)
    have hm' : m = i ∨ m = j := by simpa using hm
    rcases hm' with rfl | rfl
    · exact do_one ops m hi (fun a w hh => ⟨hh.1, wpAny_plan ops hs p n _ a w h3 hh.1 hh.2⟩) h.1
    · exact do_one ops m hj' (fun a w hh => ⟨hh.1, wpAny_plan ops hs q n _ a w h4 hh.1 hh.2⟩) h.2
  | .three i p j q k r, n + 1, listed, a, w, hB, hS, h => by
    simp only [planB, Bool.and_eq_true, beq_iff_eq, decide_eq_true_eq, List.size_toArray] at hB
    obtain ⟨⟨⟨⟨⟨⟨hi, hj'⟩, hk'⟩, h1⟩, h3⟩, h4⟩, h5⟩ := hB
    have hd : ops.getD i default = ops[i] := by simp [hi]
    have hd2 : ops.getD j default = ops[j] := by simp [hj']
    have hd3 : ops.getD k default = ops[k] := by simp [hk']
    simp only [wpP, hd, hd2, hd3] at h
    refine wpAnyH_all h1 (by simp) (fun m hm => ?_)
    have hm' : m = i ∨ m = j ∨ m = k := by simpa using hm
    rcases hm' with rfl | rfl | rfl
    · exact do_one ops m hi (fun a w hh => ⟨hh.1, wpAny_plan ops hs p n _ a w h3 hh.1 hh.2⟩) h.1
    · exact do_one ops m hj' (fun a w hh => ⟨hh.1, wpAny_plan ops hs q n _ a w h4 hh.1 hh.2⟩) h.2.1
    · exact do_one ops m hk' (fun a w hh => ⟨hh.1, wpAny_plan ops hs r n _ a w h5 hh.1 hh.2⟩) h.2.2

/-- A region that draws its order, by a plan. -/
theorem wp_region_plan {P : Program} {id : Nat} {Q : Exit → Act → World → Prop} {a : Act} {w : World} {l : List Oper} (S : World → Prop) (p : Plan) (hm : P.follows .mixedOrders = true)
    (hB : (Region.noSelect l.toArray && planB l.toArray l.length p (Array.replicate l.length false)) = true) (hS : S w.drew)
    (h : wpP P l.toArray l S Q p a w.drew) : (Code.region id l.toArray true).wp P Q a w := by
  simp only [Bool.and_eq_true] at hB
  obtain ⟨h1, h4⟩ := hB
  refine Code.wp_mono (Q := Exit.then (fun a w => Q .normal a w) (OnlyOut Q)) ?_ ?_
  · intro e a w q
    cases e with
    | normal => exact q
    | outgrown => exact q
    | _ => exact q.elim
  · refine wp_region_held (S := S) hm ?_
    have := wpAny_plan l h1 p l.length (Array.replicate l.length false) a w.drew h4 hS h
    simpa using this
theorem wpP_done {P : Program} {ops : Array Oper} {l : List Oper} {S : World → Prop} {Q : Exit → Act → World → Prop} {a : Act} {w : World} (h : Q .normal a w) : wpP P ops l S Q .done a w := h
theorem wpP_dry {P : Program} {ops : Array Oper} {l : List Oper} {S : World → Prop} {Q : Exit → Act → World → Prop} {a : Act} {w : World} {i : Nat} {p : Plan}
    (h : ∀ K : Act → Prop, (∀ a', wpP P ops l S Q p a' w → K a') → dry P ops (l.getD i default) a K) : wpP P ops l S Q (.op i 1 p) a w := h _ (fun _ hh => hh)
theorem wpP_do {P : Program} {ops : Array Oper} {l : List Oper} {S : World → Prop} {Q : Exit → Act → World → Prop} {a : Act} {w : World} {i : Nat} {p : Plan}
    (h : wpList P ops (Exit.then (fun a' w' => Both (S w') (wpP P ops l S Q p a' w')) (OnlyOut Q)) [l.getD i default] a w) : wpP P ops l S Q (.op i 0 p) a w := h
theorem wpP_read {P : Program} {ops : Array Oper} {l : List Oper} {S : World → Prop} {Q : Exit → Act → World → Prop} {a : Act} {w : World} {i : Nat} {p : Plan} (v : Value)
    (hw : Region.wanted (l.getD i default) (yielded ops a.tmps) = true) (hv : ∀ w', S w' → (execOp a.eval (l.getD i default)).run P w' = .ok (.value v) w')
    (h : ∀ K : Act → Prop, (∀ a', wpP P ops l S Q p a' w → K a') → K (a.put (l.getD i default).dst v)) : wpP P ops l S Q (.op i 2 p) a w := by
  show dryS _ _ _ _ _ _
  unfold dryS
  rw [if_pos hw]
  exact ⟨v, hv, h _ (fun _ hh => hh)⟩
theorem wpP_skip {P : Program} {ops : Array Oper} {l : List Oper} {S : World → Prop} {Q : Exit → Act → World → Prop} {a : Act} {w : World} {i : Nat} {p : Plan}
    (h : ∀ K : Act → Prop, (∀ a', wpP P ops l S Q p a' w → K a') → dry P ops (l.getD i default) a K) : wpP P ops l S Q (.op i 2 p) a w := dry_S (h _ (fun _ hh => hh))
theorem wpP_two {P : Program} {ops : Array Oper} {l : List Oper} {S : World → Prop} {Q : Exit → Act → World → Prop} {a : Act} {w : World} {i j : Nat} {p q : Plan}
    (h1 : wpList P ops (Exit.then (fun a' w' => Both (S w') (wpP P ops l S Q p a' w')) (OnlyOut Q)) [l.getD i default] a w)
    (h2 : wpList P ops (Exit.then (fun a' w' => Both (S w') (wpP P ops l S Q q a' w')) (OnlyOut Q)) [l.getD j default] a w) : wpP P ops l S Q (.two i p j q) a w := ⟨h1, h2⟩
theorem wpP_three {P : Program} {ops : Array Oper} {l : List Oper} {S : World → Prop} {Q : Exit → Act → World → Prop} {a : Act} {w : World} {i j k : Nat} {p q r : Plan}
    (h1 : wpList P ops (Exit.then (fun a' w' => Both (S w') (wpP P ops l S Q p a' w')) (OnlyOut Q)) [l.getD i default] a w)
    (h2 : wpList P ops (Exit.then (fun a' w' => Both (S w') (wpP P ops l S Q q a' w')) (OnlyOut Q)) [l.getD j default] a w)
    (h3 : wpList P ops (Exit.then (fun a' w' => Both (S w') (wpP P ops l S Q r a' w')) (OnlyOut Q)) [l.getD k default] a w) : wpP P ops l S Q (.three i p j q k r) a w := ⟨h1, h2, h3⟩
attribute [irreducible] wpP
end Go.Proofs.Ytpaabfadniakoaa
/- Reg4: as Reg, by a plan whose last operation, for which all others must have come, may break S. -/
set_option linter.unusedVariables false
set_option linter.unusedSimpArgs false
namespace Go.Proofs.Ytpaabfadniakoaa
open Go.RowKit

/-- In whatever order; S holds behind each operation but L. -/
def anyL (P : Program) (ops : Array Oper) (Q : Exit → Act → World → Prop) (S : World → Prop) (L : Nat) : Nat → Array Bool → Act → World → Prop
  | 0, listed, a, w => Region.ready .any ops listed = [] ∧ Q .normal a w
  | n + 1, listed, a, w => (Region.ready .any ops listed = [] → Q .normal a w) ∧
      ∀ i ∈ Region.ready .any ops listed, wpOp P ops Q i (fun a' w' => (i ≠ L → S w') ∧ anyL P ops Q S L n (listed.setIfInBounds i true) a' w') a w
theorem any_of_anyL {P : Program} {ops : Array Oper} {Q : Exit → Act → World → Prop} {S : World → Prop} {L : Nat} : ∀ (n : Nat) (listed : Array Bool) (a : Act) (w : World), anyL P ops Q S L n listed a w → wpAny P .any ops Q n listed a w
  | 0, _, _, _, h => h
  | n + 1, _, _, _, h => ⟨h.1, fun i hi => wpOp_mono (fun a' w' h' => any_of_anyL n _ a' w' h'.2) (h.2 i hi)⟩
/-- L waits for i. -/
def waitsB (ops : Array Oper) (L i : Nat) : Bool := decide (i ≠ L) && (match ops[L]? with | some o => o.after.any (fun e => Region.binds .any e && (e.on == i)) | none => false)
theorem waits_not {ops : Array Oper} {L i : Nat} {listed : Array Bool} (h : waitsB ops L i = true) (hi : i ∈ Region.ready .any ops listed) : L ∉ Region.ready .any ops listed := by
  intro hL
  obtain ⟨_, o, ho, hall⟩ := mem_ready.1 hL
  simp only [waitsB, ho, Bool.and_eq_true] at h
  obtain ⟨_, h2⟩ := h
  rw [Array.any_eq_true'] at h2
  obtain ⟨e, he, h3⟩ := h2
  simp only [Bool.and_eq_true, beq_iff_eq] at h3
  have h1 := hall e he h3.1
  have h0 := (mem_ready.1 hi).1
  rw [h3.2] at h1
  rcases Nat.lt_or_ge i listed.size with h' | h'
  · simp [h'] at h0 h1; rw [h0] at h1; cases h1
  · simp [Array.getElem?_eq_none h'] at h1
theorem anyL_take {P : Program} {ops : Array Oper} {Q : Exit → Act → World → Prop} {S : World → Prop} {L i : Nat} {oi : Oper} {v : Value} (hi : ops[i]? = some oi) (hs : Region.noSelect ops = true) (hw : waitsB ops L i = true)
    (hQ : ∀ c a w, Q (.panic c) (a.put oi.dst v) w → Q (.panic c) a w) : ∀ (n : Nat) (listed : Array Bool) (a : Act) (w : World),
      (∀ j oj, ops[j]? = some oj → j ≠ i → listed.getD j true = false → (∀ e ∈ oj.after, Region.binds .any e = true → e.on ≠ i) → oi.apart ops oj = true) →
      i ∈ Region.ready .any ops listed → YieldsIf P ops S oi v a → S w → anyL P ops Q S L n (listed.setIfInBounds i true) (a.put oi.dst v) w → anyL P ops Q S L (n + 1) listed a w := by
  have hsel := Region.noSelect_spec hs
  intro n
  induction n with
  | zero =>
    intro listed a w _ hr hy hS H
    refine ⟨fun h => (by rw [h] at hr; cases hr), fun j hj => ?_⟩
    by_cases hji : j = i
    · subst hji; exact hy.wpOp hi hS ⟨fun _ => hS, H⟩
    · have := ready_mono hj hji
      rw [H.1] at this
      cases this
  | succ n ih =>
    intro listed a w hfree hr hy hS H
    refine ⟨fun h => (by rw [h] at hr; cases hr), fun j hj => ?_⟩
    by_cases hji : j = i
    · subst hji; exact hy.wpOp hi hS ⟨fun _ => hS, H⟩
    · have hjL : j ≠ L := fun e => waits_not hw hr (e ▸ hj)
      have h1 := H.2 j (ready_mono hj hji)
      obtain ⟨hjun, oj, hoj, hall⟩ := mem_ready.1 hj
      have hnot : ∀ e ∈ oj.after, Region.binds .any e = true → e.on ≠ i := fun e he hb heq => by
        have h1 := hall e he hb
        have h0 := (mem_ready.1 hr).1
        rw [heq] at h1
        rcases Nat.lt_or_ge i listed.size with h' | h'
        · simp [h'] at h0 h1; rw [h0] at h1; cases h1
        · simp [Array.getElem?_eq_none h'] at h1
      have h2 := wpOp_putIf hoj (hfree j oj hoj hji hjun hnot) (fun cs b => hsel i oi cs b hi) (fun cs b => hsel j oj cs b hoj) hQ hy h1
      have hfree' : ∀ k ok, ops[k]? = some ok → k ≠ i → (listed.setIfInBounds j true).getD k true = false →
          (∀ e ∈ ok.after, Region.binds .any e = true → e.on ≠ i) → oi.apart ops ok = true := fun k ok hk hki hun hno => by
        refine hfree k ok hk hki ?_ hno
        by_cases hjk : j = k
        · subst hjk; exact hjun
        · rw [getD_set_ne true hjk] at hun; exact hun
      refine wpOp_mono (fun a' w' h3 => ?_) h2
      have hS' := h3.2.1 hjL
      refine ⟨fun _ => hS', ih (listed.setIfInBounds j true) a' w' hfree' (ready_mono hr (Ne.symm hji)) h3.1 hS' ?_⟩
      rw [Array.setIfInBounds_comm _ _ hji]
      exact h3.2.2
theorem anyL_all {P : Program} {ops : Array Oper} {Q : Exit → Act → World → Prop} {S : World → Prop} {L i n : Nat} {listed : Array Bool} {a : Act} {w : World} (hr : Region.ready .any ops listed = [i])
    (h : wpOp P ops Q i (fun a' w' => (i ≠ L → S w') ∧ anyL P ops Q S L n (listed.setIfInBounds i true) a' w') a w) : anyL P ops Q S L (n + 1) listed a w :=
  ⟨fun h0 => absurd (hr ▸ h0) (by simp), fun j hj => by
    obtain rfl : j = i := by rw [hr] at hj; simpa using hj
    exact h⟩
theorem anyL_done {P : Program} {ops : Array Oper} {Q : Exit → Act → World → Prop} {S : World → Prop} {L : Nat} {listed : Array Bool} {a : Act} {w : World} (hr : Region.ready .any ops listed = []) (h : Q .normal a w) : ∀ n, anyL P ops Q S L n listed a w
  | 0 => ⟨hr, h⟩
  | _ + 1 => ⟨fun _ => h, by rw [hr]; simp⟩

/-- A plan: flags as in Reg; then L. -/
def planLB (ops : Array Oper) (L : Nat) : List (Nat × Nat) → Array Bool → Bool
  | [], listed => decide (L < ops.size) && (Region.ready .any ops listed == [L]) && (Region.ready .any ops (listed.setIfInBounds L true)).isEmpty
  | (i, 0) :: p, listed => decide (i < ops.size) && decide (i ≠ L) && (Region.ready .any ops listed == [i]) && planLB ops L p (listed.setIfInBounds i true)
  | (i, _) :: p, listed => decide (i < ops.size) && (Region.ready .any ops listed).contains i && Region.free .any ops listed i && waitsB ops L i && planLB ops L p (listed.setIfInBounds i true)
def wpL (P : Program) (ops : Array Oper) (l : List Oper) (S : World → Prop) (Q : Exit → Act → World → Prop) (L : Nat) : List (Nat × Nat) → Act → World → Prop
  | [], a, w => wpList P ops (Exit.then (fun a' w' => Both True (Q .normal a' w')) (OnlyOut Q)) [l.getD L default] a w
  | (i, 0) :: p, a, w => wpList P ops (Exit.then (fun a' w' => Both (S w') (wpL P ops l S Q L p a' w')) (OnlyOut Q)) [l.getD i default] a w
  | (i, 1) :: p, a, w => dry P ops (l.getD i default) a (fun a' => wpL P ops l S Q L p a' w)
  | (i, _) :: p, a, w => dryS P ops S (l.getD i default) a (fun a' => wpL P ops l S Q L p a' w)

theorem dryL {P : Program} {Q : Exit → Act → World → Prop} {S : World → Prop} {L : Nat} (ops : List Oper) (hs : Region.noSelect ops.toArray = true) (i : Nat) (hi : i < ops.length) {n : Nat} {listed : Array Bool} {a : Act} {w : World}
    (h1 : (Region.ready .any ops.toArray listed).contains i = true) (h2 : Region.free .any ops.toArray listed i = true) (h3 : waitsB ops.toArray L i = true) (hS : S w) {K : Act → Prop}
    (hK : ∀ a', K a' → anyL P ops.toArray (Exit.then (fun a w => Q .normal a w) (OnlyOut Q)) S L n (listed.setIfInBounds i true) a' w)
    (h : dryS P ops.toArray S ops[i] a K) : anyL P ops.toArray (Exit.then (fun a w => Q .normal a w) (OnlyOut Q)) S L (n + 1) listed a w := by
  have ho : ops.toArray[i]? = some ops[i] := by simp [hi]
  unfold dryS at h
  split at h
  · rename_i hw
    obtain ⟨v, hv, h⟩ := h
    exact anyL_take ho hs h3 (fun c a w x => by simp [Exit.then, OnlyOut] at x) n listed a w (Region.free_spec ho h2) (by simpa using h1) (.inl ⟨hw, hv⟩) hS (hK _ h)
  · rename_i hw
    exact anyL_take ho hs h3 (fun c a w x => by simp [Exit.then, OnlyOut] at x) n listed a w (Region.free_spec ho h2) (by simpa using h1) (.inr ⟨by simpa using hw, rfl⟩) hS (hK _ h)

theorem any_planL {P : Program} {Q : Exit → Act → World → Prop} {S : World → Prop} {L : Nat} (ops : List Oper) (hs : Region.noSelect ops.toArray = true) :
    ∀ (p : List (Nat × Nat)) (n : Nat) (listed : Array Bool) (a : Act) (w : World), planLB ops.toArray L p listed = true → n = p.length + 1 → S w →
      wpL P ops.toArray ops S Q L p a w → anyL P ops.toArray (Exit.then (fun a w => Q .normal a w) (OnlyOut Q)) S L n listed a w
  | [], n, listed, a, w, hB, hn, hS, h => by
    obtain rfl : n = 0 + 1 := hn
    simp only [planLB, Bool.and_eq_true, beq_iff_eq, decide_eq_true_eq, List.size_toArray] at hB
    obtain ⟨⟨hi, h1⟩, h3⟩ := hB
    have hd : ops.getD L default = ops[L] := by simp [hi]
    simp only [wpL, hd] at h
    exact anyL_all h1 (do_one (S := fun _ => True) (T := fun a w => Q .normal a w) ops L hi (fun a w hh => ⟨fun x => absurd rfl x, anyL_done (Q := Exit.then (fun a w => Q .normal a w) (OnlyOut Q)) (by simpa using h3) hh.2 _⟩) h)
  | (i, 0) :: p, n, listed, a, w, hB, hn, hS, h => by
    obtain rfl : n = (p.length + 1) + 1 := hn
    simp only [planLB, Bool.and_eq_true, beq_iff_eq, decide_eq_true_eq, List.size_toArray] at hB
    obtain ⟨⟨⟨hi, hL⟩, h1⟩, h3⟩ := hB
    have hd : ops.getD i default = ops[i] := by simp [hi]
    simp only [wpL, hd] at h
    exact anyL_all h1 (do_one ops i hi (fun a w hh => ⟨fun _ => hh.1, any_planL ops hs p _ _ a w h3 rfl hh.1 hh.2⟩) h)
  | (i, 1) :: p, n, listed, a, w, hB, hn, hS, h => by
    obtain rfl : n = (p.length + 1) + 1 := hn
    simp only [planLB, Bool.and_eq_true, decide_eq_true_eq, List.size_toArray] at hB
    obtain ⟨⟨⟨⟨hi, h1⟩, h2⟩, h4⟩, h3⟩ := hB
    have hd : ops.getD i default = ops[i] := by simp [hi]
    simp only [wpL, hd] at h
    exact dryL ops hs i hi h1 h2 h4 hS (fun a' hh => any_planL ops hs p _ _ a' w h3 rfl hS hh) (dry_S h)
  | (i, k + 2) :: p, n, listed, a, w, hB, hn, hS, h => by
    obtain rfl : n = (p.length + 1) + 1 := hn
    simp only [planLB, Bool.and_eq_true, decide_eq_true_eq, List.size_toArray] at hB
    obtain ⟨⟨⟨⟨hi, h1⟩, h2⟩, h4⟩, h3⟩ := hB
    have hd : ops.getD i default = ops[i] := by simp [hi]
    simp only [wpL, hd] at h
    exact dryL ops hs i hi h1 h2 h4 hS (fun a' hh => any_planL ops hs p _ _ a' w h3 rfl hS hh) h

/-- A region that draws its order, by a plan and its last operation. -/
theorem wp_region_last {P : Program} {id : Nat} {Q : Exit → Act → World → Prop} {a : Act} {w : World} {l : List Oper} (S : World → Prop) (p : List (Nat × Nat)) (L : Nat) (hm : P.follows .mixedOrders = true)
    (hB : (Region.noSelect l.toArray && planLB l.toArray L p (Array.replicate l.length false) && decide (l.length = p.length + 1)) = true) (hS : S w.drew)
    (h : wpL P l.toArray l S Q L p a w.drew) : (Code.region id l.toArray true).wp P Q a w := by
  simp only [Bool.and_eq_true, decide_eq_true_eq] at hB
  obtain ⟨⟨h1, h4⟩, h5⟩ := hB
  refine Code.wp_mono (Q := Exit.then (fun a w => Q .normal a w) (OnlyOut Q)) ?_ ?_
  · intro e a w q
    cases e with
    | normal => exact q
    | outgrown => exact q
    | _ => exact q.elim
  · refine wp_region_any hm (any_of_anyL (S := S) (L := L) _ _ _ _ ?_)
    have := any_planL l h1 p l.length (Array.replicate l.length false) a w.drew h4 h5 hS h
    simpa using this
theorem wpL_dry {P : Program} {ops : Array Oper} {l : List Oper} {S : World → Prop} {Q : Exit → Act → World → Prop} {L : Nat} {a : Act} {w : World} {i : Nat} {p : List (Nat × Nat)} (h : ∀ K : Act → Prop, (∀ a', wpL P ops l S Q L p a' w → K a') → dry P ops (l.getD i default) a K) : wpL P ops l S Q L ((i, 1) :: p) a w := h _ (fun _ hh => hh)
theorem wpL_do {P : Program} {ops : Array Oper} {l : List Oper} {S : World → Prop} {Q : Exit → Act → World → Prop} {L : Nat} {a : Act} {w : World} {i : Nat} {p : List (Nat × Nat)} (h : wpList P ops (Exit.then (fun a' w' => Both (S w') (wpL P ops l S Q L p a' w')) (OnlyOut Q)) [l.getD i default] a w) : wpL P ops l S Q L ((i, 0) :: p) a w := h
theorem wpL_last {P : Program} {ops : Array Oper} {l : List Oper} {S : World → Prop} {Q : Exit → Act → World → Prop} {L : Nat} {a : Act} {w : World} (h : wpList P ops (Exit.then (fun a' w' => Both True (Q .normal a' w')) (OnlyOut Q)) [l.getD L default] a w) : wpL P ops l S Q L [] a w := h
theorem wpL_read {P : Program} {ops : Array Oper} {l : List Oper} {S : World → Prop} {Q : Exit → Act → World → Prop} {L : Nat} {a : Act} {w : World} {i : Nat} {p : List (Nat × Nat)} (v : Value) (hw : Region.wanted (l.getD i default) (yielded ops a.tmps) = true) (hv : ∀ w', S w' → (execOp a.eval (l.getD i default)).run P w' = .ok (.value v) w')
    (h : ∀ K : Act → Prop, (∀ a', wpL P ops l S Q L p a' w → K a') → K (a.put (l.getD i default).dst v)) : wpL P ops l S Q L ((i, 2) :: p) a w := by
  show dryS _ _ _ _ _ _
  unfold dryS
  rw [if_pos hw]
  exact ⟨v, hv, h _ (fun _ hh => hh)⟩
theorem wpL_skip {P : Program} {ops : Array Oper} {l : List Oper} {S : World → Prop} {Q : Exit → Act → World → Prop} {L : Nat} {a : Act} {w : World} {i : Nat} {p : List (Nat × Nat)} (h : ∀ K : Act → Prop, (∀ a', wpL P ops l S Q L p a' w → K a') → dry P ops (l.getD i default) a K) : wpL P ops l S Q L ((i, 2) :: p) a w := dry_S (h _ (fun _ hh => hh))
attribute [irreducible] wpL
end Go.Proofs.Ytpaabfadniakoaa
