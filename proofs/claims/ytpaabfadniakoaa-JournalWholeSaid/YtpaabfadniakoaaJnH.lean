/- JnH: the walks of layAll, at Commit's two places (written by gen_com.py). -/
import Derived.Test.YtpaabfadniakoaaJnE
set_option linter.unusedVariables false
set_option linter.unusedSimpArgs false
namespace Go.Proofs.Ytpaabfadniakoaa
open Go.RowKit

theorem c2_any (W : World) (i : Nat) (hi : i ≤ 128) : Calls Try.prog 50 #[.int .i64 (i : Int)] W fun e w' => e = .returned (.int .i64 ((1 + 4 * i : Nat) : Int)) ∧ W = w' := by
  have e1 : ((1 + 4 * i : Nat) : Int) = 1 + 4 * (i : Int) := by omega
  rw [e1]
  clear e1
  go_enter Try.func50, Try.ntmps50
  go_wp2
  go_ret
  exact ⟨rfl, rfl⟩
def stepsA (l : List Chg) : List Stp := l.flatMap (fun c => laid ((1 + 4 * c.1 : Nat) : Int) c.2)
def stepsB (P : Nat) (l : List Chg) : List Stp := l.flatMap (fun c => laid ((1 + 4 * (P + c.1) : Nat) : Int) c.2)
theorem stepsA_take {l : List Chg} {k : Nat} (h : k < l.length) : stepsA (l.take (k + 1)) = stepsA (l.take k) ++ laid ((1 + 4 * l[k].1 : Nat) : Int) l[k].2 := by
  rw [List.take_succ_eq_append_getElem h, stepsA, List.flatMap_append]; simp [stepsA]
theorem stepsB_take (P : Nat) {l : List Chg} {k : Nat} (h : k < l.length) : stepsB P (l.take (k + 1)) = stepsB P (l.take k) ++ laid ((1 + 4 * (P + l[k].1) : Nat) : Int) l[k].2 := by
  rw [List.take_succ_eq_append_getElem h, stepsB, List.flatMap_append]; simp [stepsB]
theorem stepsA_len (l : List Chg) : (stepsA l).length = 4 * l.length := by
  induction l with
  | nil => rfl
  | cons x l ih => show (laid _ _ ++ stepsA l).length = _; rw [List.length_append, ih, laid, layK_len, List.length_cons]; omega
theorem stepsB_len (P : Nat) (l : List Chg) : (stepsB P l).length = 4 * l.length := by
  induction l with
  | nil => rfl
  | cons x l ih => show (laid _ _ ++ stepsB P l).length = _; rw [List.length_append, ih, laid, layK_len, List.length_cons]; omega
theorem stepsA_more (l : List Chg) (k : Nat) : ∃ r, stepsA l = stepsA (l.take k) ++ r := ⟨stepsA (l.drop k), by rw [stepsA, stepsA, stepsA, ← List.flatMap_append, List.take_append_drop]⟩
theorem stepsB_more (P : Nat) (l : List Chg) (k : Nat) : ∃ r, stepsB P l = stepsB P (l.take k) ++ r := ⟨stepsB P (l.drop k), by rw [stepsB, stepsB, stepsB, ← List.flatMap_append, List.take_append_drop]⟩
set_option maxHeartbeats 3200000 in
set_option maxRecDepth 100000 in
theorem layAllA_any (w : World) (F : Nat → Prop) (gj g P : Nat) (d : Dk) (h : HasDisk w F g d) (hj : Jb w gj g P) (hF : ¬ F gj) (hP : P ≤ 128) (l : List Chg) (b c : Nat) (cur : Array Value) (hb : w.heap[b]? = some (.cells cur 44 (0, 0))) (hFb : ¬ F b)
    (hcs : ∀ j (h : j < l.length), cur[j * 2]? = some (.int .i64 (l[j].1 : Int)) ∧ cur[j * 2 + 1]? = some (.string l[j].2)) (hS : ∀ x ∈ l, x.1 ≤ 127 ∧ x.2.size = 1024) (hf : Fw (4 * l.length) d) (hn : l.length ≤ 1000000) :
    Calls Try.prog 49 #[.pointer (some ⟨gj, 0, none⟩), .slice (some ⟨b, 0, none⟩) l.length c, .func (.func 50) #[] #[]] w fun e w' => JTo w F g d (stepsA l) e w' := by
  have H0 : Hid (DTo w F g d w F) := DTo.self h
  have HJ := Lib.hid hj; have HF := Lib.hid hF; have FW := Lib.hid hf; have HB := Lib.hid hb; have HFB := Lib.hid hFb; have HCS := Lib.hid hcs; have HS := Lib.hid hS
  clear h hj hF hf hb hFb hcs hS
  go_enter Try.func49, Try.ntmps49
  go_wp2_with fail
  go_loopw [12] (fun i wr => ∃ (k : Nat) (F' : Nat → Prop), k ≤ l.length ∧ i = .int .i64 k ∧ Hid ((run d (stepsA (l.take k))).2 = 0) ∧ Hid (DTo w F g (run d (stepsA (l.take k))).1 wr F')) (fun i _ => l.length - (intOf i).toNat)
  case atStart => exact ⟨0, F, Nat.zero_le _, rfl, rfl, H0⟩
  case round =>
    obtain ⟨k, F', hk, rfl, he, ht⟩ := hrel
    by_cases hlt : k < l.length
    · have hB := blk_touch ht.out.touch HB.out HFB.out
      obtain ⟨x0, x1⟩ := HCS.out k hlt
      have z0 := blk_cell hB (k * 2)
      have z1 := blk_cell hB (k * 2 + 1)
      rw [x0] at z0
      rw [x1] at z1
      obtain ⟨q1, q2⟩ := HS.out l[k] (List.getElem_mem hlt)
      have LK := Lib.hid (stepsA_take hlt)
      have FW2 : Hid (Fw (4 * (l.length - k)) (run d (stepsA (l.take k))).1) := fw_run _ (FW.out.mono (by rw [stepsA_len, List.length_take]; omega))
      have RS := fun b => Lib.hid (run_go he.out b)
      generalize hx : l[k] = x at z0 z1 q1 q2 LK
      obtain ⟨n, s⟩ := x
      simp only at z0 z1 q1 q2 LK
      have Q1 := Lib.hid q1
      obtain ⟨D, hD⟩ : ∃ D, D = (run d (stepsA (l.take k))).1 := ⟨_, rfl⟩
      rw [← hD] at FW2 ht RS
      have T1 : Hid (DTo w F g D (wr.alloc (.cells #[.int .i64 (n : Int), .string s] 44)).drew F') := ht.out.post ((Below.refl _ wr).alloc (Nat.le_refl _) _).drew
      have J1 : Hid (Jb (wr.alloc (.cells #[.int .i64 (n : Int), .string s] 44)).drew gj g P) := HJ.out.touch T1.out.touch HF.out
      have NF : Hid (¬ F' gj) := fun hh => by
        rcases ht.out.new gj hh with hh | hh
        · exact HF.out hh
        · exact absurd (lt_of_block HJ.out) (by omega)
      have N2 : Hid (¬ F' wr.heap.size) := fun hh => by
        have := ht.out.has.lt _ hh
        omega
      have g2 := blk_new wr (.cells #[.int .i64 (n : Int), .string s] 44)
      have G2 := Lib.hid g2
      have y0 : (wr.alloc (.cells #[.int .i64 (n : Int), .string s] 44)).drew.cell? ⟨wr.heap.size, 0, none⟩ = some (.int .i64 (n : Int)) := blk_cell g2 0
      have y1 : (wr.alloc (.cells #[.int .i64 (n : Int), .string s] 44)).drew.cell? ⟨wr.heap.size, 1, none⟩ = some (.string s) := blk_cell g2 1
      have PL := Lib.hid (c2_any (wr.alloc (.cells #[.int .i64 (n : Int), .string s] 44)).drew n (by omega))
      obtain ⟨q, hq⟩ : ∃ q : Nat, q = 1 + 4 * n := ⟨_, rfl⟩
      have hq4 : q ≤ 4096 := by omega
      rw [← hq] at PL LK
      have LY := Lib.hid (lay_any (wr.alloc (.cells #[.int .i64 (n : Int), .string s] 44)).drew F' gj g P D T1.out.has J1.out NF.out (FW2.out.mono (by omega)) q hq4 s q2)
      clear hB x0 x1 q1 q2 hx g2 hq
      unfold JTo at LY
      obtain ⟨r, hr⟩ : ∃ r, r = run D (laid (q : Int) s) := ⟨_, rfl⟩
      rw [← hr] at LY
      have HR := Lib.hid hr
      clear hr hD
      by_cases hw : r.2 = 0
      · have HW := Lib.hid hw
        rw [hw] at LY
        clear hw
        go_wp2_with fail
        refine wp_region_flag (fun w' => w'.cell? ⟨wr.heap.size, 0, none⟩ = some (.int .i64 (n : Int)) ∧ w'.cell? ⟨wr.heap.size, 1, none⟩ = some (.string s)) [(0, 1), (1, 1), (2, 1), (5, 1), (3, 2), (6, 2), (4, 0), (7, 0), (8, 1)] (by kernel_rfl) (by kernel_rfl) ⟨y0, y1⟩ ?_
        simp only [ordered, List.map_cons, List.map_nil, List.getD_cons_zero, List.getD_cons_succ]
        repeat (refine wpF_dry (fun K hK => ?_); go_simp; refine hK _ ?_; clear hK K)
        refine wpF_read (.int .i64 (n : Int)) rfl (fun w' hS => by obtain ⟨s1, s2⟩ := hS; go_simp) (fun K hK => ?_)
        go_simp
        refine hK _ ?_
        clear hK K
        refine wpF_read (.string s) rfl (fun w' hS => by obtain ⟨s1, s2⟩ := hS; go_simp) (fun K hK => ?_)
        go_simp
        refine hK _ ?_
        clear hK K
        refine wpF_do ?_
        go_wp2_with fail
        refine PL.out.mono ?_
        rintro e w3 ⟨rfl, rfl⟩
        clear PL
        go_wp2_with fail
        refine ⟨⟨y0, y1⟩, ?_⟩
        refine wpF_do ?_
        go_wp2_with fail
        refine LY.out.mono ?_
        rintro e w4 ⟨rfl, F4, ht4⟩
        have T4 : Hid (DTo w F g r.1 w4 F4) := T1.out.then ht4
        have g4 := blk_touch ht4.touch (show (wr.alloc (.cells #[.int .i64 (n : Int), .string s] 44)).drew.heap[wr.heap.size]? = _ from G2.out) N2.out
        have v0 : w4.cell? ⟨wr.heap.size, 0, none⟩ = some (.int .i64 (n : Int)) := blk_cell g4 0
        have v1 : w4.cell? ⟨wr.heap.size, 1, none⟩ = some (.string s) := blk_cell g4 1
        clear ht4 LY g4 y0 y1 z0 z1
        go_wp2_with fail
        refine ⟨⟨v0, v1⟩, ?_⟩
        repeat (refine wpF_dry (fun K hK => ?_); go_simp; refine hK _ ?_; clear hK K)
        refine wpF_nil ?_
        have R4 : Hid ((run d (stepsA (l.take (k + 1)))).2 = 0) := by unfold Hid; rw [LK.out, (RS _).out, ← HR.out, HW.out]
        have T5 : Hid (DTo w F g (run d (stepsA (l.take (k + 1)))).1 w4 F4) := by unfold Hid; rw [LK.out, (RS _).out, ← HR.out]; exact T4.out
        go_wp2
        go_roundw
        case rel => first | exact ⟨k + 1, F4, hlt, by go_num, R4, T5⟩ | ((repeat apply Exists.intro); refine ⟨?_, rfl⟩; exact ⟨k + 1, F4, hlt, by go_num, R4, T5⟩)
        case measure => simp [intOf]; omega
      · have R4 : Hid (run d (stepsA l) = r) := by
          obtain ⟨m, hm⟩ := stepsA_more l (k + 1)
          unfold Hid
          rw [hm, run_stop (by rw [LK.out, (RS _).out, ← HR.out]; exact hw), LK.out, (RS _).out, ← HR.out]
        clear HR
        obtain ⟨r1, r2⟩ := r
        simp only at hw LY
        have d0 : (r2 != 0) = true := by simpa using hw
        clear hw RS
        go_wp2_with fail
        refine wp_region_flag (fun w' => w'.cell? ⟨wr.heap.size, 0, none⟩ = some (.int .i64 (n : Int)) ∧ w'.cell? ⟨wr.heap.size, 1, none⟩ = some (.string s)) [(0, 1), (1, 1), (2, 1), (5, 1), (3, 2), (6, 2), (4, 0), (7, 0), (8, 1)] (by kernel_rfl) (by kernel_rfl) ⟨y0, y1⟩ ?_
        simp only [ordered, List.map_cons, List.map_nil, List.getD_cons_zero, List.getD_cons_succ]
        repeat (refine wpF_dry (fun K hK => ?_); go_simp; refine hK _ ?_; clear hK K)
        refine wpF_read (.int .i64 (n : Int)) rfl (fun w' hS => by obtain ⟨s1, s2⟩ := hS; go_simp) (fun K hK => ?_)
        go_simp
        refine hK _ ?_
        clear hK K
        refine wpF_read (.string s) rfl (fun w' hS => by obtain ⟨s1, s2⟩ := hS; go_simp) (fun K hK => ?_)
        go_simp
        refine hK _ ?_
        clear hK K
        refine wpF_do ?_
        go_wp2_with fail
        refine PL.out.mono ?_
        rintro e w3 ⟨rfl, rfl⟩
        clear PL
        go_wp2_with fail
        refine ⟨⟨y0, y1⟩, ?_⟩
        refine wpF_do ?_
        go_wp2_with fail
        refine LY.out.mono ?_
        rintro e w4 ⟨rfl, F4, ht4⟩
        have T4 : Hid (DTo w F g r1 w4 F4) := T1.out.then ht4
        have g4 := blk_touch ht4.touch (show (wr.alloc (.cells #[.int .i64 (n : Int), .string s] 44)).drew.heap[wr.heap.size]? = _ from G2.out) N2.out
        have v0 : w4.cell? ⟨wr.heap.size, 0, none⟩ = some (.int .i64 (n : Int)) := blk_cell g4 0
        have v1 : w4.cell? ⟨wr.heap.size, 1, none⟩ = some (.string s) := blk_cell g4 1
        clear ht4 LY g4 y0 y1 z0 z1
        go_wp2_with fail
        refine ⟨⟨v0, v1⟩, ?_⟩
        repeat (refine wpF_dry (fun K hK => ?_); go_simp; refine hK _ ?_; clear hK K)
        refine wpF_nil ?_
        go_wp2
        go_ret
        refine ⟨by rw [R4.out]; rfl, F4, ?_⟩
        rw [R4.out]
        exact T4.out
    · obtain rfl : k = l.length := by omega
      rw [List.take_length] at he ht
      go_wp2
      go_ret
      exact ⟨by rw [he.out]; rfl, F', ht.out⟩
set_option maxHeartbeats 3200000 in
set_option maxRecDepth 100000 in
theorem layAllB_any (w : World) (F : Nat → Prop) (gj g P : Nat) (d : Dk) (h : HasDisk w F g d) (hj : Jb w gj g P) (hF : ¬ F gj) (hP : P ≤ 128) (l : List Chg) (b c : Nat) (cur : Array Value) (hb : w.heap[b]? = some (.cells cur 44 (0, 0))) (hFb : ¬ F b)
    (hcs : ∀ j (h : j < l.length), cur[j * 2]? = some (.int .i64 (l[j].1 : Int)) ∧ cur[j * 2 + 1]? = some (.string l[j].2)) (hS : ∀ x ∈ l, x.1 ≤ 127 ∧ x.2.size = 1024) (hf : Fw (4 * l.length) d) (hn : l.length ≤ 1000000) :
    Calls Try.prog 49 #[.pointer (some ⟨gj, 0, none⟩), .slice (some ⟨b, 0, none⟩) l.length c, .func (.func 38) #[.pointer (some ⟨gj, 0, none⟩)] #[]] w fun e w' => JTo w F g d (stepsB P l) e w' := by
  have H0 : Hid (DTo w F g d w F) := DTo.self h
  have HJ := Lib.hid hj; have HF := Lib.hid hF; have FW := Lib.hid hf; have HB := Lib.hid hb; have HFB := Lib.hid hFb; have HCS := Lib.hid hcs; have HS := Lib.hid hS
  clear h hj hF hf hb hFb hcs hS
  go_enter Try.func49, Try.ntmps49
  go_wp2_with fail
  go_loopw [12] (fun i wr => ∃ (k : Nat) (F' : Nat → Prop), k ≤ l.length ∧ i = .int .i64 k ∧ Hid ((run d (stepsB P (l.take k))).2 = 0) ∧ Hid (DTo w F g (run d (stepsB P (l.take k))).1 wr F')) (fun i _ => l.length - (intOf i).toNat)
  case atStart => exact ⟨0, F, Nat.zero_le _, rfl, rfl, H0⟩
  case round =>
    obtain ⟨k, F', hk, rfl, he, ht⟩ := hrel
    by_cases hlt : k < l.length
    · have hB := blk_touch ht.out.touch HB.out HFB.out
      obtain ⟨x0, x1⟩ := HCS.out k hlt
      have z0 := blk_cell hB (k * 2)
      have z1 := blk_cell hB (k * 2 + 1)
      rw [x0] at z0
      rw [x1] at z1
      obtain ⟨q1, q2⟩ := HS.out l[k] (List.getElem_mem hlt)
      have LK := Lib.hid (stepsB_take P hlt)
      have FW2 : Hid (Fw (4 * (l.length - k)) (run d (stepsB P (l.take k))).1) := fw_run _ (FW.out.mono (by rw [stepsB_len, List.length_take]; omega))
      have RS := fun b => Lib.hid (run_go he.out b)
      generalize hx : l[k] = x at z0 z1 q1 q2 LK
      obtain ⟨n, s⟩ := x
      simp only at z0 z1 q1 q2 LK
      have Q1 := Lib.hid q1
      obtain ⟨D, hD⟩ : ∃ D, D = (run d (stepsB P (l.take k))).1 := ⟨_, rfl⟩
      rw [← hD] at FW2 ht RS
      have T1 : Hid (DTo w F g D (wr.alloc (.cells #[.int .i64 (n : Int), .string s] 44)).drew F') := ht.out.post ((Below.refl _ wr).alloc (Nat.le_refl _) _).drew
      have J1 : Hid (Jb (wr.alloc (.cells #[.int .i64 (n : Int), .string s] 44)).drew gj g P) := HJ.out.touch T1.out.touch HF.out
      have NF : Hid (¬ F' gj) := fun hh => by
        rcases ht.out.new gj hh with hh | hh
        · exact HF.out hh
        · exact absurd (lt_of_block HJ.out) (by omega)
      have N2 : Hid (¬ F' wr.heap.size) := fun hh => by
        have := ht.out.has.lt _ hh
        omega
      have g2 := blk_new wr (.cells #[.int .i64 (n : Int), .string s] 44)
      have G2 := Lib.hid g2
      have y0 : (wr.alloc (.cells #[.int .i64 (n : Int), .string s] 44)).drew.cell? ⟨wr.heap.size, 0, none⟩ = some (.int .i64 (n : Int)) := blk_cell g2 0
      have y1 : (wr.alloc (.cells #[.int .i64 (n : Int), .string s] 44)).drew.cell? ⟨wr.heap.size, 1, none⟩ = some (.string s) := blk_cell g2 1
      have PL := Lib.hid (own_any (wr.alloc (.cells #[.int .i64 (n : Int), .string s] 44)).drew gj g P J1.out hP n (by omega))
      rw [show 1 + 4 * ((P : Int) + (n : Int)) = ((1 + 4 * (P + n) : Nat) : Int) by omega] at PL
      obtain ⟨q, hq⟩ : ∃ q : Nat, q = 1 + 4 * (P + n) := ⟨_, rfl⟩
      have hq4 : q ≤ 4096 := by omega
      rw [← hq] at PL LK
      have LY := Lib.hid (lay_any (wr.alloc (.cells #[.int .i64 (n : Int), .string s] 44)).drew F' gj g P D T1.out.has J1.out NF.out (FW2.out.mono (by omega)) q hq4 s q2)
      clear hB x0 x1 q1 q2 hx g2 hq
      unfold JTo at LY
      obtain ⟨r, hr⟩ : ∃ r, r = run D (laid (q : Int) s) := ⟨_, rfl⟩
      rw [← hr] at LY
      have HR := Lib.hid hr
      clear hr hD
      by_cases hw : r.2 = 0
      · have HW := Lib.hid hw
        rw [hw] at LY
        clear hw
        go_wp2_with fail
        refine wp_region_flag (fun w' => w'.cell? ⟨wr.heap.size, 0, none⟩ = some (.int .i64 (n : Int)) ∧ w'.cell? ⟨wr.heap.size, 1, none⟩ = some (.string s)) [(0, 1), (1, 1), (2, 1), (5, 1), (3, 2), (6, 2), (4, 0), (7, 0), (8, 1)] (by kernel_rfl) (by kernel_rfl) ⟨y0, y1⟩ ?_
        simp only [ordered, List.map_cons, List.map_nil, List.getD_cons_zero, List.getD_cons_succ]
        repeat (refine wpF_dry (fun K hK => ?_); go_simp; refine hK _ ?_; clear hK K)
        refine wpF_read (.int .i64 (n : Int)) rfl (fun w' hS => by obtain ⟨s1, s2⟩ := hS; go_simp) (fun K hK => ?_)
        go_simp
        refine hK _ ?_
        clear hK K
        refine wpF_read (.string s) rfl (fun w' hS => by obtain ⟨s1, s2⟩ := hS; go_simp) (fun K hK => ?_)
        go_simp
        refine hK _ ?_
        clear hK K
        refine wpF_do ?_
        go_wp2_with fail
        refine PL.out.mono ?_
        rintro e w3 ⟨rfl, rfl⟩
        clear PL
        go_wp2_with fail
        refine ⟨⟨y0, y1⟩, ?_⟩
        refine wpF_do ?_
        go_wp2_with fail
        refine LY.out.mono ?_
        rintro e w4 ⟨rfl, F4, ht4⟩
        have T4 : Hid (DTo w F g r.1 w4 F4) := T1.out.then ht4
        have g4 := blk_touch ht4.touch (show (wr.alloc (.cells #[.int .i64 (n : Int), .string s] 44)).drew.heap[wr.heap.size]? = _ from G2.out) N2.out
        have v0 : w4.cell? ⟨wr.heap.size, 0, none⟩ = some (.int .i64 (n : Int)) := blk_cell g4 0
        have v1 : w4.cell? ⟨wr.heap.size, 1, none⟩ = some (.string s) := blk_cell g4 1
        clear ht4 LY g4 y0 y1 z0 z1
        go_wp2_with fail
        refine ⟨⟨v0, v1⟩, ?_⟩
        repeat (refine wpF_dry (fun K hK => ?_); go_simp; refine hK _ ?_; clear hK K)
        refine wpF_nil ?_
        have R4 : Hid ((run d (stepsB P (l.take (k + 1)))).2 = 0) := by unfold Hid; rw [LK.out, (RS _).out, ← HR.out, HW.out]
        have T5 : Hid (DTo w F g (run d (stepsB P (l.take (k + 1)))).1 w4 F4) := by unfold Hid; rw [LK.out, (RS _).out, ← HR.out]; exact T4.out
        go_wp2
        go_roundw
        case rel => first | exact ⟨k + 1, F4, hlt, by go_num, R4, T5⟩ | ((repeat apply Exists.intro); refine ⟨?_, rfl⟩; exact ⟨k + 1, F4, hlt, by go_num, R4, T5⟩)
        case measure => simp [intOf]; omega
      · have R4 : Hid (run d (stepsB P l) = r) := by
          obtain ⟨m, hm⟩ := stepsB_more P l (k + 1)
          unfold Hid
          rw [hm, run_stop (by rw [LK.out, (RS _).out, ← HR.out]; exact hw), LK.out, (RS _).out, ← HR.out]
        clear HR
        obtain ⟨r1, r2⟩ := r
        simp only at hw LY
        have d0 : (r2 != 0) = true := by simpa using hw
        clear hw RS
        go_wp2_with fail
        refine wp_region_flag (fun w' => w'.cell? ⟨wr.heap.size, 0, none⟩ = some (.int .i64 (n : Int)) ∧ w'.cell? ⟨wr.heap.size, 1, none⟩ = some (.string s)) [(0, 1), (1, 1), (2, 1), (5, 1), (3, 2), (6, 2), (4, 0), (7, 0), (8, 1)] (by kernel_rfl) (by kernel_rfl) ⟨y0, y1⟩ ?_
        simp only [ordered, List.map_cons, List.map_nil, List.getD_cons_zero, List.getD_cons_succ]
        repeat (refine wpF_dry (fun K hK => ?_); go_simp; refine hK _ ?_; clear hK K)
        refine wpF_read (.int .i64 (n : Int)) rfl (fun w' hS => by obtain ⟨s1, s2⟩ := hS; go_simp) (fun K hK => ?_)
        go_simp
        refine hK _ ?_
        clear hK K
        refine wpF_read (.string s) rfl (fun w' hS => by obtain ⟨s1, s2⟩ := hS; go_simp) (fun K hK => ?_)
        go_simp
        refine hK _ ?_
        clear hK K
        refine wpF_do ?_
        go_wp2_with fail
        refine PL.out.mono ?_
        rintro e w3 ⟨rfl, rfl⟩
        clear PL
        go_wp2_with fail
        refine ⟨⟨y0, y1⟩, ?_⟩
        refine wpF_do ?_
        go_wp2_with fail
        refine LY.out.mono ?_
        rintro e w4 ⟨rfl, F4, ht4⟩
        have T4 : Hid (DTo w F g r1 w4 F4) := T1.out.then ht4
        have g4 := blk_touch ht4.touch (show (wr.alloc (.cells #[.int .i64 (n : Int), .string s] 44)).drew.heap[wr.heap.size]? = _ from G2.out) N2.out
        have v0 : w4.cell? ⟨wr.heap.size, 0, none⟩ = some (.int .i64 (n : Int)) := blk_cell g4 0
        have v1 : w4.cell? ⟨wr.heap.size, 1, none⟩ = some (.string s) := blk_cell g4 1
        clear ht4 LY g4 y0 y1 z0 z1
        go_wp2_with fail
        refine ⟨⟨v0, v1⟩, ?_⟩
        repeat (refine wpF_dry (fun K hK => ?_); go_simp; refine hK _ ?_; clear hK K)
        refine wpF_nil ?_
        go_wp2
        go_ret
        refine ⟨by rw [R4.out]; rfl, F4, ?_⟩
        rw [R4.out]
        exact T4.out
    · obtain rfl : k = l.length := by omega
      rw [List.take_length] at he ht
      go_wp2
      go_ret
      exact ⟨by rw [he.out]; rfl, F', ht.out⟩
end Go.Proofs.Ytpaabfadniakoaa
