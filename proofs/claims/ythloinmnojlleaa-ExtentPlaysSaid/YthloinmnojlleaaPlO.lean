/- PlO: step: taking, giving back, going on with the bytes (written by gen_stepy.py). -/
import Derived.Test.YthloinmnojlleaaPlN
set_option linter.unusedVariables false
set_option linter.unusedSimpArgs false
namespace Go.Proofs.Ythloinmnojlleaa
open Go.RowKit

set_option maxHeartbeats 6400000 in
set_option maxRecDepth 100000 in
theorem step_give2 (w0 w : World) (n g : Nat) (s : Value) (nx : Nat) (gv : Value) (m : Nat) (ps : List Part) (h : Both2 w0 w n g s nx gv m ps) (hm : m ≤ 60) (h300 : n ≤ 300) (kd on ru po si : Int) (hin : OpE.In ⟨kd, on, ru, po, si⟩) (h0 : (kd == 0) = false) (h1 : (kd == 1) = false) (h2 : (kd == 2) = true) (h3 : (kd == 3) = false) :
    Calls Try.prog 20 #[.pointer (some ⟨g, 0, none⟩), .agg #[s, .int .i64 nx], gv, .agg #[.int .i64 kd, .int .i64 on, .int .i64 ru, .int .i64 po, .int .i64 si]] w fun e w' => ∃ (g' : Nat) (s' : Value) (nx' : Nat) (gv' : Value), e = .returned (.tuple #[.pointer (some ⟨g', 0, none⟩), .agg #[s', .int .i64 nx'], gv', .bool true]) ∧ Both2 w0 w' n g' s' nx' gv' (m + 1) ps := by
  obtain ⟨F, a, bits, G, HL, hn, hG, M0⟩ := h.ex
  have LK := Lib.hid HL
  have hmost := HL.ok.most
  have hpos := HL.ok.pos
  have hs0 := M0.rb (l1 := [_])
  obtain ⟨A, c, e0⟩ := hs0.slice
  rw [HL.len, hn] at e0
  subst e0
  obtain ⟨Ag, cg, rfl⟩ := (M0.out (l1 := [_, _])).slice
  obtain ⟨g0, hg0⟩ : ∃ g0, g0 = w.heap.size := ⟨_, rfl⟩
  obtain ⟨g1, hg1⟩ : ∃ g1, g1 = w.heap.size + 1 := ⟨_, rfl⟩
  obtain ⟨g2, hg2⟩ : ∃ g2, g2 = w.heap.size + 1 + 1 := ⟨_, rfl⟩
  have M1 : Hid (Mine w0 (((w.alloc (.cells #[.slice A n c, .int .i64 (nx : Nat)] 46)).alloc (.cells #[.int .i64 kd, .int .i64 on, .int .i64 ru, .int .i64 po, .int .i64 si] 32)).alloc (.cells #[.slice none 0 0, .int .i64 0] 46)) (bk g2 #[.slice none 0 0, .int .i64 0] 46 :: bk g1 #[.int .i64 kd, .int .i64 on, .int .i64 ru, .int .i64 po, .int .i64 si] 32 :: bk g0 #[.slice A n c, .int .i64 (nx : Nat)] 46 :: ar F g a :: rb (.slice A n c) bits :: rs (.slice Ag G.length cg) G :: ps)) := ((M0.newBk g0 hg0 _ _).newBk g1 (by rw [World.size_alloc]; exact hg1) _ _).newBk g2 (by rw [World.size_alloc, World.size_alloc]; exact hg2) _ _
  have HLn : Hid (bits.length = n ∧ a.size = n) := ⟨HL.len.trans hn, hn⟩
  have HGm := Lib.hid hG
  have HIN := Lib.hid hin
  obtain ⟨w3, hw3⟩ : ∃ w3, w3 = (((w.alloc (.cells #[.slice A n c, .int .i64 (nx : Nat)] 46)).alloc (.cells #[.int .i64 kd, .int .i64 on, .int .i64 ru, .int .i64 po, .int .i64 si] 32)).alloc (.cells #[.slice none 0 0, .int .i64 0] 46)) := ⟨_, rfl⟩
  rw [← hw3] at M1
  have hx := M1.out.bk (l1 := [_, _]); have ho := M1.out.bk (l1 := [_]); have hr := M1.out.bk (l1 := [])
  have k0 := blk_cell hx 0; have k1 := blk_cell hx 1; have p0 := blk_cell ho 0; have p1 := blk_cell ho 1; have p2 := blk_cell ho 2; have p3 := blk_cell ho 3; have p4 := blk_cell ho 4; have j0 := blk_cell hr 0; have j1 := blk_cell hr 1
  have f0 := blk_free hr 0; have f1 := blk_free hr 1; have fx0 := blk_free hx 0; have fx1 := blk_free hx 1
  simp only [List.getElem?_toArray, List.getElem?_cons_zero, List.getElem?_cons_succ] at k0 k1 p0 p1 p2 p3 p4 j0 j1
  clear hx ho hr
  have HG := Lib.hid (And.intro hg0 (And.intro hg1 hg2))
  rw [hg0] at k0 k1 fx0 fx1
  rw [hg1] at p0 p1 p2 p3 p4
  rw [hg2] at j0 j1 f0 f1
  rw [hw3] at k0 k1 p0 p1 p2 p3 p4 j0 j1 f0 f1 fx0 fx1
  have HW3 := Lib.hid hw3
  clear HL hn hG M0 hs0 hin hw3 h hg0 hg1 hg2
  go_enter Try.func20, Try.ntmps20
  go_wp2_with fail
  rw [← HW3.out]
  obtain ⟨g3, hg3⟩ : ∃ g3, g3 = w.heap.size + 1 + 1 + 1 := ⟨_, rfl⟩
  simp only [← hg3]
  simp only [← HG.out.2.2]
  simp only [← HG.out.2.1]
  rw [show (Value.pointer (some { block := w.heap.size, off := 0 })) = Value.pointer (some { block := g0, off := 0 }) by rw [HG.out.1]]
  clear k0 k1 p0 p1 p2 p3 p4 j0 j1 f0 f1 fx0 fx1
  have M2 : Hid (Mine w0 (w3.alloc (.cells #[.int .i64 po, .int .i64 si] 30)) _) := M1.out.newBk g3 (by rw [hg3, HW3.out, World.size_alloc, World.size_alloc, World.size_alloc]) _ _
  have HG3 := Lib.hid hg3
  have hne1 : g0 ≠ g3 := by have := HG.out; omega
  have hne2 : g3 ≠ g0 := fun e => hne1 e.symm
  clear hg3 M1
  refine (rchange_any (w3.alloc (.cells #[.int .i64 po, .int .i64 si] 30)) 0 (.slice A n c) bits (nx : Nat) (M2.out.rb (l1 := [_, _, _, _, _])) (by rw [HLn.out.1]; have := HLn.out.2; omega) (by rw [HLn.out.1]; have := HLn.out.2; omega) po si true).mono ?_
  rintro e w4 ⟨ht, b4⟩
  have HEL : Hid (a.giveE po si = chgE bits po si true) := give_like LK.out po si
  by_cases hE : chgE bits po si true = 0
  · rw [if_pos hE] at ht
    obtain ⟨s4, rfl, ho4⟩ := ht
    have hlen4 := setK_length true bits (po).toNat (si).toNat
    obtain ⟨A4, c4, e4⟩ := ho4.slice
    rw [hlen4, HLn.out.1] at e4
    subst e4
    have M4 := Lib.hid (M2.out.newRb b4 ho4)
    have HE0 : Hid (a.giveE po si = 0) := by unfold Hid; rw [HEL.out]; exact hE
    have LK2 := Lib.hid (like_give LK.out HE0.out).1
    have hx := ((M4.out.drop (l1 := [])).drop (l1 := [])).bk (l1 := [_, _]); have ho := ((M4.out.drop (l1 := [])).drop (l1 := [])).bk (l1 := [_]); have hr := ((M4.out.drop (l1 := [])).drop (l1 := [])).bk (l1 := [])
    have k0 := blk_cell hx 0; have k1 := blk_cell hx 1; have p0 := blk_cell ho 0; have p1 := blk_cell ho 1; have p2 := blk_cell ho 2; have p3 := blk_cell ho 3; have p4 := blk_cell ho 4; have j0 := blk_cell hr 0; have j1 := blk_cell hr 1
    have f0 := blk_free hr 0; have f1 := blk_free hr 1; have fx0 := blk_free hx 0; have fx1 := blk_free hx 1
    simp only [List.getElem?_toArray, List.getElem?_cons_zero, List.getElem?_cons_succ] at k0 k1 p0 p1 p2 p3 p4 j0 j1
    clear hx ho hr
    have hz9 := (M4.out.drop (l1 := [])).bk (l1 := [])
    have zz0 := blk_cell hz9 0; have zz1 := blk_cell hz9 1
    simp only [List.getElem?_toArray, List.getElem?_cons_zero, List.getElem?_cons_succ] at zz0 zz1
    clear hz9
    clear b4 ho4 hE hlen4 M2 HEL
    have M5 := Lib.hid (M4.out.setBk2 (l1 := [_, _, _, _]) (a' := .slice A4 n c4) (b' := .int .i64 (nx : Nat)))
    go_wp2_with fail
    clear k0 k1 p0 p1 p2 p3 p4 j0 j1 f0 f1 fx0 fx1
    obtain ⟨w5, hw5⟩ : ∃ w5, w5 = (w4.setCell ⟨g0, 0, none⟩ (.slice A4 n c4)).setCell ⟨g0, 1, none⟩ (.int .i64 (nx : Nat)) := ⟨_, rfl⟩
    rw [← hw5] at M5 ⊢
    clear hw5 M4
    obtain ⟨va, ha⟩ := M5.out.area (l1 := [_, _, _, _, _])
    refine (give_any w5 F g a va ha po si).mono ?_
    rintro e w6 ⟨he, ht⟩
    rw [HE0.out] at he ht
    rw [if_pos rfl] at ht
    obtain ⟨F6, ht⟩ := ht
    subst he
    have M6 := Lib.hid ((M5.out.arTo (l1 := [_, _, _, _, _]) ht).drop (l1 := [_, _, _, _, _, _]))
    clear ht ha M5
    have hr9 := ((M6.out.drop (l1 := [])).drop (l1 := [])).bk (l1 := [])
    have jj0 := blk_cell hr9 0; have jj1 := blk_cell hr9 1; have ff0 := blk_free hr9 0; have ff1 := blk_free hr9 1
    simp only [List.getElem?_toArray, List.getElem?_cons_zero, List.getElem?_cons_succ] at jj0 jj1
    clear hr9
    have hx := ((M6.out.drew.drop (l1 := [])).drop (l1 := [])).bk (l1 := [_, _]); have ho := ((M6.out.drew.drop (l1 := [])).drop (l1 := [])).bk (l1 := [_]); have hr := ((M6.out.drew.drop (l1 := [])).drop (l1 := [])).bk (l1 := [])
    have k0 := blk_cell hx 0; have k1 := blk_cell hx 1; have p0 := blk_cell ho 0; have p1 := blk_cell ho 1; have p2 := blk_cell ho 2; have p3 := blk_cell ho 3; have p4 := blk_cell ho 4; have j0 := blk_cell hr 0; have j1 := blk_cell hr 1
    have f0 := blk_free hr 0; have f1 := blk_free hr 1; have fx0 := blk_free hx 0; have fx1 := blk_free hx 1
    simp only [List.getElem?_toArray, List.getElem?_cons_zero, List.getElem?_cons_succ] at k0 k1 p0 p1 p2 p3 p4 j0 j1
    clear hx ho hr
    go_wp2_with fail
    refine wp_region_flag (fun _ => True) [(0, 1), (2, 1), (3, 1), (4, 1), (5, 1), (6, 1), (1, 0), (7, 0), (8, 1), (9, 1)] (by kernel_rfl) (by kernel_rfl) trivial ?_
    simp only [ordered, List.map_cons, List.map_nil, List.getD_cons_zero, List.getD_cons_succ]
    repeat (refine wpF_dry (fun K hK => ?_); go_simp; refine hK _ ?_; clear hK K)
    refine wpF_do ?_
    go_wp2_with fail
    refine ⟨trivial, ?_⟩
    refine wpF_do ?_
    go_wp2_with fail
    refine ⟨trivial, ?_⟩
    repeat (refine wpF_dry (fun K hK => ?_); go_simp; refine hK _ ?_; clear hK K)
    refine wpF_nil ?_
    have M7 := Lib.hid ((M6.out.setBk2 (l1 := [_, _]) (a' := .slice A4 n c4) (b' := .int .i64 (nx : Nat))).drew)
    go_wp2
    refine bodyPost_ret (ret_ra4 rfl _ rfl (M7.out.bk (l1 := [_, _]))) rfl ?_
    exact ⟨g, _, nx, _, rfl, ⟨F6, _, _, G, LK2.out, HLn.out.2, by have := HGm.out; omega, ((((M7.out.drop (l1 := [_])).drop (l1 := [_])).drop (l1 := [_])).drop (l1 := [_])).perm (List.Perm.swap _ _ _)⟩⟩
  · rw [if_neg hE] at ht
    subst ht
    obtain ⟨E, hEE⟩ : ∃ E, E = chgE bits po si true := ⟨_, rfl⟩
    rw [← hEE] at HEL hE ⊢
    have HEV := Lib.hid hE
    have M4 := Lib.hid (M2.out.below b4)
    have hx := (M4.out.drop (l1 := [])).bk (l1 := [_, _]); have ho := (M4.out.drop (l1 := [])).bk (l1 := [_]); have hr := (M4.out.drop (l1 := [])).bk (l1 := [])
    have k0 := blk_cell hx 0; have k1 := blk_cell hx 1; have p0 := blk_cell ho 0; have p1 := blk_cell ho 1; have p2 := blk_cell ho 2; have p3 := blk_cell ho 3; have p4 := blk_cell ho 4; have j0 := blk_cell hr 0; have j1 := blk_cell hr 1
    have f0 := blk_free hr 0; have f1 := blk_free hr 1; have fx0 := blk_free hx 0; have fx1 := blk_free hx 1
    simp only [List.getElem?_toArray, List.getElem?_cons_zero, List.getElem?_cons_succ] at k0 k1 p0 p1 p2 p3 p4 j0 j1
    clear hx ho hr
    have hz9 := M4.out.bk (l1 := [])
    have zz0 := blk_cell hz9 0; have zz1 := blk_cell hz9 1
    simp only [List.getElem?_toArray, List.getElem?_cons_zero, List.getElem?_cons_succ] at zz0 zz1
    clear hz9
    clear b4 hE hEE M2
    have M5 := Lib.hid (M4.out.setBk2 (l1 := [_, _, _]) (a' := .slice A n c) (b' := .int .i64 (nx : Nat)))
    go_wp2_with fail
    clear k0 k1 p0 p1 p2 p3 p4 j0 j1 f0 f1 fx0 fx1
    obtain ⟨w5, hw5⟩ : ∃ w5, w5 = (w4.setCell ⟨g0, 0, none⟩ (.slice A n c)).setCell ⟨g0, 1, none⟩ (.int .i64 (nx : Nat)) := ⟨_, rfl⟩
    rw [← hw5] at M5 ⊢
    clear hw5 M4
    obtain ⟨va, ha⟩ := M5.out.area (l1 := [_, _, _, _])
    refine (give_any w5 F g a va ha po si).mono ?_
    rintro e w6 ⟨he, ht⟩
    rw [HEL.out] at he ht
    rw [if_neg HEV.out] at ht
    subst he
    have M6 := Lib.hid (M5.out.below ht)
    clear ht ha M5
    have hr9 := (M6.out.drop (l1 := [])).bk (l1 := [])
    have jj0 := blk_cell hr9 0; have jj1 := blk_cell hr9 1; have ff0 := blk_free hr9 0; have ff1 := blk_free hr9 1
    simp only [List.getElem?_toArray, List.getElem?_cons_zero, List.getElem?_cons_succ] at jj0 jj1
    clear hr9
    have hx := (M6.out.drew.drop (l1 := [])).bk (l1 := [_, _]); have ho := (M6.out.drew.drop (l1 := [])).bk (l1 := [_]); have hr := (M6.out.drew.drop (l1 := [])).bk (l1 := [])
    have k0 := blk_cell hx 0; have k1 := blk_cell hx 1; have p0 := blk_cell ho 0; have p1 := blk_cell ho 1; have p2 := blk_cell ho 2; have p3 := blk_cell ho 3; have p4 := blk_cell ho 4; have j0 := blk_cell hr 0; have j1 := blk_cell hr 1
    have f0 := blk_free hr 0; have f1 := blk_free hr 1; have fx0 := blk_free hx 0; have fx1 := blk_free hx 1
    simp only [List.getElem?_toArray, List.getElem?_cons_zero, List.getElem?_cons_succ] at k0 k1 p0 p1 p2 p3 p4 j0 j1
    clear hx ho hr
    go_wp2_with fail
    refine wp_region_flag (fun _ => True) [(0, 1), (2, 1), (3, 1), (4, 1), (5, 1), (6, 1), (1, 0), (7, 0), (8, 1), (9, 1)] (by kernel_rfl) (by kernel_rfl) trivial ?_
    simp only [ordered, List.map_cons, List.map_nil, List.getD_cons_zero, List.getD_cons_succ]
    repeat (refine wpF_dry (fun K hK => ?_); go_simp; refine hK _ ?_; clear hK K)
    refine wpF_do ?_
    go_wp2_with fail
    refine ⟨trivial, ?_⟩
    refine wpF_do ?_
    go_wp2_with fail
    refine ⟨trivial, ?_⟩
    repeat (refine wpF_dry (fun K hK => ?_); go_simp; refine hK _ ?_; clear hK K)
    refine wpF_nil ?_
    have M7 := Lib.hid ((M6.out.setBk2 (l1 := [_]) (a' := .slice A n c) (b' := .int .i64 (nx : Nat))).drew)
    go_wp2
    refine bodyPost_ret (ret_ra4 rfl _ rfl (M7.out.bk (l1 := [_]))) rfl ?_
    exact ⟨g, _, nx, _, by simp, ⟨F, a, bits, G, LK.out, HLn.out.2, by have := HGm.out; omega, ((((M7.out.drop (l1 := [])).drop (l1 := [])).drop (l1 := [])).drop (l1 := []))⟩⟩
set_option maxHeartbeats 6400000 in
set_option maxRecDepth 100000 in
theorem step_give3n (w0 w : World) (n g : Nat) (s : Value) (nx : Nat) (gv : Value) (m : Nat) (ps : List Part) (h : Both2 w0 w n g s nx gv m ps) (hm : m ≤ 60) (h300 : n ≤ 300) (kd on ru po si : Int) (hin : OpE.In ⟨kd, on, ru, po, si⟩) (h0 : (kd == 0) = false) (h1 : (kd == 1) = false) (h2 : (kd == 2) = false) (h3 : (kd == 3) = true) (hr : decide (0 ≤ on) = false) :
    Calls Try.prog 20 #[.pointer (some ⟨g, 0, none⟩), .agg #[s, .int .i64 nx], gv, .agg #[.int .i64 kd, .int .i64 on, .int .i64 ru, .int .i64 po, .int .i64 si]] w fun e w' => ∃ (g' : Nat) (s' : Value) (nx' : Nat) (gv' : Value), e = .returned (.tuple #[.pointer (some ⟨g', 0, none⟩), .agg #[s', .int .i64 nx'], gv', .bool true]) ∧ Both2 w0 w' n g' s' nx' gv' (m + 1) ps := by
  obtain ⟨F, a, bits, G, HL, hn, hG, M0⟩ := h.ex
  have LK := Lib.hid HL
  have hmost := HL.ok.most
  have hpos := HL.ok.pos
  have hs0 := M0.rb (l1 := [_])
  obtain ⟨A, c, e0⟩ := hs0.slice
  rw [HL.len, hn] at e0
  subst e0
  obtain ⟨Ag, cg, rfl⟩ := (M0.out (l1 := [_, _])).slice
  obtain ⟨g0, hg0⟩ : ∃ g0, g0 = w.heap.size := ⟨_, rfl⟩
  obtain ⟨g1, hg1⟩ : ∃ g1, g1 = w.heap.size + 1 := ⟨_, rfl⟩
  obtain ⟨g2, hg2⟩ : ∃ g2, g2 = w.heap.size + 1 + 1 := ⟨_, rfl⟩
  have M1 : Hid (Mine w0 (((w.alloc (.cells #[.slice A n c, .int .i64 (nx : Nat)] 46)).alloc (.cells #[.int .i64 kd, .int .i64 on, .int .i64 ru, .int .i64 po, .int .i64 si] 32)).alloc (.cells #[.slice none 0 0, .int .i64 0] 46)) (bk g2 #[.slice none 0 0, .int .i64 0] 46 :: bk g1 #[.int .i64 kd, .int .i64 on, .int .i64 ru, .int .i64 po, .int .i64 si] 32 :: bk g0 #[.slice A n c, .int .i64 (nx : Nat)] 46 :: ar F g a :: rb (.slice A n c) bits :: rs (.slice Ag G.length cg) G :: ps)) := ((M0.newBk g0 hg0 _ _).newBk g1 (by rw [World.size_alloc]; exact hg1) _ _).newBk g2 (by rw [World.size_alloc, World.size_alloc]; exact hg2) _ _
  have HLn : Hid (bits.length = n ∧ a.size = n) := ⟨HL.len.trans hn, hn⟩
  have HGm := Lib.hid hG
  have HIN := Lib.hid hin
  obtain ⟨w3, hw3⟩ : ∃ w3, w3 = (((w.alloc (.cells #[.slice A n c, .int .i64 (nx : Nat)] 46)).alloc (.cells #[.int .i64 kd, .int .i64 on, .int .i64 ru, .int .i64 po, .int .i64 si] 32)).alloc (.cells #[.slice none 0 0, .int .i64 0] 46)) := ⟨_, rfl⟩
  rw [← hw3] at M1
  have hx := M1.out.bk (l1 := [_, _]); have ho := M1.out.bk (l1 := [_]); have hr := M1.out.bk (l1 := [])
  have k0 := blk_cell hx 0; have k1 := blk_cell hx 1; have p0 := blk_cell ho 0; have p1 := blk_cell ho 1; have p2 := blk_cell ho 2; have p3 := blk_cell ho 3; have p4 := blk_cell ho 4; have j0 := blk_cell hr 0; have j1 := blk_cell hr 1
  have f0 := blk_free hr 0; have f1 := blk_free hr 1; have fx0 := blk_free hx 0; have fx1 := blk_free hx 1
  simp only [List.getElem?_toArray, List.getElem?_cons_zero, List.getElem?_cons_succ] at k0 k1 p0 p1 p2 p3 p4 j0 j1
  clear hx ho hr
  have HG := Lib.hid (And.intro hg0 (And.intro hg1 hg2))
  rw [hg0] at k0 k1 fx0 fx1
  rw [hg1] at p0 p1 p2 p3 p4
  rw [hg2] at j0 j1 f0 f1
  rw [hw3] at k0 k1 p0 p1 p2 p3 p4 j0 j1 f0 f1 fx0 fx1
  have HW3 := Lib.hid hw3
  clear HL hn hG M0 hs0 hin hw3 h hg0 hg1 hg2
  go_enter Try.func20, Try.ntmps20
  go_wp2_with fail
  rw [← HW3.out]
  obtain ⟨g3, hg3⟩ : ∃ g3, g3 = w.heap.size + 1 + 1 + 1 := ⟨_, rfl⟩
  simp only [← hg3]
  simp only [← HG.out.2.2]
  simp only [← HG.out.2.1]
  rw [show (Value.pointer (some { block := w.heap.size, off := 0 })) = Value.pointer (some { block := g0, off := 0 }) by rw [HG.out.1]]
  clear k0 k1 p0 p1 p2 p3 p4 j0 j1 f0 f1 fx0 fx1
  have M2 : Hid (Mine w0 (w3.alloc (.cells #[.int .i64 po, .int .i64 si] 30)) _) := M1.out.newBk g3 (by rw [hg3, HW3.out, World.size_alloc, World.size_alloc, World.size_alloc]) _ _
  have HG3 := Lib.hid hg3
  have hne1 : g0 ≠ g3 := by have := HG.out; omega
  have hne2 : g3 ≠ g0 := fun e => hne1 e.symm
  clear hg3 M1
  refine (rchange_any (w3.alloc (.cells #[.int .i64 po, .int .i64 si] 30)) 0 (.slice A n c) bits (nx : Nat) (M2.out.rb (l1 := [_, _, _, _, _])) (by rw [HLn.out.1]; have := HLn.out.2; omega) (by rw [HLn.out.1]; have := HLn.out.2; omega) po si true).mono ?_
  rintro e w4 ⟨ht, b4⟩
  have HEL : Hid (a.giveE po si = chgE bits po si true) := give_like LK.out po si
  by_cases hE : chgE bits po si true = 0
  · rw [if_pos hE] at ht
    obtain ⟨s4, rfl, ho4⟩ := ht
    have hlen4 := setK_length true bits (po).toNat (si).toNat
    obtain ⟨A4, c4, e4⟩ := ho4.slice
    rw [hlen4, HLn.out.1] at e4
    subst e4
    have M4 := Lib.hid (M2.out.newRb b4 ho4)
    have HE0 : Hid (a.giveE po si = 0) := by unfold Hid; rw [HEL.out]; exact hE
    have LK2 := Lib.hid (like_give LK.out HE0.out).1
    have hx := ((M4.out.drop (l1 := [])).drop (l1 := [])).bk (l1 := [_, _]); have ho := ((M4.out.drop (l1 := [])).drop (l1 := [])).bk (l1 := [_]); have hr := ((M4.out.drop (l1 := [])).drop (l1 := [])).bk (l1 := [])
    have k0 := blk_cell hx 0; have k1 := blk_cell hx 1; have p0 := blk_cell ho 0; have p1 := blk_cell ho 1; have p2 := blk_cell ho 2; have p3 := blk_cell ho 3; have p4 := blk_cell ho 4; have j0 := blk_cell hr 0; have j1 := blk_cell hr 1
    have f0 := blk_free hr 0; have f1 := blk_free hr 1; have fx0 := blk_free hx 0; have fx1 := blk_free hx 1
    simp only [List.getElem?_toArray, List.getElem?_cons_zero, List.getElem?_cons_succ] at k0 k1 p0 p1 p2 p3 p4 j0 j1
    clear hx ho hr
    have hz9 := (M4.out.drop (l1 := [])).bk (l1 := [])
    have zz0 := blk_cell hz9 0; have zz1 := blk_cell hz9 1
    simp only [List.getElem?_toArray, List.getElem?_cons_zero, List.getElem?_cons_succ] at zz0 zz1
    clear hz9
    clear b4 ho4 hE hlen4 M2 HEL
    have M5 := Lib.hid (M4.out.setBk2 (l1 := [_, _, _, _]) (a' := .slice A4 n c4) (b' := .int .i64 (nx : Nat)))
    go_wp2_with fail
    clear k0 k1 p0 p1 p2 p3 p4 j0 j1 f0 f1 fx0 fx1
    obtain ⟨w5, hw5⟩ : ∃ w5, w5 = (w4.setCell ⟨g0, 0, none⟩ (.slice A4 n c4)).setCell ⟨g0, 1, none⟩ (.int .i64 (nx : Nat)) := ⟨_, rfl⟩
    rw [← hw5] at M5 ⊢
    clear hw5 M4
    obtain ⟨va, ha⟩ := M5.out.area (l1 := [_, _, _, _, _])
    refine (give_any w5 F g a va ha po si).mono ?_
    rintro e w6 ⟨he, ht⟩
    rw [HE0.out] at he ht
    rw [if_pos rfl] at ht
    obtain ⟨F6, ht⟩ := ht
    subst he
    have M6 := Lib.hid ((M5.out.arTo (l1 := [_, _, _, _, _]) ht).drop (l1 := [_, _, _, _, _, _]))
    clear ht ha M5
    have hr9 := ((M6.out.drop (l1 := [])).drop (l1 := [])).bk (l1 := [])
    have jj0 := blk_cell hr9 0; have jj1 := blk_cell hr9 1; have ff0 := blk_free hr9 0; have ff1 := blk_free hr9 1
    simp only [List.getElem?_toArray, List.getElem?_cons_zero, List.getElem?_cons_succ] at jj0 jj1
    clear hr9
    have hx := ((M6.out.drew.drop (l1 := [])).drop (l1 := [])).bk (l1 := [_, _]); have ho := ((M6.out.drew.drop (l1 := [])).drop (l1 := [])).bk (l1 := [_]); have hr := ((M6.out.drew.drop (l1 := [])).drop (l1 := [])).bk (l1 := [])
    have k0 := blk_cell hx 0; have k1 := blk_cell hx 1; have p0 := blk_cell ho 0; have p1 := blk_cell ho 1; have p2 := blk_cell ho 2; have p3 := blk_cell ho 3; have p4 := blk_cell ho 4; have j0 := blk_cell hr 0; have j1 := blk_cell hr 1
    have f0 := blk_free hr 0; have f1 := blk_free hr 1; have fx0 := blk_free hx 0; have fx1 := blk_free hx 1
    simp only [List.getElem?_toArray, List.getElem?_cons_zero, List.getElem?_cons_succ] at k0 k1 p0 p1 p2 p3 p4 j0 j1
    clear hx ho hr
    go_wp2_with fail
    refine wp_region_flag (fun _ => True) [(0, 1), (2, 1), (3, 1), (4, 1), (5, 1), (6, 1), (1, 0), (7, 0), (8, 1), (9, 1)] (by kernel_rfl) (by kernel_rfl) trivial ?_
    simp only [ordered, List.map_cons, List.map_nil, List.getD_cons_zero, List.getD_cons_succ]
    repeat (refine wpF_dry (fun K hK => ?_); go_simp; refine hK _ ?_; clear hK K)
    refine wpF_do ?_
    go_wp2_with fail
    refine ⟨trivial, ?_⟩
    refine wpF_do ?_
    go_wp2_with fail
    refine ⟨trivial, ?_⟩
    repeat (refine wpF_dry (fun K hK => ?_); go_simp; refine hK _ ?_; clear hK K)
    refine wpF_nil ?_
    have M7 := Lib.hid ((M6.out.setBk2 (l1 := [_, _]) (a' := .slice A4 n c4) (b' := .int .i64 (nx : Nat))).drew)
    go_wp2
    refine bodyPost_ret (ret_ra4 rfl _ rfl (M7.out.bk (l1 := [_, _]))) rfl ?_
    exact ⟨g, _, nx, _, rfl, ⟨F6, _, _, G, LK2.out, HLn.out.2, by have := HGm.out; omega, ((((M7.out.drop (l1 := [_])).drop (l1 := [_])).drop (l1 := [_])).drop (l1 := [_])).perm (List.Perm.swap _ _ _)⟩⟩
  · rw [if_neg hE] at ht
    subst ht
    obtain ⟨E, hEE⟩ : ∃ E, E = chgE bits po si true := ⟨_, rfl⟩
    rw [← hEE] at HEL hE ⊢
    have HEV := Lib.hid hE
    have M4 := Lib.hid (M2.out.below b4)
    have hx := (M4.out.drop (l1 := [])).bk (l1 := [_, _]); have ho := (M4.out.drop (l1 := [])).bk (l1 := [_]); have hr := (M4.out.drop (l1 := [])).bk (l1 := [])
    have k0 := blk_cell hx 0; have k1 := blk_cell hx 1; have p0 := blk_cell ho 0; have p1 := blk_cell ho 1; have p2 := blk_cell ho 2; have p3 := blk_cell ho 3; have p4 := blk_cell ho 4; have j0 := blk_cell hr 0; have j1 := blk_cell hr 1
    have f0 := blk_free hr 0; have f1 := blk_free hr 1; have fx0 := blk_free hx 0; have fx1 := blk_free hx 1
    simp only [List.getElem?_toArray, List.getElem?_cons_zero, List.getElem?_cons_succ] at k0 k1 p0 p1 p2 p3 p4 j0 j1
    clear hx ho hr
    have hz9 := M4.out.bk (l1 := [])
    have zz0 := blk_cell hz9 0; have zz1 := blk_cell hz9 1
    simp only [List.getElem?_toArray, List.getElem?_cons_zero, List.getElem?_cons_succ] at zz0 zz1
    clear hz9
    clear b4 hE hEE M2
    have M5 := Lib.hid (M4.out.setBk2 (l1 := [_, _, _]) (a' := .slice A n c) (b' := .int .i64 (nx : Nat)))
    go_wp2_with fail
    clear k0 k1 p0 p1 p2 p3 p4 j0 j1 f0 f1 fx0 fx1
    obtain ⟨w5, hw5⟩ : ∃ w5, w5 = (w4.setCell ⟨g0, 0, none⟩ (.slice A n c)).setCell ⟨g0, 1, none⟩ (.int .i64 (nx : Nat)) := ⟨_, rfl⟩
    rw [← hw5] at M5 ⊢
    clear hw5 M4
    obtain ⟨va, ha⟩ := M5.out.area (l1 := [_, _, _, _])
    refine (give_any w5 F g a va ha po si).mono ?_
    rintro e w6 ⟨he, ht⟩
    rw [HEL.out] at he ht
    rw [if_neg HEV.out] at ht
    subst he
    have M6 := Lib.hid (M5.out.below ht)
    clear ht ha M5
    have hr9 := (M6.out.drop (l1 := [])).bk (l1 := [])
    have jj0 := blk_cell hr9 0; have jj1 := blk_cell hr9 1; have ff0 := blk_free hr9 0; have ff1 := blk_free hr9 1
    simp only [List.getElem?_toArray, List.getElem?_cons_zero, List.getElem?_cons_succ] at jj0 jj1
    clear hr9
    have hx := (M6.out.drew.drop (l1 := [])).bk (l1 := [_, _]); have ho := (M6.out.drew.drop (l1 := [])).bk (l1 := [_]); have hr := (M6.out.drew.drop (l1 := [])).bk (l1 := [])
    have k0 := blk_cell hx 0; have k1 := blk_cell hx 1; have p0 := blk_cell ho 0; have p1 := blk_cell ho 1; have p2 := blk_cell ho 2; have p3 := blk_cell ho 3; have p4 := blk_cell ho 4; have j0 := blk_cell hr 0; have j1 := blk_cell hr 1
    have f0 := blk_free hr 0; have f1 := blk_free hr 1; have fx0 := blk_free hx 0; have fx1 := blk_free hx 1
    simp only [List.getElem?_toArray, List.getElem?_cons_zero, List.getElem?_cons_succ] at k0 k1 p0 p1 p2 p3 p4 j0 j1
    clear hx ho hr
    go_wp2_with fail
    refine wp_region_flag (fun _ => True) [(0, 1), (2, 1), (3, 1), (4, 1), (5, 1), (6, 1), (1, 0), (7, 0), (8, 1), (9, 1)] (by kernel_rfl) (by kernel_rfl) trivial ?_
    simp only [ordered, List.map_cons, List.map_nil, List.getD_cons_zero, List.getD_cons_succ]
    repeat (refine wpF_dry (fun K hK => ?_); go_simp; refine hK _ ?_; clear hK K)
    refine wpF_do ?_
    go_wp2_with fail
    refine ⟨trivial, ?_⟩
    refine wpF_do ?_
    go_wp2_with fail
    refine ⟨trivial, ?_⟩
    repeat (refine wpF_dry (fun K hK => ?_); go_simp; refine hK _ ?_; clear hK K)
    refine wpF_nil ?_
    have M7 := Lib.hid ((M6.out.setBk2 (l1 := [_]) (a' := .slice A n c) (b' := .int .i64 (nx : Nat))).drew)
    go_wp2
    refine bodyPost_ret (ret_ra4 rfl _ rfl (M7.out.bk (l1 := [_]))) rfl ?_
    exact ⟨g, _, nx, _, by simp, ⟨F, a, bits, G, LK.out, HLn.out.2, by have := HGm.out; omega, ((((M7.out.drop (l1 := [])).drop (l1 := [])).drop (l1 := [])).drop (l1 := []))⟩⟩
end Go.Proofs.Ythloinmnojlleaa
