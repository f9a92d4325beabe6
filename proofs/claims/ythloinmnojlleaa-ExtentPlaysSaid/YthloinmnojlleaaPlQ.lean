/- PlQ: step: taking, giving back, going on with the bytes (written by gen_stepy.py). -/
import Derived.Test.YthloinmnojlleaaPlO
set_option linter.unusedVariables false
set_option linter.unusedSimpArgs false
namespace Go.Proofs.Ythloinmnojlleaa
open Go.RowKit

theorem encH_len {N : Nat} (hN : N ≤ 1048576) : ∀ (e : Nat) (L : List (Nat × Nat)) {lo : Nat}, Lies N lo L → (encH e L).length ≤ 18 * L.length
  | e, [], _, _ => by simp [encH]
  | e, h :: L, lo, hl => by
    obtain ⟨h1, h2, h3, h4⟩ := hl
    have := encH_len hN (h.1 + h.2) L h4
    have q1 := putN_len 9 (h.1 - e) (small_pow (by omega)) (by decide)
    have q2 := putN_len 9 h.2 (small_pow (by omega)) (by decide)
    rw [encH, List.length_append, List.length_append, List.length_cons]
    omega
theorem enc_len {a : Ar} (h : a.Ok) : a.enc.length ≤ 18 + 18 * a.holes.length := by
  have := encH_len h.most 0 a.holes h.lies
  have q1 := putN_len 9 a.size (small_pow (by have := h.most; omega)) (by decide)
  have q2 := putN_len 9 a.holes.length (small_pow h.few) (by decide)
  unfold Ar.enc
  rw [List.length_append, List.length_append]
  omega
set_option maxHeartbeats 6400000 in
set_option maxRecDepth 100000 in
theorem step_give3y (w0 w : World) (n g : Nat) (s : Value) (nx : Nat) (gv : Value) (m : Nat) (ps : List Part) (h : Both2 w0 w n g s nx gv m ps) (hm : m ≤ 60) (h300 : n ≤ 300) (kd on ru po si : Int) (hin : OpE.In ⟨kd, on, ru, po, si⟩) (h0 : (kd == 0) = false) (h1 : (kd == 1) = false) (h2 : (kd == 2) = false) (h3 : (kd == 3) = true) (hr0 : 0 ≤ on) :
    Calls Try.prog 20 #[.pointer (some ⟨g, 0, none⟩), .agg #[s, .int .i64 nx], gv, .agg #[.int .i64 kd, .int .i64 on, .int .i64 ru, .int .i64 po, .int .i64 si]] w fun e w' => ∃ (g' : Nat) (s' : Value) (nx' : Nat) (gv' : Value), e = .returned (.tuple #[.pointer (some ⟨g', 0, none⟩), .agg #[s', .int .i64 nx'], gv', .bool true]) ∧ Both2 w0 w' n g' s' nx' gv' (m + 1) ps := by
  obtain ⟨F, a, bits, G, HL, hn, hG, M0⟩ := h.ex
  have LK := Lib.hid HL
  have hmost := HL.ok.most
  have hpos := HL.ok.pos
  have hs0 := M0.rb (l1 := [_])
  obtain ⟨A, c, e0⟩ := hs0.slice
  rw [HL.len, hn] at e0
  subst e0
  obtain ⟨Ag, cg, rfl⟩ := (M0.out (l1 := [_, _])).slice
  obtain ⟨g0, hg0⟩ : ∃ g0, g0 = w.heap.size := ⟨_, rfl⟩
  obtain ⟨g1, hg1⟩ : ∃ g1, g1 = w.heap.size + 1 := ⟨_, rfl⟩
  obtain ⟨g2, hg2⟩ : ∃ g2, g2 = w.heap.size + 1 + 1 := ⟨_, rfl⟩
  have M1 : Hid (Mine w0 (((w.alloc (.cells #[.slice A n c, .int .i64 (nx : Nat)] 46)).alloc (.cells #[.int .i64 kd, .int .i64 on, .int .i64 ru, .int .i64 po, .int .i64 si] 32)).alloc (.cells #[.slice none 0 0, .int .i64 0] 46)) (bk g2 #[.slice none 0 0, .int .i64 0] 46 :: bk g1 #[.int .i64 kd, .int .i64 on, .int .i64 ru, .int .i64 po, .int .i64 si] 32 :: bk g0 #[.slice A n c, .int .i64 (nx : Nat)] 46 :: ar F g a :: rb (.slice A n c) bits :: rs (.slice Ag G.length cg) G :: ps)) := ((M0.newBk g0 hg0 _ _).newBk g1 (by rw [World.size_alloc]; exact hg1) _ _).newBk g2 (by rw [World.size_alloc, World.size_alloc]; exact hg2) _ _
  have HLn : Hid (bits.length = n ∧ a.size = n) := ⟨HL.len.trans hn, hn⟩
  have HGm := Lib.hid hG
  have HIN := Lib.hid hin
  obtain ⟨w3, hw3⟩ : ∃ w3, w3 = (((w.alloc (.cells #[.slice A n c, .int .i64 (nx : Nat)] 46)).alloc (.cells #[.int .i64 kd, .int .i64 on, .int .i64 ru, .int .i64 po, .int .i64 si] 32)).alloc (.cells #[.slice none 0 0, .int .i64 0] 46)) := ⟨_, rfl⟩
  rw [← hw3] at M1
  obtain ⟨k, rfl⟩ := Int.eq_ofNat_of_zero_le hr0
  have dr0 : decide ((0 : Int) ≤ (k : Int)) = true := by simp
  clear hr0
  by_cases hr : k < G.length
  · obtain ⟨gg, cc, e1, _, hgs, hc⟩ := (M0.out (l1 := [_, _])).at_ (by omega)
    injection e1 with e1 e2 e3
    subst e1
    obtain ⟨z1, z2⟩ := hc k hr
    have dr : decide (k < G.length) = true := by simpa using hr
    have hrG := hr
    generalize G[k] = x at z1 z2
    clear hc e2 e3 hr
    have BW4 : Below w.heap.size w ((((w.alloc (.cells #[.slice A n c, .int .i64 (nx : Nat)] 46)).alloc (.cells #[.int .i64 kd, .int .i64 (k : Nat), .int .i64 ru, .int .i64 po, .int .i64 si] 32)).alloc (.cells #[.slice none 0 0, .int .i64 0] 46)).alloc (.cells #[.int .i64 po, .int .i64 si] 30)) := ((((Below.refl _ w).alloc (Nat.le_refl _) _).alloc (by simp) _).alloc (by simp; omega) _).alloc (by simp; omega) _
    replace z1 := cell_below BW4 z1; replace z2 := cell_below BW4 z2
    clear BW4
    have hx := M1.out.bk (l1 := [_, _]); have ho := M1.out.bk (l1 := [_]); have hr := M1.out.bk (l1 := [])
    have k0 := blk_cell hx 0; have k1 := blk_cell hx 1; have p0 := blk_cell ho 0; have p1 := blk_cell ho 1; have p2 := blk_cell ho 2; have p3 := blk_cell ho 3; have p4 := blk_cell ho 4; have j0 := blk_cell hr 0; have j1 := blk_cell hr 1
    have f0 := blk_free hr 0; have f1 := blk_free hr 1; have fx0 := blk_free hx 0; have fx1 := blk_free hx 1
    simp only [List.getElem?_toArray, List.getElem?_cons_zero, List.getElem?_cons_succ] at k0 k1 p0 p1 p2 p3 p4 j0 j1
    clear hx ho hr
    have HG := Lib.hid (And.intro hg0 (And.intro hg1 hg2))
    rw [hg0] at k0 k1 fx0 fx1
    rw [hg1] at p0 p1 p2 p3 p4
    rw [hg2] at j0 j1 f0 f1
    rw [hw3] at k0 k1 p0 p1 p2 p3 p4 j0 j1 f0 f1 fx0 fx1
    have HW3 := Lib.hid hw3
    clear HL hn hG M0 hs0 hin hw3 h hg0 hg1 hg2
    go_enter Try.func20, Try.ntmps20
    go_wp2_with fail
    rw [← HW3.out]
    obtain ⟨g3, hg3⟩ : ∃ g3, g3 = w.heap.size + 1 + 1 + 1 := ⟨_, rfl⟩
    simp only [← hg3]
    simp only [← HG.out.2.2]
    simp only [← HG.out.2.1]
    rw [show (Value.pointer (some { block := w.heap.size, off := 0 })) = Value.pointer (some { block := g0, off := 0 }) by rw [HG.out.1]]
    clear k0 k1 p0 p1 p2 p3 p4 j0 j1 f0 f1 fx0 fx1
    have M2 : Hid (Mine w0 (w3.alloc (.cells #[.int .i64 ((x.1 : Nat) : Int), .int .i64 ((x.2 : Nat) : Int)] 30)) _) := M1.out.newBk g3 (by rw [hg3, HW3.out, World.size_alloc, World.size_alloc, World.size_alloc]) _ _
    have HG3 := Lib.hid hg3
    have hne1 : g0 ≠ g3 := by have := HG.out; omega
    have hne2 : g3 ≠ g0 := fun e => hne1 e.symm
    clear hg3 M1
    refine (rchange_any (w3.alloc (.cells #[.int .i64 ((x.1 : Nat) : Int), .int .i64 ((x.2 : Nat) : Int)] 30)) 0 (.slice A n c) bits (nx : Nat) (M2.out.rb (l1 := [_, _, _, _, _])) (by rw [HLn.out.1]; have := HLn.out.2; omega) (by rw [HLn.out.1]; have := HLn.out.2; omega) ((x.1 : Nat) : Int) ((x.2 : Nat) : Int) true).mono ?_
    rintro e w4 ⟨ht, b4⟩
    have HEL : Hid (a.giveE ((x.1 : Nat) : Int) ((x.2 : Nat) : Int) = chgE bits ((x.1 : Nat) : Int) ((x.2 : Nat) : Int) true) := give_like LK.out ((x.1 : Nat) : Int) ((x.2 : Nat) : Int)
    by_cases hE : chgE bits ((x.1 : Nat) : Int) ((x.2 : Nat) : Int) true = 0
    · rw [if_pos hE] at ht
      obtain ⟨s4, rfl, ho4⟩ := ht
      have hlen4 := setK_length true bits (((x.1 : Nat) : Int)).toNat (((x.2 : Nat) : Int)).toNat
      obtain ⟨A4, c4, e4⟩ := ho4.slice
      rw [hlen4, HLn.out.1] at e4
      subst e4
      have M4 := Lib.hid (M2.out.newRb b4 ho4)
      have HE0 : Hid (a.giveE ((x.1 : Nat) : Int) ((x.2 : Nat) : Int) = 0) := by unfold Hid; rw [HEL.out]; exact hE
      have LK2 := Lib.hid (like_give LK.out HE0.out).1
      have hx := ((M4.out.drop (l1 := [])).drop (l1 := [])).bk (l1 := [_, _]); have ho := ((M4.out.drop (l1 := [])).drop (l1 := [])).bk (l1 := [_]); have hr := ((M4.out.drop (l1 := [])).drop (l1 := [])).bk (l1 := [])
      have k0 := blk_cell hx 0; have k1 := blk_cell hx 1; have p0 := blk_cell ho 0; have p1 := blk_cell ho 1; have p2 := blk_cell ho 2; have p3 := blk_cell ho 3; have p4 := blk_cell ho 4; have j0 := blk_cell hr 0; have j1 := blk_cell hr 1
      have f0 := blk_free hr 0; have f1 := blk_free hr 1; have fx0 := blk_free hx 0; have fx1 := blk_free hx 1
      simp only [List.getElem?_toArray, List.getElem?_cons_zero, List.getElem?_cons_succ] at k0 k1 p0 p1 p2 p3 p4 j0 j1
      clear hx ho hr
      have hz9 := (M4.out.drop (l1 := [])).bk (l1 := [])
      have zz0 := blk_cell hz9 0; have zz1 := blk_cell hz9 1
      simp only [List.getElem?_toArray, List.getElem?_cons_zero, List.getElem?_cons_succ] at zz0 zz1
      clear hz9
      clear b4 ho4 hE hlen4 M2 HEL
      have M5 := Lib.hid (M4.out.setBk2 (l1 := [_, _, _, _]) (a' := .slice A4 n c4) (b' := .int .i64 (nx : Nat)))
      go_wp2_with fail
      clear k0 k1 p0 p1 p2 p3 p4 j0 j1 f0 f1 fx0 fx1
      obtain ⟨w5, hw5⟩ : ∃ w5, w5 = (w4.setCell ⟨g0, 0, none⟩ (.slice A4 n c4)).setCell ⟨g0, 1, none⟩ (.int .i64 (nx : Nat)) := ⟨_, rfl⟩
      rw [← hw5] at M5 ⊢
      clear hw5 M4
      obtain ⟨va, ha⟩ := M5.out.area (l1 := [_, _, _, _, _])
      refine (give_any w5 F g a va ha ((x.1 : Nat) : Int) ((x.2 : Nat) : Int)).mono ?_
      rintro e w6 ⟨he, ht⟩
      rw [HE0.out] at he ht
      rw [if_pos rfl] at ht
      obtain ⟨F6, ht⟩ := ht
      subst he
      have M6 := Lib.hid ((M5.out.arTo (l1 := [_, _, _, _, _]) ht).drop (l1 := [_, _, _, _, _, _]))
      clear ht ha M5
      have hr9 := ((M6.out.drop (l1 := [])).drop (l1 := [])).bk (l1 := [])
      have jj0 := blk_cell hr9 0; have jj1 := blk_cell hr9 1; have ff0 := blk_free hr9 0; have ff1 := blk_free hr9 1
      simp only [List.getElem?_toArray, List.getElem?_cons_zero, List.getElem?_cons_succ] at jj0 jj1
      clear hr9
      have hx := ((M6.out.drew.drop (l1 := [])).drop (l1 := [])).bk (l1 := [_, _]); have ho := ((M6.out.drew.drop (l1 := [])).drop (l1 := [])).bk (l1 := [_]); have hr := ((M6.out.drew.drop (l1 := [])).drop (l1 := [])).bk (l1 := [])
      have k0 := blk_cell hx 0; have k1 := blk_cell hx 1; have p0 := blk_cell ho 0; have p1 := blk_cell ho 1; have p2 := blk_cell ho 2; have p3 := blk_cell ho 3; have p4 := blk_cell ho 4; have j0 := blk_cell hr 0; have j1 := blk_cell hr 1
      have f0 := blk_free hr 0; have f1 := blk_free hr 1; have fx0 := blk_free hx 0; have fx1 := blk_free hx 1
      simp only [List.getElem?_toArray, List.getElem?_cons_zero, List.getElem?_cons_succ] at k0 k1 p0 p1 p2 p3 p4 j0 j1
      clear hx ho hr
      go_wp2_with fail
      refine wp_region_flag (fun _ => True) [(0, 1), (2, 1), (3, 1), (4, 1), (5, 1), (6, 1), (1, 0), (7, 0), (8, 1), (9, 1)] (by kernel_rfl) (by kernel_rfl) trivial ?_
      simp only [ordered, List.map_cons, List.map_nil, List.getD_cons_zero, List.getD_cons_succ]
      repeat (refine wpF_dry (fun K hK => ?_); go_simp; refine hK _ ?_; clear hK K)
      refine wpF_do ?_
      go_wp2_with fail
      refine ⟨trivial, ?_⟩
      refine wpF_do ?_
      go_wp2_with fail
      refine ⟨trivial, ?_⟩
      repeat (refine wpF_dry (fun K hK => ?_); go_simp; refine hK _ ?_; clear hK K)
      refine wpF_nil ?_
      have M7 := Lib.hid ((M6.out.setBk2 (l1 := [_, _]) (a' := .slice A4 n c4) (b' := .int .i64 (nx : Nat))).drew)
      go_wp2
      refine bodyPost_ret (ret_ra4 rfl _ rfl (M7.out.bk (l1 := [_, _]))) rfl ?_
      exact ⟨g, _, nx, _, rfl, ⟨F6, _, _, G, LK2.out, HLn.out.2, by have := HGm.out; omega, ((((M7.out.drop (l1 := [_])).drop (l1 := [_])).drop (l1 := [_])).drop (l1 := [_])).perm (List.Perm.swap _ _ _)⟩⟩
    · rw [if_neg hE] at ht
      subst ht
      obtain ⟨E, hEE⟩ : ∃ E, E = chgE bits ((x.1 : Nat) : Int) ((x.2 : Nat) : Int) true := ⟨_, rfl⟩
      rw [← hEE] at HEL hE ⊢
      have HEV := Lib.hid hE
      have M4 := Lib.hid (M2.out.below b4)
      have hx := (M4.out.drop (l1 := [])).bk (l1 := [_, _]); have ho := (M4.out.drop (l1 := [])).bk (l1 := [_]); have hr := (M4.out.drop (l1 := [])).bk (l1 := [])
      have k0 := blk_cell hx 0; have k1 := blk_cell hx 1; have p0 := blk_cell ho 0; have p1 := blk_cell ho 1; have p2 := blk_cell ho 2; have p3 := blk_cell ho 3; have p4 := blk_cell ho 4; have j0 := blk_cell hr 0; have j1 := blk_cell hr 1
      have f0 := blk_free hr 0; have f1 := blk_free hr 1; have fx0 := blk_free hx 0; have fx1 := blk_free hx 1
      simp only [List.getElem?_toArray, List.getElem?_cons_zero, List.getElem?_cons_succ] at k0 k1 p0 p1 p2 p3 p4 j0 j1
      clear hx ho hr
      have hz9 := M4.out.bk (l1 := [])
      have zz0 := blk_cell hz9 0; have zz1 := blk_cell hz9 1
      simp only [List.getElem?_toArray, List.getElem?_cons_zero, List.getElem?_cons_succ] at zz0 zz1
      clear hz9
      clear b4 hE hEE M2
      have M5 := Lib.hid (M4.out.setBk2 (l1 := [_, _, _]) (a' := .slice A n c) (b' := .int .i64 (nx : Nat)))
      go_wp2_with fail
      clear k0 k1 p0 p1 p2 p3 p4 j0 j1 f0 f1 fx0 fx1
      obtain ⟨w5, hw5⟩ : ∃ w5, w5 = (w4.setCell ⟨g0, 0, none⟩ (.slice A n c)).setCell ⟨g0, 1, none⟩ (.int .i64 (nx : Nat)) := ⟨_, rfl⟩
      rw [← hw5] at M5 ⊢
      clear hw5 M4
      obtain ⟨va, ha⟩ := M5.out.area (l1 := [_, _, _, _])
      refine (give_any w5 F g a va ha ((x.1 : Nat) : Int) ((x.2 : Nat) : Int)).mono ?_
      rintro e w6 ⟨he, ht⟩
      rw [HEL.out] at he ht
      rw [if_neg HEV.out] at ht
      subst he
      have M6 := Lib.hid (M5.out.below ht)
      clear ht ha M5
      have hr9 := (M6.out.drop (l1 := [])).bk (l1 := [])
      have jj0 := blk_cell hr9 0; have jj1 := blk_cell hr9 1; have ff0 := blk_free hr9 0; have ff1 := blk_free hr9 1
      simp only [List.getElem?_toArray, List.getElem?_cons_zero, List.getElem?_cons_succ] at jj0 jj1
      clear hr9
      have hx := (M6.out.drew.drop (l1 := [])).bk (l1 := [_, _]); have ho := (M6.out.drew.drop (l1 := [])).bk (l1 := [_]); have hr := (M6.out.drew.drop (l1 := [])).bk (l1 := [])
      have k0 := blk_cell hx 0; have k1 := blk_cell hx 1; have p0 := blk_cell ho 0; have p1 := blk_cell ho 1; have p2 := blk_cell ho 2; have p3 := blk_cell ho 3; have p4 := blk_cell ho 4; have j0 := blk_cell hr 0; have j1 := blk_cell hr 1
      have f0 := blk_free hr 0; have f1 := blk_free hr 1; have fx0 := blk_free hx 0; have fx1 := blk_free hx 1
      simp only [List.getElem?_toArray, List.getElem?_cons_zero, List.getElem?_cons_succ] at k0 k1 p0 p1 p2 p3 p4 j0 j1
      clear hx ho hr
      go_wp2_with fail
      refine wp_region_flag (fun _ => True) [(0, 1), (2, 1), (3, 1), (4, 1), (5, 1), (6, 1), (1, 0), (7, 0), (8, 1), (9, 1)] (by kernel_rfl) (by kernel_rfl) trivial ?_
      simp only [ordered, List.map_cons, List.map_nil, List.getD_cons_zero, List.getD_cons_succ]
      repeat (refine wpF_dry (fun K hK => ?_); go_simp; refine hK _ ?_; clear hK K)
      refine wpF_do ?_
      go_wp2_with fail
      refine ⟨trivial, ?_⟩
      refine wpF_do ?_
      go_wp2_with fail
      refine ⟨trivial, ?_⟩
      repeat (refine wpF_dry (fun K hK => ?_); go_simp; refine hK _ ?_; clear hK K)
      refine wpF_nil ?_
      have M7 := Lib.hid ((M6.out.setBk2 (l1 := [_]) (a' := .slice A n c) (b' := .int .i64 (nx : Nat))).drew)
      go_wp2
      refine bodyPost_ret (ret_ra4 rfl _ rfl (M7.out.bk (l1 := [_]))) rfl ?_
      exact ⟨g, _, nx, _, by simp, ⟨F, a, bits, G, LK.out, HLn.out.2, by have := HGm.out; omega, ((((M7.out.drop (l1 := [])).drop (l1 := [])).drop (l1 := [])).drop (l1 := []))⟩⟩
  · have dr : decide (k < G.length) = false := by simpa using hr
    have hx := M1.out.bk (l1 := [_, _]); have ho := M1.out.bk (l1 := [_]); have hr := M1.out.bk (l1 := [])
    have k0 := blk_cell hx 0; have k1 := blk_cell hx 1; have p0 := blk_cell ho 0; have p1 := blk_cell ho 1; have p2 := blk_cell ho 2; have p3 := blk_cell ho 3; have p4 := blk_cell ho 4; have j0 := blk_cell hr 0; have j1 := blk_cell hr 1
    have f0 := blk_free hr 0; have f1 := blk_free hr 1; have fx0 := blk_free hx 0; have fx1 := blk_free hx 1
    simp only [List.getElem?_toArray, List.getElem?_cons_zero, List.getElem?_cons_succ] at k0 k1 p0 p1 p2 p3 p4 j0 j1
    clear hx ho hr
    have HG := Lib.hid (And.intro hg0 (And.intro hg1 hg2))
    rw [hg0] at k0 k1 fx0 fx1
    rw [hg1] at p0 p1 p2 p3 p4
    rw [hg2] at j0 j1 f0 f1
    rw [hw3] at k0 k1 p0 p1 p2 p3 p4 j0 j1 f0 f1 fx0 fx1
    have HW3 := Lib.hid hw3
    clear HL hn hG M0 hs0 hin hw3 h hg0 hg1 hg2
    go_enter Try.func20, Try.ntmps20
    go_wp2_with fail
    rw [← HW3.out]
    obtain ⟨g3, hg3⟩ : ∃ g3, g3 = w.heap.size + 1 + 1 + 1 := ⟨_, rfl⟩
    simp only [← hg3]
    simp only [← HG.out.2.2]
    simp only [← HG.out.2.1]
    rw [show (Value.pointer (some { block := w.heap.size, off := 0 })) = Value.pointer (some { block := g0, off := 0 }) by rw [HG.out.1]]
    clear k0 k1 p0 p1 p2 p3 p4 j0 j1 f0 f1 fx0 fx1
    have M2 : Hid (Mine w0 (w3.alloc (.cells #[.int .i64 po, .int .i64 si] 30)) _) := M1.out.newBk g3 (by rw [hg3, HW3.out, World.size_alloc, World.size_alloc, World.size_alloc]) _ _
    have HG3 := Lib.hid hg3
    have hne1 : g0 ≠ g3 := by have := HG.out; omega
    have hne2 : g3 ≠ g0 := fun e => hne1 e.symm
    clear hg3 M1
    refine (rchange_any (w3.alloc (.cells #[.int .i64 po, .int .i64 si] 30)) 0 (.slice A n c) bits (nx : Nat) (M2.out.rb (l1 := [_, _, _, _, _])) (by rw [HLn.out.1]; have := HLn.out.2; omega) (by rw [HLn.out.1]; have := HLn.out.2; omega) po si true).mono ?_
    rintro e w4 ⟨ht, b4⟩
    have HEL : Hid (a.giveE po si = chgE bits po si true) := give_like LK.out po si
    by_cases hE : chgE bits po si true = 0
    · rw [if_pos hE] at ht
      obtain ⟨s4, rfl, ho4⟩ := ht
      have hlen4 := setK_length true bits (po).toNat (si).toNat
      obtain ⟨A4, c4, e4⟩ := ho4.slice
      rw [hlen4, HLn.out.1] at e4
      subst e4
      have M4 := Lib.hid (M2.out.newRb b4 ho4)
      have HE0 : Hid (a.giveE po si = 0) := by unfold Hid; rw [HEL.out]; exact hE
      have LK2 := Lib.hid (like_give LK.out HE0.out).1
      have hx := ((M4.out.drop (l1 := [])).drop (l1 := [])).bk (l1 := [_, _]); have ho := ((M4.out.drop (l1 := [])).drop (l1 := [])).bk (l1 := [_]); have hr := ((M4.out.drop (l1 := [])).drop (l1 := [])).bk (l1 := [])
      have k0 := blk_cell hx 0; have k1 := blk_cell hx 1; have p0 := blk_cell ho 0; have p1 := blk_cell ho 1; have p2 := blk_cell ho 2; have p3 := blk_cell ho 3; have p4 := blk_cell ho 4; have j0 := blk_cell hr 0; have j1 := blk_cell hr 1
      have f0 := blk_free hr 0; have f1 := blk_free hr 1; have fx0 := blk_free hx 0; have fx1 := blk_free hx 1
      simp only [List.getElem?_toArray, List.getElem?_cons_zero, List.getElem?_cons_succ] at k0 k1 p0 p1 p2 p3 p4 j0 j1
      clear hx ho hr
      have hz9 := (M4.out.drop (l1 := [])).bk (l1 := [])
      have zz0 := blk_cell hz9 0; have zz1 := blk_cell hz9 1
      simp only [List.getElem?_toArray, List.getElem?_cons_zero, List.getElem?_cons_succ] at zz0 zz1
      clear hz9
      clear b4 ho4 hE hlen4 M2 HEL
      have M5 := Lib.hid (M4.out.setBk2 (l1 := [_, _, _, _]) (a' := .slice A4 n c4) (b' := .int .i64 (nx : Nat)))
      go_wp2_with fail
      clear k0 k1 p0 p1 p2 p3 p4 j0 j1 f0 f1 fx0 fx1
      obtain ⟨w5, hw5⟩ : ∃ w5, w5 = (w4.setCell ⟨g0, 0, none⟩ (.slice A4 n c4)).setCell ⟨g0, 1, none⟩ (.int .i64 (nx : Nat)) := ⟨_, rfl⟩
      rw [← hw5] at M5 ⊢
      clear hw5 M4
      obtain ⟨va, ha⟩ := M5.out.area (l1 := [_, _, _, _, _])
      refine (give_any w5 F g a va ha po si).mono ?_
      rintro e w6 ⟨he, ht⟩
      rw [HE0.out] at he ht
      rw [if_pos rfl] at ht
      obtain ⟨F6, ht⟩ := ht
      subst he
      have M6 := Lib.hid ((M5.out.arTo (l1 := [_, _, _, _, _]) ht).drop (l1 := [_, _, _, _, _, _]))
      clear ht ha M5
      have hr9 := ((M6.out.drop (l1 := [])).drop (l1 := [])).bk (l1 := [])
      have jj0 := blk_cell hr9 0; have jj1 := blk_cell hr9 1; have ff0 := blk_free hr9 0; have ff1 := blk_free hr9 1
      simp only [List.getElem?_toArray, List.getElem?_cons_zero, List.getElem?_cons_succ] at jj0 jj1
      clear hr9
      have hx := ((M6.out.drew.drop (l1 := [])).drop (l1 := [])).bk (l1 := [_, _]); have ho := ((M6.out.drew.drop (l1 := [])).drop (l1 := [])).bk (l1 := [_]); have hr := ((M6.out.drew.drop (l1 := [])).drop (l1 := [])).bk (l1 := [])
      have k0 := blk_cell hx 0; have k1 := blk_cell hx 1; have p0 := blk_cell ho 0; have p1 := blk_cell ho 1; have p2 := blk_cell ho 2; have p3 := blk_cell ho 3; have p4 := blk_cell ho 4; have j0 := blk_cell hr 0; have j1 := blk_cell hr 1
      have f0 := blk_free hr 0; have f1 := blk_free hr 1; have fx0 := blk_free hx 0; have fx1 := blk_free hx 1
      simp only [List.getElem?_toArray, List.getElem?_cons_zero, List.getElem?_cons_succ] at k0 k1 p0 p1 p2 p3 p4 j0 j1
      clear hx ho hr
      go_wp2_with fail
      refine wp_region_flag (fun _ => True) [(0, 1), (2, 1), (3, 1), (4, 1), (5, 1), (6, 1), (1, 0), (7, 0), (8, 1), (9, 1)] (by kernel_rfl) (by kernel_rfl) trivial ?_
      simp only [ordered, List.map_cons, List.map_nil, List.getD_cons_zero, List.getD_cons_succ]
      repeat (refine wpF_dry (fun K hK => ?_); go_simp; refine hK _ ?_; clear hK K)
      refine wpF_do ?_
      go_wp2_with fail
      refine ⟨trivial, ?_⟩
      refine wpF_do ?_
      go_wp2_with fail
      refine ⟨trivial, ?_⟩
      repeat (refine wpF_dry (fun K hK => ?_); go_simp; refine hK _ ?_; clear hK K)
      refine wpF_nil ?_
      have M7 := Lib.hid ((M6.out.setBk2 (l1 := [_, _]) (a' := .slice A4 n c4) (b' := .int .i64 (nx : Nat))).drew)
      go_wp2
      refine bodyPost_ret (ret_ra4 rfl _ rfl (M7.out.bk (l1 := [_, _]))) rfl ?_
      exact ⟨g, _, nx, _, rfl, ⟨F6, _, _, G, LK2.out, HLn.out.2, by have := HGm.out; omega, ((((M7.out.drop (l1 := [_])).drop (l1 := [_])).drop (l1 := [_])).drop (l1 := [_])).perm (List.Perm.swap _ _ _)⟩⟩
    · rw [if_neg hE] at ht
      subst ht
      obtain ⟨E, hEE⟩ : ∃ E, E = chgE bits po si true := ⟨_, rfl⟩
      rw [← hEE] at HEL hE ⊢
      have HEV := Lib.hid hE
      have M4 := Lib.hid (M2.out.below b4)
      have hx := (M4.out.drop (l1 := [])).bk (l1 := [_, _]); have ho := (M4.out.drop (l1 := [])).bk (l1 := [_]); have hr := (M4.out.drop (l1 := [])).bk (l1 := [])
      have k0 := blk_cell hx 0; have k1 := blk_cell hx 1; have p0 := blk_cell ho 0; have p1 := blk_cell ho 1; have p2 := blk_cell ho 2; have p3 := blk_cell ho 3; have p4 := blk_cell ho 4; have j0 := blk_cell hr 0; have j1 := blk_cell hr 1
      have f0 := blk_free hr 0; have f1 := blk_free hr 1; have fx0 := blk_free hx 0; have fx1 := blk_free hx 1
      simp only [List.getElem?_toArray, List.getElem?_cons_zero, List.getElem?_cons_succ] at k0 k1 p0 p1 p2 p3 p4 j0 j1
      clear hx ho hr
      have hz9 := M4.out.bk (l1 := [])
      have zz0 := blk_cell hz9 0; have zz1 := blk_cell hz9 1
      simp only [List.getElem?_toArray, List.getElem?_cons_zero, List.getElem?_cons_succ] at zz0 zz1
      clear hz9
      clear b4 hE hEE M2
      have M5 := Lib.hid (M4.out.setBk2 (l1 := [_, _, _]) (a' := .slice A n c) (b' := .int .i64 (nx : Nat)))
      go_wp2_with fail
      clear k0 k1 p0 p1 p2 p3 p4 j0 j1 f0 f1 fx0 fx1
      obtain ⟨w5, hw5⟩ : ∃ w5, w5 = (w4.setCell ⟨g0, 0, none⟩ (.slice A n c)).setCell ⟨g0, 1, none⟩ (.int .i64 (nx : Nat)) := ⟨_, rfl⟩
      rw [← hw5] at M5 ⊢
      clear hw5 M4
      obtain ⟨va, ha⟩ := M5.out.area (l1 := [_, _, _, _])
      refine (give_any w5 F g a va ha po si).mono ?_
      rintro e w6 ⟨he, ht⟩
      rw [HEL.out] at he ht
      rw [if_neg HEV.out] at ht
      subst he
      have M6 := Lib.hid (M5.out.below ht)
      clear ht ha M5
      have hr9 := (M6.out.drop (l1 := [])).bk (l1 := [])
      have jj0 := blk_cell hr9 0; have jj1 := blk_cell hr9 1; have ff0 := blk_free hr9 0; have ff1 := blk_free hr9 1
      simp only [List.getElem?_toArray, List.getElem?_cons_zero, List.getElem?_cons_succ] at jj0 jj1
      clear hr9
      have hx := (M6.out.drew.drop (l1 := [])).bk (l1 := [_, _]); have ho := (M6.out.drew.drop (l1 := [])).bk (l1 := [_]); have hr := (M6.out.drew.drop (l1 := [])).bk (l1 := [])
      have k0 := blk_cell hx 0; have k1 := blk_cell hx 1; have p0 := blk_cell ho 0; have p1 := blk_cell ho 1; have p2 := blk_cell ho 2; have p3 := blk_cell ho 3; have p4 := blk_cell ho 4; have j0 := blk_cell hr 0; have j1 := blk_cell hr 1
      have f0 := blk_free hr 0; have f1 := blk_free hr 1; have fx0 := blk_free hx 0; have fx1 := blk_free hx 1
      simp only [List.getElem?_toArray, List.getElem?_cons_zero, List.getElem?_cons_succ] at k0 k1 p0 p1 p2 p3 p4 j0 j1
      clear hx ho hr
      go_wp2_with fail
      refine wp_region_flag (fun _ => True) [(0, 1), (2, 1), (3, 1), (4, 1), (5, 1), (6, 1), (1, 0), (7, 0), (8, 1), (9, 1)] (by kernel_rfl) (by kernel_rfl) trivial ?_
      simp only [ordered, List.map_cons, List.map_nil, List.getD_cons_zero, List.getD_cons_succ]
      repeat (refine wpF_dry (fun K hK => ?_); go_simp; refine hK _ ?_; clear hK K)
      refine wpF_do ?_
      go_wp2_with fail
      refine ⟨trivial, ?_⟩
      refine wpF_do ?_
      go_wp2_with fail
      refine ⟨trivial, ?_⟩
      repeat (refine wpF_dry (fun K hK => ?_); go_simp; refine hK _ ?_; clear hK K)
      refine wpF_nil ?_
      have M7 := Lib.hid ((M6.out.setBk2 (l1 := [_]) (a' := .slice A n c) (b' := .int .i64 (nx : Nat))).drew)
      go_wp2
      refine bodyPost_ret (ret_ra4 rfl _ rfl (M7.out.bk (l1 := [_]))) rfl ?_
      exact ⟨g, _, nx, _, by simp, ⟨F, a, bits, G, LK.out, HLn.out.2, by have := HGm.out; omega, ((((M7.out.drop (l1 := [])).drop (l1 := [])).drop (l1 := [])).drop (l1 := []))⟩⟩
set_option maxHeartbeats 6400000 in
set_option maxRecDepth 100000 in
theorem step_code (w0 w : World) (n g : Nat) (s : Value) (nx : Nat) (gv : Value) (m : Nat) (ps : List Part) (h : Both2 w0 w n g s nx gv m ps) (hm : m ≤ 60) (h300 : n ≤ 300) (kd on ru po si : Int) (hin : OpE.In ⟨kd, on, ru, po, si⟩) (h0 : (kd == 0) = false) (h1 : (kd == 1) = false) (h2 : (kd == 2) = false) (h3 : (kd == 3) = false) (h4 : (kd == 4) = true) :
    Calls Try.prog 20 #[.pointer (some ⟨g, 0, none⟩), .agg #[s, .int .i64 nx], gv, .agg #[.int .i64 kd, .int .i64 on, .int .i64 ru, .int .i64 po, .int .i64 si]] w fun e w' => ∃ (g' : Nat) (s' : Value) (nx' : Nat) (gv' : Value), e = .returned (.tuple #[.pointer (some ⟨g', 0, none⟩), .agg #[s', .int .i64 nx'], gv', .bool true]) ∧ Both2 w0 w' n g' s' nx' gv' (m + 1) ps := by
  obtain ⟨F, a, bits, G, HL, hn, hG, M0⟩ := h.ex
  have LK := Lib.hid HL
  have hmost := HL.ok.most
  have hpos := HL.ok.pos
  have hs0 := M0.rb (l1 := [_])
  obtain ⟨A, c, e0⟩ := hs0.slice
  rw [HL.len, hn] at e0
  subst e0
  obtain ⟨Ag, cg, rfl⟩ := (M0.out (l1 := [_, _])).slice
  obtain ⟨g0, hg0⟩ : ∃ g0, g0 = w.heap.size := ⟨_, rfl⟩
  obtain ⟨g1, hg1⟩ : ∃ g1, g1 = w.heap.size + 1 := ⟨_, rfl⟩
  obtain ⟨g2, hg2⟩ : ∃ g2, g2 = w.heap.size + 1 + 1 := ⟨_, rfl⟩
  have M1 : Hid (Mine w0 (((w.alloc (.cells #[.slice A n c, .int .i64 (nx : Nat)] 46)).alloc (.cells #[.int .i64 kd, .int .i64 on, .int .i64 ru, .int .i64 po, .int .i64 si] 32)).alloc (.cells #[.slice none 0 0, .int .i64 0] 46)) (bk g2 #[.slice none 0 0, .int .i64 0] 46 :: bk g1 #[.int .i64 kd, .int .i64 on, .int .i64 ru, .int .i64 po, .int .i64 si] 32 :: bk g0 #[.slice A n c, .int .i64 (nx : Nat)] 46 :: ar F g a :: rb (.slice A n c) bits :: rs (.slice Ag G.length cg) G :: ps)) := ((M0.newBk g0 hg0 _ _).newBk g1 (by rw [World.size_alloc]; exact hg1) _ _).newBk g2 (by rw [World.size_alloc, World.size_alloc]; exact hg2) _ _
  have HLn : Hid (bits.length = n ∧ a.size = n) := ⟨HL.len.trans hn, hn⟩
  have HGm := Lib.hid hG
  have HIN := Lib.hid hin
  obtain ⟨w3, hw3⟩ : ∃ w3, w3 = (((w.alloc (.cells #[.slice A n c, .int .i64 (nx : Nat)] 46)).alloc (.cells #[.int .i64 kd, .int .i64 on, .int .i64 ru, .int .i64 po, .int .i64 si] 32)).alloc (.cells #[.slice none 0 0, .int .i64 0] 46)) := ⟨_, rfl⟩
  rw [← hw3] at M1
  have hx := M1.out.bk (l1 := [_, _]); have ho := M1.out.bk (l1 := [_]); have hr := M1.out.bk (l1 := [])
  have k0 := blk_cell hx 0; have k1 := blk_cell hx 1; have p0 := blk_cell ho 0; have p1 := blk_cell ho 1; have p2 := blk_cell ho 2; have p3 := blk_cell ho 3; have p4 := blk_cell ho 4; have j0 := blk_cell hr 0; have j1 := blk_cell hr 1
  have f0 := blk_free hr 0; have f1 := blk_free hr 1; have fx0 := blk_free hx 0; have fx1 := blk_free hx 1
  simp only [List.getElem?_toArray, List.getElem?_cons_zero, List.getElem?_cons_succ] at k0 k1 p0 p1 p2 p3 p4 j0 j1
  clear hx ho hr
  have HG := Lib.hid (And.intro hg0 (And.intro hg1 hg2))
  rw [hg0] at k0 k1 fx0 fx1
  rw [hg1] at p0 p1 p2 p3 p4
  rw [hg2] at j0 j1 f0 f1
  rw [hw3] at k0 k1 p0 p1 p2 p3 p4 j0 j1 f0 f1 fx0 fx1
  have HW3 := Lib.hid hw3
  clear HL hn hG M0 hs0 hin hw3 h hg0 hg1 hg2
  go_enter Try.func20, Try.ntmps20
  go_wp2_with fail
  rw [← HW3.out]
  simp only [← HG.out.2.2]
  simp only [← HG.out.2.1]
  rw [show (Value.pointer (some { block := w.heap.size, off := 0 })) = Value.pointer (some { block := g0, off := 0 }) by rw [HG.out.1]]
  clear k0 k1 p0 p1 p2 p3 p4 j0 j1 f0 f1 fx0 fx1
  obtain ⟨va, ha⟩ := M1.out.area (l1 := [_, _, _])
  refine (enc_any w3 F g a va ha).mono ?_
  rintro e w4 ⟨v4, rfl, ho, b4⟩
  have M4 := Lib.hid (M1.out.below b4)
  have DC := Lib.hid (decode_any w4 v4 a.enc ho.rd (by have := enc_len LK.out.ok; have := HLn.out.2; have := lies_len LK.out.ok.lies (by omega); omega))
  obtain ⟨A4, c4, rfl⟩ := ho.slice
  clear ha b4 ho M1
  have hx := M4.out.bk (l1 := [_, _]); have ho := M4.out.bk (l1 := [_]); have hr := M4.out.bk (l1 := [])
  have k0 := blk_cell hx 0; have k1 := blk_cell hx 1; have p0 := blk_cell ho 0; have p1 := blk_cell ho 1; have p2 := blk_cell ho 2; have p3 := blk_cell ho 3; have p4 := blk_cell ho 4; have j0 := blk_cell hr 0; have j1 := blk_cell hr 1
  have f0 := blk_free hr 0; have f1 := blk_free hr 1; have fx0 := blk_free hx 0; have fx1 := blk_free hx 1
  simp only [List.getElem?_toArray, List.getElem?_cons_zero, List.getElem?_cons_succ] at k0 k1 p0 p1 p2 p3 p4 j0 j1
  clear hx ho hr
  go_wp2_with fail
  refine DC.out.mono ?_
  rintro e w5 ⟨ht, b5⟩
  rw [dec_enc LK.out.ok] at ht
  obtain ⟨g5, F5, rfl, hh, hF5⟩ := ht
  have M5 := Lib.hid ((M4.out.newAr b5 hh hF5).drop (l1 := [_, _, _, _]))
  clear hh hF5 b5 DC M4
  clear k0 k1 p0 p1 p2 p3 p4 j0 j1 f0 f1 fx0 fx1
  have hx := (M5.out.drop (l1 := [])).bk (l1 := [_, _]); have ho := (M5.out.drop (l1 := [])).bk (l1 := [_]); have hr := (M5.out.drop (l1 := [])).bk (l1 := [])
  have k0 := blk_cell hx 0; have k1 := blk_cell hx 1; have p0 := blk_cell ho 0; have p1 := blk_cell ho 1; have p2 := blk_cell ho 2; have p3 := blk_cell ho 3; have p4 := blk_cell ho 4; have j0 := blk_cell hr 0; have j1 := blk_cell hr 1
  have f0 := blk_free hr 0; have f1 := blk_free hr 1; have fx0 := blk_free hx 0; have fx1 := blk_free hx 1
  simp only [List.getElem?_toArray, List.getElem?_cons_zero, List.getElem?_cons_succ] at k0 k1 p0 p1 p2 p3 p4 j0 j1
  clear hx ho hr
  have M6 : Hid (Mine w0 (w5.setCell ⟨g0, 1, none⟩ (.int .i64 (0 : Nat))) (ar F5 g5 ⟨a.size, a.holes, 0⟩ :: bk g2 #[.slice none 0 0, .int .i64 0] 46 :: bk g1 #[.int .i64 kd, .int .i64 on, .int .i64 ru, .int .i64 po, .int .i64 si] 32 :: bk g0 #[.slice A n c, .int .i64 (0 : Nat)] 46 :: rb (.slice A n c) bits :: rs (.slice Ag G.length cg) G :: ps)) := M5.out.setBk (l1 := [_, _, _]) 1 (.int .i64 (0 : Nat))
  clear M5
  go_wp2_with fail
  clear k0 k1 p0 p1 p2 p3 p4 j0 j1 f0 f1 fx0 fx1
  have hM6 := M6
  clear M6
  obtain ⟨w6, hw6⟩ : ∃ w6, w6 = w5.setCell ⟨g0, 1, none⟩ (.int .i64 (0 : Nat)) := ⟨_, rfl⟩
  rw [← hw6] at hM6
  have e00 : (w5.setCell ⟨g0, 1, none⟩ (.int .i64 0)) = w6 := hw6.symm
  rw [e00]
  clear hw6 e00
  have hr9 := (hM6.out.drop (l1 := [])).bk (l1 := [])
  have jj0 := blk_cell hr9 0; have jj1 := blk_cell hr9 1; have ff0 := blk_free hr9 0; have ff1 := blk_free hr9 1
  simp only [List.getElem?_toArray, List.getElem?_cons_zero, List.getElem?_cons_succ] at jj0 jj1
  clear hr9
  have hx := (hM6.out.drop (l1 := [])).drew.bk (l1 := [_, _]); have ho := (hM6.out.drop (l1 := [])).drew.bk (l1 := [_]); have hr := (hM6.out.drop (l1 := [])).drew.bk (l1 := [])
  have k0 := blk_cell hx 0; have k1 := blk_cell hx 1; have p0 := blk_cell ho 0; have p1 := blk_cell ho 1; have p2 := blk_cell ho 2; have p3 := blk_cell ho 3; have p4 := blk_cell ho 4; have j0 := blk_cell hr 0; have j1 := blk_cell hr 1
  have f0 := blk_free hr 0; have f1 := blk_free hr 1; have fx0 := blk_free hx 0; have fx1 := blk_free hx 1
  simp only [List.getElem?_toArray, List.getElem?_cons_zero, List.getElem?_cons_succ] at k0 k1 p0 p1 p2 p3 p4 j0 j1
  clear hx ho hr
  refine wp_region_flag (fun _ => True) [(0, 1), (2, 1), (3, 1), (1, 0), (4, 0), (5, 1), (6, 1)] (by kernel_rfl) (by kernel_rfl) trivial ?_
  simp only [ordered, List.map_cons, List.map_nil, List.getD_cons_zero, List.getD_cons_succ]
  repeat (refine wpF_dry (fun K hK => ?_); go_simp; refine hK _ ?_; clear hK K)
  refine wpF_do ?_
  go_wp2_with fail
  refine ⟨trivial, ?_⟩
  refine wpF_do ?_
  go_wp2_with fail
  refine ⟨trivial, ?_⟩
  repeat (refine wpF_dry (fun K hK => ?_); go_simp; refine hK _ ?_; clear hK K)
  refine wpF_nil ?_
  have M7 := Lib.hid ((hM6.out.setBk2 (l1 := [_]) (a' := .slice A n c) (b' := .int .i64 (0 : Nat))).drew)
  go_wp2
  refine bodyPost_ret (ret_ra4 rfl _ rfl (M7.out.bk (l1 := [_]))) rfl ?_
  exact ⟨g5, _, 0, _, rfl, ⟨F5, ⟨a.size, a.holes, 0⟩, bits, G, ⟨⟨LK.out.ok.pos, LK.out.ok.most, LK.out.ok.lies, Nat.zero_le _⟩, LK.out.len, LK.out.bit, rfl⟩, HLn.out.2, by have := HGm.out; omega, ((M7.out.drop (l1 := [_])).drop (l1 := [_])).drop (l1 := [_])⟩⟩
end Go.Proofs.Ythloinmnojlleaa
