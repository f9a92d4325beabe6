/- PlR: step: taking, giving back, going on with the bytes (written by gen_stepy.py). -/
import Derived.Test.YthloinmnojlleaaPlQ
import Derived.Test.YthloinmnojlleaaPlK
set_option linter.unusedVariables false
set_option linter.unusedSimpArgs false
namespace Go.Proofs.Ythloinmnojlleaa
open Go.RowKit

set_option maxHeartbeats 6400000 in
set_option maxRecDepth 100000 in
theorem step_alloc (w0 w : World) (n g : Nat) (s : Value) (nx : Nat) (gv : Value) (m : Nat) (ps : List Part) (h : Both2 w0 w n g s nx gv m ps) (hm : m ≤ 60) (h300 : n ≤ 300) (kd on ru po si : Int) (hin : OpE.In ⟨kd, on, ru, po, si⟩) (h0 : (kd == 0) = true) :
    Calls Try.prog 20 #[.pointer (some ⟨g, 0, none⟩), .agg #[s, .int .i64 nx], gv, .agg #[.int .i64 kd, .int .i64 on, .int .i64 ru, .int .i64 po, .int .i64 si]] w fun e w' => ∃ (g' : Nat) (s' : Value) (nx' : Nat) (gv' : Value), e = .returned (.tuple #[.pointer (some ⟨g', 0, none⟩), .agg #[s', .int .i64 nx'], gv', .bool true]) ∧ Both2 w0 w' n g' s' nx' gv' (m + 1) ps := by
  obtain ⟨F, a, bits, G, HL, hn, hG, M0⟩ := h.ex
  have LK := Lib.hid HL
  have hmost := HL.ok.most
  have hpos := HL.ok.pos
  have hs0 := M0.rb (l1 := [_])
  obtain ⟨A, c, e0⟩ := hs0.slice
  rw [HL.len, hn] at e0
  subst e0
  obtain ⟨Ag, cg, rfl⟩ := (M0.out (l1 := [_, _])).slice
  obtain ⟨g0, hg0⟩ : ∃ g0, g0 = w.heap.size := ⟨_, rfl⟩
  obtain ⟨g1, hg1⟩ : ∃ g1, g1 = w.heap.size + 1 := ⟨_, rfl⟩
  obtain ⟨g2, hg2⟩ : ∃ g2, g2 = w.heap.size + 1 + 1 := ⟨_, rfl⟩
  have M1 : Hid (Mine w0 (((w.alloc (.cells #[.slice A n c, .int .i64 (nx : Nat)] 46)).alloc (.cells #[.int .i64 kd, .int .i64 on, .int .i64 ru, .int .i64 po, .int .i64 si] 32)).alloc (.cells #[.slice none 0 0, .int .i64 0] 46)) (bk g2 #[.slice none 0 0, .int .i64 0] 46 :: bk g1 #[.int .i64 kd, .int .i64 on, .int .i64 ru, .int .i64 po, .int .i64 si] 32 :: bk g0 #[.slice A n c, .int .i64 (nx : Nat)] 46 :: ar F g a :: rb (.slice A n c) bits :: rs (.slice Ag G.length cg) G :: ps)) := ((M0.newBk g0 hg0 _ _).newBk g1 (by rw [World.size_alloc]; exact hg1) _ _).newBk g2 (by rw [World.size_alloc, World.size_alloc]; exact hg2) _ _
  have HLn : Hid (bits.length = n ∧ a.size = n) := ⟨HL.len.trans hn, hn⟩
  have HGm := Lib.hid hG
  have HIN := Lib.hid hin
  obtain ⟨w3, hw3⟩ : ∃ w3, w3 = (((w.alloc (.cells #[.slice A n c, .int .i64 (nx : Nat)] 46)).alloc (.cells #[.int .i64 kd, .int .i64 on, .int .i64 ru, .int .i64 po, .int .i64 si] 32)).alloc (.cells #[.slice none 0 0, .int .i64 0] 46)) := ⟨_, rfl⟩
  rw [← hw3] at M1
  have hx := M1.out.bk (l1 := [_, _]); have ho := M1.out.bk (l1 := [_]); have hr := M1.out.bk (l1 := [])
  have k0 := blk_cell hx 0; have k1 := blk_cell hx 1; have p0 := blk_cell ho 0; have p1 := blk_cell ho 1; have p2 := blk_cell ho 2; have p3 := blk_cell ho 3; have p4 := blk_cell ho 4; have j0 := blk_cell hr 0; have j1 := blk_cell hr 1
  have f0 := blk_free hr 0; have f1 := blk_free hr 1; have fx0 := blk_free hx 0; have fx1 := blk_free hx 1
  simp only [List.getElem?_toArray, List.getElem?_cons_zero, List.getElem?_cons_succ] at k0 k1 p0 p1 p2 p3 p4 j0 j1
  clear hx ho hr
  have HG := Lib.hid (And.intro hg0 (And.intro hg1 hg2))
  rw [hg0] at k0 k1 fx0 fx1
  rw [hg1] at p0 p1 p2 p3 p4
  rw [hg2] at j0 j1 f0 f1
  rw [hw3] at k0 k1 p0 p1 p2 p3 p4 j0 j1 f0 f1 fx0 fx1
  have HW3 := Lib.hid hw3
  clear HL hn hG M0 hs0 hin hw3 h hg0 hg1 hg2
  go_enter Try.func20, Try.ntmps20
  go_wp2_with fail
  rw [← HW3.out]
  simp only [← HG.out.2.2]
  simp only [← HG.out.2.1]
  rw [show (Value.pointer (some { block := w.heap.size, off := 0 })) = Value.pointer (some { block := g0, off := 0 }) by rw [HG.out.1]]
  clear k0 k1 p0 p1 p2 p3 p4 j0 j1 f0 f1 fx0 fx1
  by_cases hb : on < 1 ∨ ru < 0 ∨ 4 ≤ ru
  · have HB := Lib.hid hb
    clear hb
    refine (ralloc_bad w3 A n c (nx : Nat) on ru HB.out).mono ?_
    rintro e w4 ⟨rfl, b4⟩
    have M4 := Lib.hid ((M1.out.below b4).newBk w4.heap.size rfl #[.slice A n c, .int .i64 (nx : Nat)] 46)
    clear b4 M1
    have hx := (M4.out.drop (l1 := [])).bk (l1 := [_, _]); have ho := (M4.out.drop (l1 := [])).bk (l1 := [_]); have hr := (M4.out.drop (l1 := [])).bk (l1 := [])
    have k0 := blk_cell hx 0; have k1 := blk_cell hx 1; have p0 := blk_cell ho 0; have p1 := blk_cell ho 1; have p2 := blk_cell ho 2; have p3 := blk_cell ho 3; have p4 := blk_cell ho 4; have j0 := blk_cell hr 0; have j1 := blk_cell hr 1
    have f0 := blk_free hr 0; have f1 := blk_free hr 1; have fx0 := blk_free hx 0; have fx1 := blk_free hx 1
    simp only [List.getElem?_toArray, List.getElem?_cons_zero, List.getElem?_cons_succ] at k0 k1 p0 p1 p2 p3 p4 j0 j1
    clear hx ho hr
    go_wp2_with fail
    refine (alloc_bad _ g on ru HB.out).mono ?_
    rintro e w5 ⟨rfl, rfl⟩
    clear k0 k1 p0 p1 p2 p3 p4 j0 j1 f0 f1 fx0 fx1
    have hx := (M4.out.drop (l1 := [])).bk (l1 := [_, _]); have ho := (M4.out.drop (l1 := [])).bk (l1 := [_]); have hr := (M4.out.drop (l1 := [])).bk (l1 := [])
    have k0 := blk_cell hx 0; have k1 := blk_cell hx 1; have p0 := blk_cell ho 0; have p1 := blk_cell ho 1; have p2 := blk_cell ho 2; have p3 := blk_cell ho 3; have p4 := blk_cell ho 4; have j0 := blk_cell hr 0; have j1 := blk_cell hr 1
    have f0 := blk_free hr 0; have f1 := blk_free hr 1; have fx0 := blk_free hx 0; have fx1 := blk_free hx 1
    simp only [List.getElem?_toArray, List.getElem?_cons_zero, List.getElem?_cons_succ] at k0 k1 p0 p1 p2 p3 p4 j0 j1
    clear hx ho hr
    go_wp2_with fail
    clear k0 k1 p0 p1 p2 p3 p4 j0 j1 f0 f1 fx0 fx1
    have hr9 := (M4.out.drop (l1 := [])).bk (l1 := [])
    have jj0 := blk_cell hr9 0; have jj1 := blk_cell hr9 1; have ff0 := blk_free hr9 0; have ff1 := blk_free hr9 1
    simp only [List.getElem?_toArray, List.getElem?_cons_zero, List.getElem?_cons_succ] at jj0 jj1
    clear hr9
    have hx := (M4.out.drew.drop (l1 := [])).bk (l1 := [_, _]); have ho := (M4.out.drew.drop (l1 := [])).bk (l1 := [_]); have hr := (M4.out.drew.drop (l1 := [])).bk (l1 := [])
    have k0 := blk_cell hx 0; have k1 := blk_cell hx 1; have p0 := blk_cell ho 0; have p1 := blk_cell ho 1; have p2 := blk_cell ho 2; have p3 := blk_cell ho 3; have p4 := blk_cell ho 4; have j0 := blk_cell hr 0; have j1 := blk_cell hr 1
    have f0 := blk_free hr 0; have f1 := blk_free hr 1; have fx0 := blk_free hx 0; have fx1 := blk_free hx 1
    simp only [List.getElem?_toArray, List.getElem?_cons_zero, List.getElem?_cons_succ] at k0 k1 p0 p1 p2 p3 p4 j0 j1
    clear hx ho hr
    have hy9 := M4.out.bk (l1 := [])
    have y0p := blk_cell hy9 0; have y1p := blk_cell hy9 1
    simp only [List.getElem?_toArray, List.getElem?_cons_zero, List.getElem?_cons_succ] at y0p y1p
    clear hy9
    have hy9 := M4.out.drew.bk (l1 := [])
    have y0 := blk_cell hy9 0; have y1 := blk_cell hy9 1
    simp only [List.getElem?_toArray, List.getElem?_cons_zero, List.getElem?_cons_succ] at y0 y1
    clear hy9
    refine wp_region_flag (fun _ => True) [(0, 1), (2, 1), (3, 1), (4, 1), (5, 1), (6, 1), (7, 1), (8, 1), (9, 1), (10, 1), (11, 1), (1, 0), (12, 0), (13, 1), (14, 1)] (by kernel_rfl) (by kernel_rfl) trivial ?_
    simp only [ordered, List.map_cons, List.map_nil, List.getD_cons_zero, List.getD_cons_succ]
    repeat (refine wpF_dry (fun K hK => ?_); go_simp; refine hK _ ?_; clear hK K)
    refine wpF_do ?_
    go_wp2_with fail
    refine ⟨trivial, ?_⟩
    refine wpF_do ?_
    go_wp2_with fail
    refine ⟨trivial, ?_⟩
    repeat (refine wpF_dry (fun K hK => ?_); go_simp; refine hK _ ?_; clear hK K)
    refine wpF_nil ?_
    have M7 := Lib.hid ((M4.out.setBk2 (l1 := [_]) (a' := .slice A n c) (b' := .int .i64 (nx : Nat))).drew)
    go_wp2
    refine bodyPost_ret (ret_ra4 rfl _ rfl (M7.out.bk (l1 := [_]))) rfl ?_
    exact ⟨g, _, nx, _, by simp, ⟨F, a, bits, G, LK.out, HLn.out.2, by have := HGm.out; omega, (((M7.out.drop (l1 := [])).drop (l1 := [])).drop (l1 := [])).drop (l1 := [])⟩⟩
  · obtain ⟨mm, rfl⟩ := Int.eq_ofNat_of_zero_le (show 0 ≤ on by omega)
    obtain ⟨rr, rfl⟩ := Int.eq_ofNat_of_zero_le (show 0 ≤ ru by omega)
    have HMR : Hid (1 ≤ mm ∧ rr < 4) := ⟨by omega, by omega⟩
    have hmi : mm ≤ 9223372036854775807 := by have := HIN.out.n.2; simp only at this; omega
    clear hb
    refine (ralloc_any w3 0 (.slice A n c) bits nx (M1.out.rb (l1 := [_, _, _, _])) (by rw [HLn.out.1]; have := HLn.out.2; omega) (by rw [HLn.out.1]; have := HLn.out.2; omega) a.holes (like_runs LK.out) (by rw [LK.out.len]; exact LK.out.ok.lies) LK.out.ok.few mm rr HMR.out.1 HMR.out.2 hmi).mono ?_
    rintro e w4 ⟨ht, b4⟩
    cases hc : choose a.holes mm (bet rr nx) a.holes.length with
    | none =>
      rw [hc] at ht
      have HC := Lib.hid hc
      clear hc
      have ht : e = .returned (.tuple #[.agg #[.slice A n c, .int .i64 (nx : Nat)], .int .i64 0, .int .i64 5]) := ht
      subst ht
      have M4 := Lib.hid ((M1.out.below b4).newBk w4.heap.size rfl #[.slice A n c, .int .i64 (nx : Nat)] 46)
      clear b4 M1
      have hx := (M4.out.drop (l1 := [])).bk (l1 := [_, _]); have ho := (M4.out.drop (l1 := [])).bk (l1 := [_]); have hr := (M4.out.drop (l1 := [])).bk (l1 := [])
      have k0 := blk_cell hx 0; have k1 := blk_cell hx 1; have p0 := blk_cell ho 0; have p1 := blk_cell ho 1; have p2 := blk_cell ho 2; have p3 := blk_cell ho 3; have p4 := blk_cell ho 4; have j0 := blk_cell hr 0; have j1 := blk_cell hr 1
      have f0 := blk_free hr 0; have f1 := blk_free hr 1; have fx0 := blk_free hx 0; have fx1 := blk_free hx 1
      simp only [List.getElem?_toArray, List.getElem?_cons_zero, List.getElem?_cons_succ] at k0 k1 p0 p1 p2 p3 p4 j0 j1
      clear hx ho hr
      obtain ⟨va, ha⟩ := M4.out.area (l1 := [_, _, _, _])
      have AC := Lib.hid (alloc_any _ F g a va ha mm rr HMR.out.1 HMR.out.2)
      clear ha
      go_wp2_with fail
      refine AC.out.mono ?_
      rintro e w6 ht6
      unfold AllocTo at ht6
      rw [← LK.out.next, HC.out] at ht6
      clear k0 k1 p0 p1 p2 p3 p4 j0 j1 f0 f1 fx0 fx1
      obtain ⟨rfl, b6⟩ := ht6
      have M6 := Lib.hid (M4.out.below b6)
      clear b6 AC M4
      have hx := (M6.out.drop (l1 := [])).bk (l1 := [_, _]); have ho := (M6.out.drop (l1 := [])).bk (l1 := [_]); have hr := (M6.out.drop (l1 := [])).bk (l1 := [])
      have k0 := blk_cell hx 0; have k1 := blk_cell hx 1; have p0 := blk_cell ho 0; have p1 := blk_cell ho 1; have p2 := blk_cell ho 2; have p3 := blk_cell ho 3; have p4 := blk_cell ho 4; have j0 := blk_cell hr 0; have j1 := blk_cell hr 1
      have f0 := blk_free hr 0; have f1 := blk_free hr 1; have fx0 := blk_free hx 0; have fx1 := blk_free hx 1
      simp only [List.getElem?_toArray, List.getElem?_cons_zero, List.getElem?_cons_succ] at k0 k1 p0 p1 p2 p3 p4 j0 j1
      clear hx ho hr
      go_wp2_with fail
      clear k0 k1 p0 p1 p2 p3 p4 j0 j1 f0 f1 fx0 fx1
      have hr9 := (M6.out.drop (l1 := [])).bk (l1 := [])
      have jj0 := blk_cell hr9 0; have jj1 := blk_cell hr9 1; have ff0 := blk_free hr9 0; have ff1 := blk_free hr9 1
      simp only [List.getElem?_toArray, List.getElem?_cons_zero, List.getElem?_cons_succ] at jj0 jj1
      clear hr9
      have hx := (M6.out.drew.drop (l1 := [])).bk (l1 := [_, _]); have ho := (M6.out.drew.drop (l1 := [])).bk (l1 := [_]); have hr := (M6.out.drew.drop (l1 := [])).bk (l1 := [])
      have k0 := blk_cell hx 0; have k1 := blk_cell hx 1; have p0 := blk_cell ho 0; have p1 := blk_cell ho 1; have p2 := blk_cell ho 2; have p3 := blk_cell ho 3; have p4 := blk_cell ho 4; have j0 := blk_cell hr 0; have j1 := blk_cell hr 1
      have f0 := blk_free hr 0; have f1 := blk_free hr 1; have fx0 := blk_free hx 0; have fx1 := blk_free hx 1
      simp only [List.getElem?_toArray, List.getElem?_cons_zero, List.getElem?_cons_succ] at k0 k1 p0 p1 p2 p3 p4 j0 j1
      clear hx ho hr
      have hy9 := M6.out.bk (l1 := [])
      have y0p := blk_cell hy9 0; have y1p := blk_cell hy9 1
      simp only [List.getElem?_toArray, List.getElem?_cons_zero, List.getElem?_cons_succ] at y0p y1p
      clear hy9
      have hy9 := M6.out.drew.bk (l1 := [])
      have y0 := blk_cell hy9 0; have y1 := blk_cell hy9 1
      simp only [List.getElem?_toArray, List.getElem?_cons_zero, List.getElem?_cons_succ] at y0 y1
      clear hy9
      refine wp_region_flag (fun _ => True) [(0, 1), (2, 1), (3, 1), (4, 1), (5, 1), (6, 1), (7, 1), (8, 1), (9, 1), (10, 1), (11, 1), (1, 0), (12, 0), (13, 1), (14, 1)] (by kernel_rfl) (by kernel_rfl) trivial ?_
      simp only [ordered, List.map_cons, List.map_nil, List.getD_cons_zero, List.getD_cons_succ]
      repeat (refine wpF_dry (fun K hK => ?_); go_simp; refine hK _ ?_; clear hK K)
      refine wpF_do ?_
      go_wp2_with fail
      refine ⟨trivial, ?_⟩
      refine wpF_do ?_
      go_wp2_with fail
      refine ⟨trivial, ?_⟩
      repeat (refine wpF_dry (fun K hK => ?_); go_simp; refine hK _ ?_; clear hK K)
      refine wpF_nil ?_
      have M7 := Lib.hid ((M6.out.setBk2 (l1 := [_]) (a' := .slice A n c) (b' := .int .i64 (nx : Nat))).drew)
      go_wp2
      refine bodyPost_ret (ret_ra4 rfl _ rfl (M7.out.bk (l1 := [_]))) rfl ?_
      exact ⟨g, _, nx, _, by simp, ⟨F, a, bits, G, LK.out, HLn.out.2, by have := HGm.out; omega, (((M7.out.drop (l1 := [])).drop (l1 := [])).drop (l1 := [])).drop (l1 := [])⟩⟩
    | some j =>
      rw [hc] at ht
      have HC := Lib.hid hc
      clear hc
      obtain ⟨s4, rfl, ho4⟩ := ht
      have LA := Lib.hid (like_alloc (nx := nx) LK.out HMR.out.1 (by rw [← LK.out.next]; exact HC.out))
      have hlen4 := setK_length false bits (a.holes.getD j (0, 0)).1 mm
      obtain ⟨A4, c4, e4⟩ := ho4.slice
      rw [hlen4, HLn.out.1] at e4
      subst e4
      clear hlen4
      have HPM : Hid ((a.holes.getD j (0, 0)).1 + mm ≤ a.size) := LA.out.2
      obtain ⟨ps, hps⟩ : ∃ ps, ps = (a.holes.getD j (0, 0)).1 := ⟨_, rfl⟩
      obtain ⟨ny, hny⟩ : ∃ ny, ny = (if rr = 3 then (a.holes.getD j (0, 0)).1 + mm else nx) := ⟨_, rfl⟩
      have HPS := Lib.hid hps
      have HNY := Lib.hid hny
      rw [← hny, ← hps]
      have M4 := Lib.hid (((M1.out.newRb b4 ho4).drop (l1 := [_, _, _, _, _])).newBk w4.heap.size rfl #[.slice A4 n c4, .int .i64 (ny : Nat)] 46)
      clear b4 M1 ho4 hps hny
      have hx := ((M4.out.drop (l1 := [])).drop (l1 := [])).bk (l1 := [_, _]); have ho := ((M4.out.drop (l1 := [])).drop (l1 := [])).bk (l1 := [_]); have hr := ((M4.out.drop (l1 := [])).drop (l1 := [])).bk (l1 := [])
      have k0 := blk_cell hx 0; have k1 := blk_cell hx 1; have p0 := blk_cell ho 0; have p1 := blk_cell ho 1; have p2 := blk_cell ho 2; have p3 := blk_cell ho 3; have p4 := blk_cell ho 4; have j0 := blk_cell hr 0; have j1 := blk_cell hr 1
      have f0 := blk_free hr 0; have f1 := blk_free hr 1; have fx0 := blk_free hx 0; have fx1 := blk_free hx 1
      simp only [List.getElem?_toArray, List.getElem?_cons_zero, List.getElem?_cons_succ] at k0 k1 p0 p1 p2 p3 p4 j0 j1
      clear hx ho hr
      obtain ⟨va, ha⟩ := M4.out.area (l1 := [_, _, _, _, _])
      have AC := Lib.hid (alloc_any _ F g a va ha mm rr HMR.out.1 HMR.out.2)
      clear ha
      go_wp2_with fail
      refine AC.out.mono ?_
      rintro e w6 ht6
      unfold AllocTo at ht6
      rw [← LK.out.next, HC.out] at ht6
      clear k0 k1 p0 p1 p2 p3 p4 j0 j1 f0 f1 fx0 fx1
      obtain ⟨he6, F6, ht6⟩ := ht6
      rw [← HPS.out] at he6
      subst he6
      have M6 := Lib.hid (M4.out.arTo (l1 := [_, _, _, _, _]) ht6)
      have HM2 := Lib.hid (HMR.out.1)
      clear ht6 AC M4
      have hx := ((M6.out.drop (l1 := [])).drop (l1 := [])).bk (l1 := [_, _]); have ho := ((M6.out.drop (l1 := [])).drop (l1 := [])).bk (l1 := [_]); have hr := ((M6.out.drop (l1 := [])).drop (l1 := [])).bk (l1 := [])
      have k0 := blk_cell hx 0; have k1 := blk_cell hx 1; have p0 := blk_cell ho 0; have p1 := blk_cell ho 1; have p2 := blk_cell ho 2; have p3 := blk_cell ho 3; have p4 := blk_cell ho 4; have j0 := blk_cell hr 0; have j1 := blk_cell hr 1
      have f0 := blk_free hr 0; have f1 := blk_free hr 1; have fx0 := blk_free hx 0; have fx1 := blk_free hx 1
      simp only [List.getElem?_toArray, List.getElem?_cons_zero, List.getElem?_cons_succ] at k0 k1 p0 p1 p2 p3 p4 j0 j1
      clear hx ho hr
      have HX : Hid (RdSp (w6.alloc (.cells #[.int .i64 (ps : Nat), .int .i64 (mm : Nat)] 30)) (.slice (some ⟨w6.heap.size, 0, none⟩) 1 1) [(ps, mm)]) := ⟨_, 1, rfl, Nat.le_refl _, (fun e => by cases e), fun ad e j u hu => by injection e with e; subst e; exact rdsp_lit w6 ps mm _ j u hu⟩
      have MA := Lib.hid (M6.out.alloc (.cells #[.int .i64 (ps : Nat), .int .i64 (mm : Nat)] 30))
      go_wp2_with (at_builtin; refine wpList_append_out rfl (.tmp 47) (.tmp 52) 28 rfl Try.underlying28 _ _ G [(ps, mm)] rfl rfl (MA.out.out (l1 := [_, _, _, _, _, _])) HX.out (by have := HGm.out; simp; omega) ?_)
      intro v8 w8 ho8 hg8 ha8
      try (rw [← World.size_alloc w6 (.cells #[.int .i64 (ps : Nat), .int .i64 (mm : Nat)] 30)] at ha8)
      have M8 := Lib.hid (MA.out.grow (l1 := [_, _, _, _, _, _]) hg8 ha8 ho8)
      clear ho8 hg8 ha8 HX MA M6
      clear k0 k1 p0 p1 p2 p3 p4 j0 j1 f0 f1 fx0 fx1
      obtain ⟨A8, c8, rfl⟩ := (M8.out.out (l1 := [_, _, _, _, _, _])).slice
      have M9 : Hid (Mine w0 w8 _) := M8.out.perm (List.Perm.trans (List.Perm.cons _ (List.Perm.trans (List.Perm.swap _ _ _) (List.Perm.cons _ (List.Perm.trans (List.Perm.swap _ _ _) (List.Perm.cons _ (List.Perm.swap _ _ _)))))) (List.Perm.refl _))
      clear M8
      have hx := (M9.out.drop (l1 := [])).bk (l1 := [_, _]); have ho := (M9.out.drop (l1 := [])).bk (l1 := [_]); have hr := (M9.out.drop (l1 := [])).bk (l1 := [])
      have k0 := blk_cell hx 0; have k1 := blk_cell hx 1; have p0 := blk_cell ho 0; have p1 := blk_cell ho 1; have p2 := blk_cell ho 2; have p3 := blk_cell ho 3; have p4 := blk_cell ho 4; have j0 := blk_cell hr 0; have j1 := blk_cell hr 1
      have f0 := blk_free hr 0; have f1 := blk_free hr 1; have fx0 := blk_free hx 0; have fx1 := blk_free hx 1
      simp only [List.getElem?_toArray, List.getElem?_cons_zero, List.getElem?_cons_succ] at k0 k1 p0 p1 p2 p3 p4 j0 j1
      clear hx ho hr
      go_wp2_with fail
      clear k0 k1 p0 p1 p2 p3 p4 j0 j1 f0 f1 fx0 fx1
      have hr9 := (M9.out.drop (l1 := [])).bk (l1 := [])
      have jj0 := blk_cell hr9 0; have jj1 := blk_cell hr9 1; have ff0 := blk_free hr9 0; have ff1 := blk_free hr9 1
      simp only [List.getElem?_toArray, List.getElem?_cons_zero, List.getElem?_cons_succ] at jj0 jj1
      clear hr9
      have hx := (M9.out.drew.drop (l1 := [])).bk (l1 := [_, _]); have ho := (M9.out.drew.drop (l1 := [])).bk (l1 := [_]); have hr := (M9.out.drew.drop (l1 := [])).bk (l1 := [])
      have k0 := blk_cell hx 0; have k1 := blk_cell hx 1; have p0 := blk_cell ho 0; have p1 := blk_cell ho 1; have p2 := blk_cell ho 2; have p3 := blk_cell ho 3; have p4 := blk_cell ho 4; have j0 := blk_cell hr 0; have j1 := blk_cell hr 1
      have f0 := blk_free hr 0; have f1 := blk_free hr 1; have fx0 := blk_free hx 0; have fx1 := blk_free hx 1
      simp only [List.getElem?_toArray, List.getElem?_cons_zero, List.getElem?_cons_succ] at k0 k1 p0 p1 p2 p3 p4 j0 j1
      clear hx ho hr
      have hy9 := M9.out.bk (l1 := [])
      have y0p := blk_cell hy9 0; have y1p := blk_cell hy9 1
      simp only [List.getElem?_toArray, List.getElem?_cons_zero, List.getElem?_cons_succ] at y0p y1p
      clear hy9
      have hy9 := M9.out.drew.bk (l1 := [])
      have y0 := blk_cell hy9 0; have y1 := blk_cell hy9 1
      simp only [List.getElem?_toArray, List.getElem?_cons_zero, List.getElem?_cons_succ] at y0 y1
      clear hy9
      refine wp_region_flag (fun _ => True) [(0, 1), (2, 1), (3, 1), (4, 1), (5, 1), (6, 1), (7, 1), (8, 1), (9, 1), (10, 1), (11, 1), (1, 0), (12, 0), (13, 1), (14, 1)] (by kernel_rfl) (by kernel_rfl) trivial ?_
      simp only [ordered, List.map_cons, List.map_nil, List.getD_cons_zero, List.getD_cons_succ]
      repeat (refine wpF_dry (fun K hK => ?_); go_simp; refine hK _ ?_; clear hK K)
      refine wpF_do ?_
      go_wp2_with fail
      refine ⟨trivial, ?_⟩
      refine wpF_do ?_
      go_wp2_with fail
      refine ⟨trivial, ?_⟩
      repeat (refine wpF_dry (fun K hK => ?_); go_simp; refine hK _ ?_; clear hK K)
      refine wpF_nil ?_
      have M7 := Lib.hid ((M9.out.setBk2 (l1 := [_]) (a' := .slice A4 n c4) (b' := .int .i64 (ny : Nat))).drew)
      go_wp2
      refine bodyPost_ret (ret_ra4 rfl _ rfl (M7.out.bk (l1 := [_]))) rfl ?_
      have hny := HNY.out
      rw [← HPS.out] at hny LA
      rw [← hny] at LA
      have LA2 := LA.out.1
      rw [← LK.out.next] at LA2
      have hlen : (G ++ [(ps, mm)]).length ≤ m + 1 := by have := HGm.out; rw [List.length_append, List.length_singleton]; omega
      have M10 := (((M7.out.drop (l1 := [])).drop (l1 := [])).drop (l1 := [])).drop (l1 := [])
      rw [← HPS.out] at M10
      have M11 := M10.perm (List.Perm.swap _ _ _)
      exact ⟨g, .slice A4 n c4, ny, .slice A8 (G ++ [(ps, mm)]).length c8, by simp, ⟨F6, _, _, _, LA2, HLn.out.2, hlen, M11⟩⟩
end Go.Proofs.Ythloinmnojlleaa
