/- ShQ: a shelf's tidy (written by gen_shq.py). -/
import Derived.Test.YtoolkamajlgcbaaMr14
import Derived.Maps.Views
import Derived.Maps.OwnSet
set_option linter.unusedVariables false
set_option linter.unusedSimpArgs false
namespace Go.Proofs.Ytoolkamajlgcbaa
open Go.RowKit

/-- A leaf joined with the next one. -/
def mergeP (sh : List (Nat × PL)) (k : Nat) : List (Nat × PL) := sh.take k ++ [((sh.getD k (0, [])).1, lfA sh k ++ lfA sh (k + 1))] ++ sh.drop (k + 2)
def Fits (sh : List (Nat × PL)) (kk : Int) : Prop := ∃ k : Nat, kk = (k : Int) ∧ k + 1 < sh.length ∧ szL (lfA sh k) + szL (lfA sh (k + 1)) ≤ 1020
open Classical in
noncomputable def t1 (sh : List (Nat × PL)) (kk : Int) : List (Nat × PL) := if Fits sh kk then mergeP sh kk.toNat else sh
theorem t1_off {sh : List (Nat × PL)} {kk : Int} (h : ¬ Fits sh kk) : t1 sh kk = sh := by unfold t1; rw [if_neg h]
theorem t1_on {sh : List (Nat × PL)} {k : Nat} (h : Fits sh (k : Int)) : t1 sh (k : Int) = mergeP sh k := by unfold t1; rw [if_pos h]; rfl
/-- What tidy has done behind its first j rounds. -/
noncomputable def stepsT (sh : List (Nat × PL)) (i : Int) : Nat → List (Nat × PL)
  | 0 => sh
  | j + 1 => t1 (stepsT sh i j) (i - (j : Nat))
theorem szL_len : ∀ l : PL, 3 * l.length ≤ szL l ∧ ∀ p ∈ l, p.1.size + p.2.size ≤ szL l := by
  have key : ∀ (l : PL) (a : Nat), a + 3 * l.length ≤ (l.map szP).foldl (· + ·) a ∧ ∀ p ∈ l, a + (p.1.size + p.2.size) ≤ (l.map szP).foldl (· + ·) a := by
    intro l
    induction l with
    | nil => intro a; exact ⟨Nat.le_refl _, fun p hp => by cases hp⟩
    | cons q l ih =>
      intro a
      obtain ⟨h1, h2⟩ := ih (a + szP q)
      simp only [List.map_cons, List.foldl_cons, List.length_cons]
      unfold szP at *
      refine ⟨by omega, fun p hp => ?_⟩
      rcases List.mem_cons.1 hp with rfl | hp
      · omega
      · have := h2 p hp; omega
  intro l
  obtain ⟨h1, h2⟩ := key l 0
  exact ⟨by unfold szL; omega, fun p hp => by have := h2 p hp; unfold szL; omega⟩
theorem small_of {l : PL} (h : szL l ≤ 1020) : Small l := by
  obtain ⟨h1, h2⟩ := szL_len l
  exact ⟨by omega, fun p hp => by have := h2 p hp; omega⟩
/-- Leaves that fit, none empty. -/
def Good (L : List Lf) : Prop := ∀ x ∈ L, szL x.l ≤ 1020 ∧ 0 < x.l.length
theorem merge_shP {L : List Lf} {k : Nat} (hk : k + 1 < L.length) (x : Lf) (h1 : x.id = L[k].id) (h2 : x.l = L[k].l ++ L[k + 1].l) : shP ((L.set k x).take (k + 1) ++ (L.set k x).drop (k + 2)) = mergeP (shP L) k := by
  have e : L.set k x = L.take k ++ x :: L.drop (k + 1) := List.set_eq_take_append_cons_drop .. |>.trans (by rw [if_pos (by omega)])
  have lt : (L.take k).length = k := by rw [List.length_take]; omega
  have e1 : (L.set k x).take (k + 1) = L.take k ++ [x] := by
    rw [e, List.take_append, List.take_of_length_le (by omega), lt, show k + 1 - k = 1 by omega]
    rfl
  have e2 : (L.set k x).drop (k + 2) = L.drop (k + 2) := by
    rw [e, List.drop_append, List.drop_of_length_le (by omega), lt, show k + 2 - k = 2 by omega, List.nil_append, List.drop_succ_cons, List.drop_drop]
  have g1 : ((shP L).getD k (0, [])).1 = L[k].id := by
    rw [List.getD_eq_getElem?_getD, List.getElem?_eq_getElem (by rw [shP_len]; omega)]
    simp [shP]
  unfold mergeP
  rw [e1, e2, g1, lfA_shP (by omega), lfA_shP hk]
  simp [shP, h1, h2, List.map_take, List.map_drop]
set_option maxHeartbeats 6400000 in
set_option maxRecDepth 100000 in
theorem tidy_any (w : World) (base gs gj : Nat) (v0 : Value) (L0 : List Lf) (h0 : ShO w base gs gj v0 L0) (hg : Good L0) (hn : L0.length ≤ 100000) (hbs : base ≤ w.heap.size) (i : Nat) (hi : i ≤ 100000) :
    Calls Try.prog 39 #[.pointer (some ⟨gs, 0, none⟩), .int .i64 (i : Int)] w fun e w' => e = .returned (.tuple #[]) ∧ ∃ v L, ShO w' base gs gj v L ∧ shP L = stepsT (shP L0) i 2 ∧ Good L ∧ Touch (fun k => k = gs ∨ v0.ownBlock = some k) w w' ∧ (∀ k, v.ownBlock = some k → v0.ownBlock = some k ∨ w.heap.size ≤ k) := by
  obtain ⟨W1, hW1⟩ : ∃ W1, W1 = w.alloc (.cells #[.int .i64 (i : Int), .int .i64 ((i : Int) - 1)] 3) := ⟨_, rfl⟩
  have Q1 : Hid (Below w.heap.size w W1) := by rw [hW1]; exact (Below.refl _ w).alloc (Nat.le_refl _) _
  have hbk : W1.heap[w.heap.size]? = some (.cells #[.int .i64 (i : Int), .int .i64 ((i : Int) - 1)] 3 (0, 0)) := by rw [hW1]; exact blk_new w _
  have IB := Lib.hid hbk
  have S0 := Lib.hid (h0.below Q1.out)
  have T0 : Hid (Touch (fun k => k = gs ∨ v0.ownBlock = some k) w W1) := Touch.of_below Q1.out
  have HG := Lib.hid hg
  have V0lt : Hid (∀ k, v0.ownBlock = some k → k < w.heap.size ∧ base ≤ k) := fun k hk => by
    rcases h0.row with ⟨rfl, _⟩ | ⟨g, cap, cur, rfl, hb, hkk, _⟩
    · cases hk
    · cases hk; exact ⟨lt_of_block hkk, hb⟩
  have GSlt : Hid (gs < w.heap.size) := lt_of_block h0.box
  clear hbk h0 hg
  go_enter Try.func39, Try.ntmps39
  go_wp2_with fail
  rw [← hW1]
  clear hW1
  go_loopw [11] (fun iv wr => ∃ (j : Nat) (v : Value) (L : List Lf), j ≤ 2 ∧ iv = .int .i64 j ∧ Hid (ShO wr base gs gj v L) ∧ Hid (shP L = stepsT (shP L0) i j) ∧ Hid (Touch (fun k => k = gs ∨ v0.ownBlock = some k) w wr) ∧ Hid (wr.heap[w.heap.size]? = some (.cells #[.int .i64 (i : Int), .int .i64 ((i : Int) - 1)] 3 (0, 0)) ∧ Good L ∧ L.length ≤ L0.length) ∧ Hid (∀ k, v.ownBlock = some k → v0.ownBlock = some k ∨ w.heap.size < k)) (fun iv _ => 2 - (intOf iv).toNat)
  case atStart => exact ⟨0, v0, L0, by decide, rfl, S0, rfl, T0, ⟨IB.out, HG.out, Nat.le_refl _⟩, fun k hk => .inl hk⟩
  case round =>
    obtain ⟨j, v, L, hj, rfl, hst, hsh, htt, hpp, hnb⟩ := hrel
    by_cases hj2 : j < 2
    · obtain ⟨kk, hkk⟩ : ∃ kk : Int, kk = (i : Int) - (j : Nat) := ⟨_, rfl⟩
      have y0 : wr.cell? ⟨w.heap.size, j, none⟩ = some (.int .i64 kk) := by
        rw [blk_cell hpp.out.1, hkk]
        match j, hj2 with
        | 0, _ => simp
        | 1, _ => simp
      have c1 := blk_cell hst.out.box 1
      simp at c1
      obtain ⟨Av, cap, rfl⟩ : ∃ Av cap, v = .slice Av L.length cap := by
        rcases hst.out.row with ⟨rfl, rfl⟩ | ⟨g, cap, cur, rfl, _⟩
        · exact ⟨none, 0, rfl⟩
        · exact ⟨_, _, rfl⟩
      have c1d : wr.drew.cell? ⟨gs, 1, none⟩ = some (.slice Av L.length cap) := c1
      have hjl : (j : Int) < 2 := by omega
      have hk1 : -1 ≤ kk ∧ kk ≤ 100000 := by omega
      have HKK := Lib.hid hkk
      have hLl := hpp.out.2.2
      clear hkk
      by_cases hneg : kk < 0
      · have dk : decide (0 ≤ kk) = false := by simp; omega
        have wr1 : IntKind.i64.wrap (kk + 1) = kk + 1 := by rw [IntKind.wrap_i64]; omega
        have HOFF : Hid (¬ Fits (shP L) kk) := fun ⟨k, e, _⟩ => by omega
        have ST2 := Lib.hid (hst.out.below (Below.refl _ wr).drew)
        have SH2 : Hid (shP L = stepsT (shP L0) i (j + 1)) := by unfold Hid; rw [stepsT, ← hsh.out, ← HKK.out, t1_off HOFF.out]
        have TT2 := Lib.hid (htt.out.trans (Touch.of_below (Below.refl _ wr).drew : Touch (fun _ => False) wr wr.drew) (fun _ _ x => x.elim))
        have PP2 := hpp
        have NB2 := hnb
        go_wp2_with fail
        refine wp_region_flag (fun w' => w'.cell? ⟨gs, 1, none⟩ = some (.slice Av L.length cap)) [(0, 1), (1, 1), (2, 1), (3, 1), (4, 1), (5, 1), (6, 1), (7, 1), (8, 0), (9, 1), (10, 1), (11, 1), (12, 1), (13, 1), (14, 1), (15, 1), (17, 1), (22, 1), (23, 1), (24, 1), (26, 1), (27, 1), (16, 2), (18, 1), (19, 1), (20, 2), (25, 2), (28, 1), (29, 1), (30, 2), (21, 0), (31, 0), (32, 1), (33, 1), (34, 1)] (by kernel_rfl) (by kernel_rfl) c1d ?_
        simp only [ordered, List.map_cons, List.map_nil, List.getD_cons_zero, List.getD_cons_succ]
        repeat (refine wpF_dry (fun K hK => ?_); go_simp; refine hK _ ?_; clear hK K)
        refine wpF_do ?_
        go_wp2_with fail
        refine ⟨c1d, ?_⟩
        repeat (refine wpF_dry (fun K hK => ?_); go_simp; refine hK _ ?_; clear hK K)
        refine wpF_skip (fun K hK => ?_)
        go_simp
        refine hK _ ?_
        clear hK K
        repeat (refine wpF_dry (fun K hK => ?_); go_simp; refine hK _ ?_; clear hK K)
        refine wpF_skip (fun K hK => ?_)
        go_simp
        refine hK _ ?_
        clear hK K
        refine wpF_skip (fun K hK => ?_)
        go_simp
        refine hK _ ?_
        clear hK K
        repeat (refine wpF_dry (fun K hK => ?_); go_simp; refine hK _ ?_; clear hK K)
        refine wpF_skip (fun K hK => ?_)
        go_simp
        refine hK _ ?_
        clear hK K
        refine wpF_do ?_
        go_wp2_with fail
        refine ⟨c1d, ?_⟩
        refine wpF_do ?_
        go_wp2_with fail
        refine ⟨c1d, ?_⟩
        repeat (refine wpF_dry (fun K hK => ?_); go_simp; refine hK _ ?_; clear hK K)
        refine wpF_nil ?_
        go_wp2
        go_roundw
        case rel => first | exact ⟨j + 1, _, L, by omega, by go_num, ST2, SH2, TT2, PP2, NB2⟩ | ((repeat apply Exists.intro); refine ⟨?_, rfl⟩; exact ⟨j + 1, _, L, by omega, by go_num, ST2, SH2, TT2, PP2, NB2⟩)
        case measure => simp [intOf]; omega
      · obtain ⟨k, rfl⟩ := Int.eq_ofNat_of_zero_le (show 0 ≤ kk by omega)
        have dk : decide (0 ≤ (k : Int)) = true := by simp
        have wr1 : IntKind.i64.wrap ((k : Int) + 1) = (k : Int) + 1 := by rw [IntKind.wrap_i64]; omega
        by_cases hlast : k + 1 < L.length
        · obtain ⟨b, hAv⟩ : ∃ b, Av = some ⟨b, 0, none⟩ := by
            rcases hst.out.row with ⟨_, e⟩ | ⟨g, _, _, e, _⟩
            · rw [e] at hlast; simp at hlast
            · cases e; exact ⟨g, rfl⟩
          subst hAv
          have u12 : wr.cell? ⟨b, k * 2 + 1, none⟩ = some (.slice L[k].A L[k].l.length L[k].c) ∧ wr.cell? ⟨b, (k + 1) * 2 + 1, none⟩ = some (.slice L[k + 1].A L[k + 1].l.length L[k + 1].c) := by
            rcases hst.out.row with ⟨e, _⟩ | ⟨g', cap', cur, e, _, hk', _, _, _, h3, _⟩
            · cases e
            · cases e
              obtain ⟨_, g1⟩ := lvv_get L k (by omega)
              obtain ⟨_, g2⟩ := lvv_get L (k + 1) hlast
              rw [← h3, List.getElem?_take_of_lt (by omega), Array.getElem?_toList] at g1 g2
              exact ⟨by rw [blk_cell hk']; exact g1, by rw [blk_cell hk']; exact g2⟩
          have r1 := hst.out.rd L[k] (List.getElem_mem _)
          have r2 := hst.out.rd L[k + 1] (List.getElem_mem _)
          have sb1 := hpp.out.2.1 L[k] (List.getElem_mem _)
          have sb2 := hpp.out.2.1 L[k + 1] (List.getElem_mem _)
          have FT : Fits (shP L) (k : Int) ↔ szL L[k].l + szL L[k + 1].l ≤ 1020 := by
            constructor
            · rintro ⟨k', e, h1, h2⟩
              obtain rfl : k' = k := by omega
              rwa [lfA_shP (by omega), lfA_shP hlast] at h2
            · intro h
              exact ⟨k, rfl, by rw [shP_len]; exact hlast, by rw [lfA_shP (by omega), lfA_shP hlast]; exact h⟩
          have FTh := Lib.hid FT
          have SZ1 := Lib.hid (sizes_any wr.drew L[k].A L[k].l.length L[k].c L[k].l rfl (r1.1.below (Below.refl _ wr).drew) (small_of sb1.1))
          have SZ2 := fun W (hW : Below wr.drew.heap.size wr.drew W) => Lib.hid (sizes_any W L[k + 1].A L[k + 1].l.length L[k + 1].c L[k + 1].l rfl ((r2.1.below (Below.refl _ wr).drew).below hW) (small_of sb2.1))
          obtain ⟨x1, hx1⟩ : ∃ x, x = L[k] := ⟨_, rfl⟩
          obtain ⟨x2, hx2⟩ : ∃ x, x = L[k + 1] := ⟨_, rfl⟩
          rw [← hx1] at u12 r1 sb1 FT SZ1
          rw [← hx2] at u12 r2 sb2 FT SZ2
          have HX1 := Lib.hid hx1; have HX2 := Lib.hid hx2
          obtain ⟨id1, l1, A1, c1'⟩ := x1
          obtain ⟨id2, l2, A2, c2⟩ := x2
          simp only at u12 r1 r2 sb1 sb2 FT SZ1 SZ2
          obtain ⟨u1d, u2d⟩ := u12
          replace u1d : wr.drew.cell? ⟨b, k * 2 + 1, none⟩ = some (.slice A1 l1.length c1') := u1d
          replace u2d : wr.drew.cell? ⟨b, (k + 1) * 2 + 1, none⟩ = some (.slice A2 l2.length c2) := u2d
          obtain ⟨z1, hz1⟩ : ∃ z, z = szL l1 := ⟨_, rfl⟩
          obtain ⟨z2, hz2⟩ : ∃ z, z = szL l2 := ⟨_, rfl⟩
          rw [← hz1] at SZ1 FT sb1
          rw [← hz2] at SZ2 FT sb2
          have R1 := Lib.hid r1; have R2 := Lib.hid r2; have SB1 := Lib.hid sb1; have SB2 := Lib.hid sb2
          have zb1 := sb1.1; have zb2 := sb2.1
          have HZ1 := Lib.hid hz1; have HZ2 := Lib.hid hz2
          have hkl : (k : Int) < (L.length : Int) := by omega
          have hkl2 : (k : Int) + 1 < (L.length : Int) := by omega
          have dkl : decide ((k : Int) + 1 < (L.length : Int)) = true := by simp; omega
          have wr2 : IntKind.i64.wrap ((z1 : Int) + (z2 : Int)) = (z1 : Int) + (z2 : Int) := by rw [IntKind.wrap_i64]; omega
          have hk0 : (0 : Int) ≤ (k : Int) + 1 := by omega
          have htn : ((k : Int) + 1).toNat = k + 1 := by omega
          clear hx1 hx2 hz1 hz2 r1 r2 sb1 sb2
          by_cases hfit : z1 + z2 ≤ 1020
          · have dz : decide ((z1 : Int) + (z2 : Int) ≤ 1020) = true := by simp; omega
            have HON := Lib.hid (FT.2 hfit)
            clear FT
            go_wp2_with fail
            refine wp_region_flag (fun w' => w'.cell? ⟨gs, 1, none⟩ = some (.slice (some ⟨b, 0, none⟩) L.length cap) ∧ w'.cell? ⟨b, k * 2 + 1, none⟩ = some (.slice A1 l1.length c1') ∧ w'.cell? ⟨b, (k + 1) * 2 + 1, none⟩ = some (.slice A2 l2.length c2)) [(0, 1), (1, 1), (2, 1), (3, 1), (4, 1), (5, 1), (6, 1), (7, 1), (8, 0), (9, 1), (10, 1), (11, 1), (12, 1), (13, 1), (14, 1), (15, 1), (17, 1), (22, 1), (23, 1), (24, 1), (26, 1), (27, 1), (16, 2), (18, 1), (19, 1), (20, 2), (25, 2), (28, 1), (29, 1), (30, 2), (21, 0), (31, 0), (32, 1), (33, 1), (34, 1)] (by kernel_rfl) (by kernel_rfl) ⟨c1d, u1d, u2d⟩ ?_
            simp only [ordered, List.map_cons, List.map_nil, List.getD_cons_zero, List.getD_cons_succ]
            repeat (refine wpF_dry (fun K hK => ?_); go_simp; refine hK _ ?_; clear hK K)
            refine wpF_do ?_
            go_wp2_with fail
            refine ⟨⟨c1d, u1d, u2d⟩, ?_⟩
            repeat (refine wpF_dry (fun K hK => ?_); go_simp; refine hK _ ?_; clear hK K)
            refine wpF_read (.slice (some ⟨b, 0, none⟩) L.length cap) rfl (fun w' hS => by obtain ⟨s1, s2, s3⟩ := hS; go_simp) (fun K hK => ?_)
            go_simp
            refine hK _ ?_
            clear hK K
            repeat (refine wpF_dry (fun K hK => ?_); go_simp; refine hK _ ?_; clear hK K)
            refine wpF_read (.slice A1 l1.length c1') rfl (fun w' hS => by obtain ⟨s1, s2, s3⟩ := hS; go_simp) (fun K hK => ?_)
            go_simp
            refine hK _ ?_
            clear hK K
            refine wpF_read (.slice (some ⟨b, 0, none⟩) L.length cap) rfl (fun w' hS => by obtain ⟨s1, s2, s3⟩ := hS; go_simp) (fun K hK => ?_)
            go_simp
            refine hK _ ?_
            clear hK K
            repeat (refine wpF_dry (fun K hK => ?_); go_simp; refine hK _ ?_; clear hK K)
            refine wpF_read (.slice A2 l2.length c2) rfl (fun w' hS => by obtain ⟨s1, s2, s3⟩ := hS; go_simp) (fun K hK => ?_)
            go_simp
            refine hK _ ?_
            clear hK K
            refine wpF_do ?_
            go_wp2_with fail
            refine SZ1.out.mono ?_
            rintro e w3 ⟨rfl, q3⟩
            have SZ3 := SZ2 w3 q3
            have c1e := cell_below q3 c1d; have u1e := cell_below q3 u1d; have u2e := cell_below q3 u2d
            have B3 : Hid (Below wr.heap.size wr w3) := (Below.refl _ wr).drew.trans q3
            clear q3 SZ1 SZ2 c1d u1d u2d
            go_wp2_with fail
            refine ⟨⟨c1e, u1e, u2e⟩, ?_⟩
            refine wpF_do ?_
            go_wp2_with fail
            refine SZ3.out.mono ?_
            rintro e w4 ⟨rfl, q4⟩
            have c1f := cell_below q4 c1e; have u1f := cell_below q4 u1e; have u2f := cell_below q4 u2e
            have B4 : Hid (Below wr.heap.size wr w4) := B3.out.trans (q4.mono B3.out.size)
            clear q4 SZ3 c1e u1e u2e
            go_wp2_with fail
            refine ⟨⟨c1f, u1f, u2f⟩, ?_⟩
            repeat (refine wpF_dry (fun K hK => ?_); go_simp; refine hK _ ?_; clear hK K)
            refine wpF_nil ?_
            obtain ⟨i0, hi0, hz0, hz1, hz2⟩ := info_parts infoPr
            have S4 := Lib.hid (hst.out.below B4.out)
            obtain ⟨b1, o1, rfl, _⟩ := R1.out.1 SB1.out.2
            obtain ⟨b2, o2, rfl, _⟩ := R2.out.1 SB2.out.2
            have RC1 : Hid (∀ j u, (prv l1)[j]? = some u → w4.drew.cell? ((⟨b1, o1, none⟩ : Addr).add j) = some u) := rd_cells ((R1.out.1.below B4.out).below (Below.refl _ w4).drew)
            have RC2 : Hid (∀ j u, (prv l2)[j]? = some u → w4.drew.cell? ((⟨b2, o2, none⟩ : Addr).add j) = some u) := rd_cells ((R2.out.1.below B4.out).below (Below.refl _ w4).drew)
            have hcp1 : (l1.length ≤ c1') := R1.out.2.1
            have ln1 : 3 * l1.length ≤ z1 := by rw [HZ1.out]; exact (szL_len l1).1
            have ln2 : 3 * l2.length ≤ z2 := by rw [HZ2.out]; exact (szL_len l2).1
            have c1d : w4.drew.cell? ⟨gs, 1, none⟩ = some (.slice (some ⟨b, 0, none⟩) L.length cap) := c1f
            have u1d : w4.drew.cell? ⟨b, k * 2 + 1, none⟩ = some (.slice (some ⟨b1, o1, none⟩) l1.length c1') := u1f
            have u2d : w4.drew.cell? ⟨b, (k + 1) * 2 + 1, none⟩ = some (.slice (some ⟨b2, o2, none⟩) l2.length c2) := u2f
            go_wp2_with fail
            refine wp_region_tail (fun w' => w'.cell? ⟨gs, 1, none⟩ = some (.slice (some ⟨b, 0, none⟩) L.length cap) ∧ w'.cell? ⟨b, k * 2 + 1, none⟩ = some (.slice (some ⟨b1, o1, none⟩) l1.length c1') ∧ w'.cell? ⟨b, (k + 1) * 2 + 1, none⟩ = some (.slice (some ⟨b2, o2, none⟩) l2.length c2)) [(0, 1), (1, 1), (2, 1), (4, 1), (5, 1), (6, 1), (7, 1), (9, 1), (13, 1), (14, 1), (15, 1), (17, 1), (22, 1), (23, 1), (24, 1), (26, 1), (32, 1), (33, 1), (34, 1), (36, 1), (37, 1), (3, 2), (8, 2), (10, 1), (11, 1), (12, 2), (16, 2), (18, 1), (19, 1), (20, 2), (21, 1), (25, 2), (27, 1), (28, 1), (29, 2), (30, 1), (31, 1), (35, 0), (38, 1), (39, 1), (40, 0), (41, 0), (42, 1), (43, 1)] [44] (by kernel_rfl) (by kernel_rfl) ⟨c1d, u1d, u2d⟩ ?_
            repeat (refine wpT_dry (fun K hK => ?_); go_simp; refine hK _ ?_; clear hK K)
            refine wpT_read (.slice (some ⟨b, 0, none⟩) L.length cap) rfl (fun w' hS => by obtain ⟨s1, s2, s3⟩ := hS; go_simp) (fun K hK => ?_)
            go_simp
            refine hK _ ?_
            clear hK K
            refine wpT_read (.slice (some ⟨b, 0, none⟩) L.length cap) rfl (fun w' hS => by obtain ⟨s1, s2, s3⟩ := hS; go_simp) (fun K hK => ?_)
            go_simp
            refine hK _ ?_
            clear hK K
            repeat (refine wpT_dry (fun K hK => ?_); go_simp; refine hK _ ?_; clear hK K)
            refine wpT_read (.slice (some ⟨b1, o1, none⟩) l1.length c1') rfl (fun w' hS => by obtain ⟨s1, s2, s3⟩ := hS; go_simp) (fun K hK => ?_)
            go_simp
            refine hK _ ?_
            clear hK K
            refine wpT_read (.slice (some ⟨b, 0, none⟩) L.length cap) rfl (fun w' hS => by obtain ⟨s1, s2, s3⟩ := hS; go_simp) (fun K hK => ?_)
            go_simp
            refine hK _ ?_
            clear hK K
            repeat (refine wpT_dry (fun K hK => ?_); go_simp; refine hK _ ?_; clear hK K)
            refine wpT_read (.slice (some ⟨b1, o1, none⟩) l1.length c1') rfl (fun w' hS => by obtain ⟨s1, s2, s3⟩ := hS; go_simp) (fun K hK => ?_)
            go_simp
            refine hK _ ?_
            clear hK K
            repeat (refine wpT_dry (fun K hK => ?_); go_simp; refine hK _ ?_; clear hK K)
            refine wpT_read (.slice (some ⟨b, 0, none⟩) L.length cap) rfl (fun w' hS => by obtain ⟨s1, s2, s3⟩ := hS; go_simp) (fun K hK => ?_)
            go_simp
            refine hK _ ?_
            clear hK K
            repeat (refine wpT_dry (fun K hK => ?_); go_simp; refine hK _ ?_; clear hK K)
            refine wpT_read (.slice (some ⟨b1, o1, none⟩) l1.length c1') rfl (fun w' hS => by obtain ⟨s1, s2, s3⟩ := hS; go_simp) (fun K hK => ?_)
            go_simp
            refine hK _ ?_
            clear hK K
            repeat (refine wpT_dry (fun K hK => ?_); go_simp; refine hK _ ?_; clear hK K)
            refine wpT_do ?_
            go_wp2_with fail
            refine ⟨⟨c1d, u1d, u2d⟩, ?_⟩
            repeat (refine wpT_dry (fun K hK => ?_); go_simp; refine hK _ ?_; clear hK K)
            refine wpT_do ?_
            go_wp2_with fail
            refine ⟨⟨c1d, u1d, u2d⟩, ?_⟩
            refine wpT_do ?_
            refine (wpList_append_full _ rfl (.tmp 81) (.tmp 90) 43 rfl 47 i0 _ 2 32 Try.underlying43 hi0 hz0 hz1 hz2 rfl (by decide) ⟨b1, o1, none⟩ l1.length l1.length (Nat.le_refl _) (prv l1) rfl (prv_len l1) RC1.out ⟨b2, o2, none⟩ l2.length c2 (prv l2) rfl (prv_len l2) RC2.out (by unfold maxLen; omega) (by omega) (Nat.le_refl _) ?_)
            intro v5 w5 gr5 r5
            obtain ⟨A3, c3, rfl, R3⟩ : ∃ A c, v5 = .slice A (l1 ++ l2).length c ∧ Hid (LfRd w5 ⟨id1, l1 ++ l2, A, c⟩) := by
              rcases r5 with ⟨e, _⟩ | ⟨_, r5⟩
              · have := SB2.out.2
                omega
              · rw [← prv_append] at r5
                exact lf_own r5 id1
            have q5 : Below w4.heap.size w4 w5 := ((Below.refl w4.heap.size w4).drew).grown gr5 (Nat.le_refl _) (fun j hj => by cases hj)
            have S5 := Lib.hid (S4.out.below q5)
            have B5 : Hid (Below wr.heap.size wr w5) := B4.out.trans (q5.mono B4.out.size)
            have c1g := cell_below q5 c1f; have u1g := cell_below q5 u1f; have u2g := cell_below q5 u2f
            have f1 := S5.out.row_free (k * 2 + 1)
            clear gr5 r5 q5 c1f u1f u2f c1d u1d u2d RC1 RC2 S4 hi0 hz0 hz1 hz2
            go_wp2_with fail
            refine ⟨⟨c1g, u1g, u2g⟩, ?_⟩
            repeat (refine wpT_dry (fun K hK => ?_); go_simp; refine hK _ ?_; clear hK K)
            refine wpT_tail ?_
            refine wpE_do ?_
            go_wp2_with fail
            refine ⟨trivial, ?_⟩
            refine wpE_nil ?_
            have S6 : ShO (w5.setCell ⟨b, k * 2 + 1, none⟩ (.slice A3 (l1.length + l2.length) c3)) base gs gj (.slice (some ⟨b, 0, none⟩) L.length cap) (L.set k ⟨id1, l1 ++ l2, A3, c3⟩) := by
              rw [← List.length_append]
              exact S5.out.setLeaf (by omega) ⟨id1, l1 ++ l2, A3, c3⟩ (by show id1 = L[k].id; rw [← HX1.out]) R3.out
            have NBb := hnb.out b rfl
            have hbI : b ≠ w.heap.size := fun e => by
              rcases NBb with e' | e'
              · have := (V0lt.out b e').1; omega
              · omega
            have T6 : Touch (fun k => k = gs ∨ v0.ownBlock = some k) w (w5.setCell ⟨b, k * 2 + 1, none⟩ (.slice A3 (l1.length + l2.length) c3)) := (htt.out.trans (Touch.of_below B5.out : Touch (fun _ => False) wr w5) (fun _ _ x => x.elim)).setCell (p := ⟨b, k * 2 + 1, none⟩) (by rcases NBb with e | e; exact .inl (.inr e); exact .inr (Nat.le_of_lt e)) _
            have P6 : (w5.setCell ⟨b, k * 2 + 1, none⟩ (.slice A3 (l1.length + l2.length) c3)).heap[w.heap.size]? = some (.cells #[.int .i64 (i : Int), .int .i64 ((i : Int) - 1)] 3 (0, 0)) := (blk_set_ne (p := ⟨b, k * 2 + 1, none⟩) hbI _).trans ((B5.out.block _ (lt_of_block hpp.out.1)).trans hpp.out.1)
            obtain ⟨w6, hw6⟩ : ∃ x, x = w5.setCell ⟨b, k * 2 + 1, none⟩ (.slice A3 (l1.length + l2.length) c3) := ⟨_, rfl⟩
            obtain ⟨L4, hL4⟩ : ∃ x, x = L.set k ⟨id1, l1 ++ l2, A3, c3⟩ := ⟨_, rfl⟩
            have len4 : L4.length = L.length := by rw [hL4, List.length_set]
            have G4 : Hid (Good L4) := fun x hx => by
              rw [hL4] at hx
              rcases List.mem_or_eq_of_mem_set hx with hx | rfl
              · exact hpp.out.2.1 x hx
              · refine ⟨?_, ?_⟩
                · show szL (l1 ++ l2) ≤ 1020
                  rw [szL_app, ← HZ1.out, ← HZ2.out]; exact hfit
                · show 0 < (l1 ++ l2).length
                  have := SB1.out.2
                  simp only [List.length_append]; omega
            have SHM : Hid (shP (L4.take (k + 1) ++ L4.drop (k + 2)) = mergeP (shP L) k) := by rw [hL4]; exact merge_shP hlast _ (by show id1 = L[k].id; rw [← HX1.out]) (by show l1 ++ l2 = L[k].l ++ L[k + 1].l; rw [← HX1.out, ← HX2.out])
            rw [← hw6, ← hL4] at S6
            rw [← hw6] at T6 P6 ⊢
            rw [← len4] at S6
            have S6h := Lib.hid S6; have T6h := Lib.hid T6; have P6h := Lib.hid P6
            have RW1 : Hid (∀ j u, (lvv (L4.take (k + 1)))[j]? = some u → w6.drew.cell? ((⟨b, 0, none⟩ : Addr).add j) = some u) := lr_cells0 (S6.below (Below.refl _ w6).drew).row (k + 1)
            have RW2 : Hid (∀ j u, (lvv (L4.drop (k + 2)))[j]? = some u → w6.drew.cell? ((⟨b, (k + 2) * 2, none⟩ : Addr).add j) = some u) := lr_cells (S6.below (Below.refl _ w6).drew).row (k + 2)
            have LW1 : (lvv (L4.take (k + 1))).length = (k + 1) * 2 := by rw [lvv_len, List.length_take]; omega
            have LW2 : (lvv (L4.drop (k + 2))).length = (L.length - (k + 2)) * 2 := by rw [lvv_len, List.length_drop, len4]
            have c1h : w6.drew.cell? ⟨gs, 1, none⟩ = some (.slice (some ⟨b, 0, none⟩) L.length cap) := by
              have := blk_cell S6.box 1
              rw [len4] at this
              exact this
            have hcapL : L.length ≤ cap := by
              rcases S6.row with ⟨e, _⟩ | ⟨_, _, _, e, _, _, h1, _⟩
              · cases e
              · cases e; omega
            obtain ⟨ad2, hA2, RW3⟩ : ∃ ad : Addr, (if cap = k + 2 then some (⟨b, 0, none⟩ : Addr) else some ⟨b, (k + 2) * 2, none⟩) = some ad ∧ Hid (∀ j u, (lvv (L4.drop (k + 2)))[j]? = some u → w6.drew.cell? (ad.add j) = some u) := by
              by_cases h : cap = k + 2
              · refine ⟨⟨b, 0, none⟩, by rw [if_pos h], fun j u hj => ?_⟩
                rw [List.drop_eq_nil_of_le (by omega)] at hj
                simp [lvv] at hj
              · exact ⟨⟨b, (k + 2) * 2, none⟩, by rw [if_neg h], RW2.out⟩
            clear RW2
            clear hw6 S6 T6 P6 hL4 c1g u1g u2g f1 S5 R3
            obtain ⟨i1, hi1, hy0, hy1, hy2⟩ := info_parts infoLf
            have wr3 : IntKind.i64.wrap ((k : Int) + 2) = (k : Int) + 2 := by rw [IntKind.wrap_i64]; omega
            have hk2 : (0 : Int) ≤ (k : Int) + 2 := by omega
            have htn2 : ((k : Int) + 2).toNat = k + 2 := by omega
            have hkc : k + 1 ≤ cap := by omega
            have hkl3 : (k : Int) + 2 ≤ (L.length : Int) := by omega
            have hkci : (k : Int) + 1 ≤ (cap : Int) := by omega
            have hlci : (L.length : Int) ≤ (cap : Int) := by omega
            go_wp2_with fail
            refine wp_region_tail (fun w' => w'.cell? ⟨gs, 1, none⟩ = some (.slice (some ⟨b, 0, none⟩) L.length cap)) [(0, 1), (1, 1), (2, 1), (3, 1), (5, 1), (6, 1), (7, 1), (8, 1), (10, 1), (11, 1), (12, 1), (14, 1), (15, 1), (4, 2), (9, 1), (13, 0), (16, 1), (17, 0), (18, 1), (19, 1)] [20] (by kernel_rfl) (by kernel_rfl) c1h ?_
            repeat (refine wpT_dry (fun K hK => ?_); go_simp; refine hK _ ?_; clear hK K)
            refine wpT_read (.slice (some ⟨b, 0, none⟩) L.length cap) rfl (fun w' hS => by go_simp) (fun K hK => ?_)
            go_simp
            refine hK _ ?_
            clear hK K
            repeat (refine wpT_dry (fun K hK => ?_); go_simp; refine hK _ ?_; clear hK K)
            refine wpT_do ?_
            go_wp2_with fail
            refine ⟨c1h, ?_⟩
            repeat (refine wpT_dry (fun K hK => ?_); go_simp; refine hK _ ?_; clear hK K)
            try rw [hA2]
            refine wpT_do ?_
            refine (wpList_append_full _ rfl (.tmp 103) (.tmp 110) 83 rfl 82 i1 _ 2 32 Try.underlying83 hi1 hy0 hy1 hy2 rfl (by decide) ⟨b, 0, none⟩ (k + 1) (k + 1) (Nat.le_refl _) (lvv (L4.take (k + 1))) rfl LW1 RW1.out ad2 (L.length - (k + 2)) (cap - (k + 2)) (lvv (L4.drop (k + 2))) rfl LW2 RW3.out (by unfold maxLen; omega) (by omega) (Nat.le_refl _) ?_)
            intro v7 w7 gr7 r7
            have W6sz : w.heap.size < w6.heap.size := lt_of_block P6h.out
            obtain ⟨LR7, OB7⟩ := lrow_full (w := w6.drew) (w' := w7) (S6h.out.below (Below.refl _ w6).drew).row (n := k + 1) (by omega) (show base ≤ w6.heap.size by omega) (m := L.length - (k + 2)) (M := L4.drop (k + 2)) (by rw [List.length_drop, len4]) r7
            have B7 : Below w6.heap.size w6 w7 := ((Below.refl w6.heap.size w6).drew).grown gr7 (Nat.le_refl _) (fun j hj => by cases hj)
            have S7 := S6h.out.below B7
            have c1i := cell_below B7 c1h
            have f2 : w7.frozen? ⟨gs, 1, none⟩ = false := blk_free S7.box 1
            have T7 := T6h.out.trans (Touch.of_below B7 : Touch (fun _ => False) w6 w7) (fun _ _ x => x.elim)
            have P7 := (B7.block _ (lt_of_block P6h.out)).trans P6h.out
            obtain ⟨L8, hL8⟩ : ∃ x, x = L4.take (k + 1) ++ L4.drop (k + 2) := ⟨_, rfl⟩
            have M8 : ∀ x ∈ L8, x ∈ L4 := fun x hx => by
              rw [hL8] at hx
              rcases List.mem_append.1 hx with hx | hx
              · exact List.mem_of_mem_take hx
              · exact List.mem_of_mem_drop hx
            have len8 : L8.length ≤ L0.length := by
              have := hpp.out.2.2
              rw [hL8, List.length_append, List.length_take, List.length_drop, len4]; omega
            rw [← hL8] at LR7 SHM
            obtain ⟨A7, n7, c7, rfl⟩ : ∃ A n c, v7 = .slice A n c := by
              rcases LR7 with ⟨e, _⟩ | ⟨g, cp, _, e, _⟩
              · exact ⟨none, 0, 0, e⟩
              · exact ⟨_, _, _, e⟩
            have S8 := Lib.hid (S7.setRow LR7 (fun x hx => S7.rd x (M8 x hx)))
            have G8 : Good L8 := fun x hx => G4.out x (M8 x hx)
            have T8 := Lib.hid (T7.setCell (p := ⟨gs, 1, none⟩) (.inl (.inl rfl)) (Value.slice A7 n7 c7))
            have P8 : (w7.setCell ⟨gs, 1, none⟩ (Value.slice A7 n7 c7)).heap[w.heap.size]? = some (.cells #[.int .i64 (i : Int), .int .i64 ((i : Int) - 1)] 3 (0, 0)) := (blk_set_ne (p := ⟨gs, 1, none⟩) (fun e => by have e' : gs = w.heap.size := e; have := GSlt.out; omega) _).trans P7
            have PP2 : Hid ((w7.setCell ⟨gs, 1, none⟩ (Value.slice A7 n7 c7)).heap[w.heap.size]? = some (.cells #[.int .i64 (i : Int), .int .i64 ((i : Int) - 1)] 3 (0, 0)) ∧ Good L8 ∧ L8.length ≤ L0.length) := ⟨P8, G8, len8⟩
            have NB2 : Hid (∀ k, (Value.slice A7 n7 c7).ownBlock = some k → v0.ownBlock = some k ∨ w.heap.size < k) := fun k' hk' => by
              rcases OB7 with e | ⟨x, e, hx⟩
              · rw [e] at hk'; cases hk'; exact NBb
              · rw [e] at hk'; cases hk'
                exact .inr (Nat.lt_of_lt_of_le W6sz hx)
            have SH2 : Hid (shP L8 = stepsT (shP L0) i (j + 1)) := by unfold Hid; rw [stepsT, ← hsh.out, ← HKK.out, t1_on HON.out]; exact SHM.out
            clear gr7 r7 LR7 OB7 B7 S7 T7 P7 hL8 M8 G8 P8 len8 c1h S6h T6h P6h RW1 RW3
            go_wp2_with fail
            refine ⟨c1i, ?_⟩
            repeat (refine wpT_dry (fun K hK => ?_); go_simp; refine hK _ ?_; clear hK K)
            refine wpT_tail ?_
            refine wpE_do ?_
            go_wp2_with fail
            refine ⟨trivial, ?_⟩
            refine wpE_nil ?_
            obtain ⟨w8, hw8⟩ : ∃ x, x = w7.setCell ⟨gs, 1, none⟩ (Value.slice A7 n7 c7) := ⟨_, rfl⟩
            have ST2 : Hid (ShO w8 base gs gj (Value.slice A7 n7 c7) L8) := by rw [hw8]; exact S8
            have TT2 : Hid (Touch (fun k => k = gs ∨ v0.ownBlock = some k) w w8) := by rw [hw8]; exact T8
            rw [← hw8] at PP2 ⊢
            clear hw8 S8 T8 c1i f2
            go_wp2
            go_roundw
            case rel => first | exact ⟨j + 1, _, L8, by omega, by go_num, ST2, SH2, TT2, PP2, NB2⟩ | ((repeat apply Exists.intro); refine ⟨?_, rfl⟩; exact ⟨j + 1, _, L8, by omega, by go_num, ST2, SH2, TT2, PP2, NB2⟩)
            case measure => simp [intOf]; omega
          · have dz : decide ((z1 : Int) + (z2 : Int) ≤ 1020) = false := by simp; omega
            have HOFF : Hid (¬ Fits (shP L) (k : Int)) := fun h => hfit (FT.1 h)
            clear FT
            go_wp2_with fail
            refine wp_region_flag (fun w' => w'.cell? ⟨gs, 1, none⟩ = some (.slice (some ⟨b, 0, none⟩) L.length cap) ∧ w'.cell? ⟨b, k * 2 + 1, none⟩ = some (.slice A1 l1.length c1') ∧ w'.cell? ⟨b, (k + 1) * 2 + 1, none⟩ = some (.slice A2 l2.length c2)) [(0, 1), (1, 1), (2, 1), (3, 1), (4, 1), (5, 1), (6, 1), (7, 1), (8, 0), (9, 1), (10, 1), (11, 1), (12, 1), (13, 1), (14, 1), (15, 1), (17, 1), (22, 1), (23, 1), (24, 1), (26, 1), (27, 1), (16, 2), (18, 1), (19, 1), (20, 2), (25, 2), (28, 1), (29, 1), (30, 2), (21, 0), (31, 0), (32, 1), (33, 1), (34, 1)] (by kernel_rfl) (by kernel_rfl) ⟨c1d, u1d, u2d⟩ ?_
            simp only [ordered, List.map_cons, List.map_nil, List.getD_cons_zero, List.getD_cons_succ]
            repeat (refine wpF_dry (fun K hK => ?_); go_simp; refine hK _ ?_; clear hK K)
            refine wpF_do ?_
            go_wp2_with fail
            refine ⟨⟨c1d, u1d, u2d⟩, ?_⟩
            repeat (refine wpF_dry (fun K hK => ?_); go_simp; refine hK _ ?_; clear hK K)
            refine wpF_read (.slice (some ⟨b, 0, none⟩) L.length cap) rfl (fun w' hS => by obtain ⟨s1, s2, s3⟩ := hS; go_simp) (fun K hK => ?_)
            go_simp
            refine hK _ ?_
            clear hK K
            repeat (refine wpF_dry (fun K hK => ?_); go_simp; refine hK _ ?_; clear hK K)
            refine wpF_read (.slice A1 l1.length c1') rfl (fun w' hS => by obtain ⟨s1, s2, s3⟩ := hS; go_simp) (fun K hK => ?_)
            go_simp
            refine hK _ ?_
            clear hK K
            refine wpF_read (.slice (some ⟨b, 0, none⟩) L.length cap) rfl (fun w' hS => by obtain ⟨s1, s2, s3⟩ := hS; go_simp) (fun K hK => ?_)
            go_simp
            refine hK _ ?_
            clear hK K
            repeat (refine wpF_dry (fun K hK => ?_); go_simp; refine hK _ ?_; clear hK K)
            refine wpF_read (.slice A2 l2.length c2) rfl (fun w' hS => by obtain ⟨s1, s2, s3⟩ := hS; go_simp) (fun K hK => ?_)
            go_simp
            refine hK _ ?_
            clear hK K
            refine wpF_do ?_
            go_wp2_with fail
            refine SZ1.out.mono ?_
            rintro e w3 ⟨rfl, q3⟩
            have SZ3 := SZ2 w3 q3
            have c1e := cell_below q3 c1d; have u1e := cell_below q3 u1d; have u2e := cell_below q3 u2d
            have B3 : Hid (Below wr.heap.size wr w3) := (Below.refl _ wr).drew.trans q3
            clear q3 SZ1 SZ2 c1d u1d u2d
            go_wp2_with fail
            refine ⟨⟨c1e, u1e, u2e⟩, ?_⟩
            refine wpF_do ?_
            go_wp2_with fail
            refine SZ3.out.mono ?_
            rintro e w4 ⟨rfl, q4⟩
            have c1f := cell_below q4 c1e; have u1f := cell_below q4 u1e; have u2f := cell_below q4 u2e
            have B4 : Hid (Below wr.heap.size wr w4) := B3.out.trans (q4.mono B3.out.size)
            clear q4 SZ3 c1e u1e u2e
            go_wp2_with fail
            refine ⟨⟨c1f, u1f, u2f⟩, ?_⟩
            repeat (refine wpF_dry (fun K hK => ?_); go_simp; refine hK _ ?_; clear hK K)
            refine wpF_nil ?_
            have ST2 := Lib.hid (hst.out.below B4.out)
            have SH2 : Hid (shP L = stepsT (shP L0) i (j + 1)) := by unfold Hid; rw [stepsT, ← hsh.out, ← HKK.out, t1_off HOFF.out]
            have TT2 := Lib.hid (htt.out.trans (Touch.of_below B4.out : Touch (fun _ => False) wr w4) (fun _ _ x => x.elim))
            have PP2 := Lib.hid (And.intro ((B4.out.block _ (lt_of_block hpp.out.1)).trans hpp.out.1) hpp.out.2)
            have NB2 := hnb
            clear c1f u1f u2f
            go_wp2
            go_roundw
            case rel => first | exact ⟨j + 1, _, L, by omega, by go_num, ST2, SH2, TT2, PP2, NB2⟩ | ((repeat apply Exists.intro); refine ⟨?_, rfl⟩; exact ⟨j + 1, _, L, by omega, by go_num, ST2, SH2, TT2, PP2, NB2⟩)
            case measure => simp [intOf]; omega
        · have dkl : decide ((k : Int) + 1 < (L.length : Int)) = false := by simp; omega
          have HOFF : Hid (¬ Fits (shP L) (k : Int)) := fun ⟨k', e, h1, _⟩ => by rw [shP_len] at h1; omega
          have ST2 := Lib.hid (hst.out.below (Below.refl _ wr).drew)
          have SH2 : Hid (shP L = stepsT (shP L0) i (j + 1)) := by unfold Hid; rw [stepsT, ← hsh.out, ← HKK.out, t1_off HOFF.out]
          have TT2 := Lib.hid (htt.out.trans (Touch.of_below (Below.refl _ wr).drew : Touch (fun _ => False) wr wr.drew) (fun _ _ x => x.elim))
          have PP2 := hpp
          have NB2 := hnb
          go_wp2_with fail
          refine wp_region_flag (fun w' => w'.cell? ⟨gs, 1, none⟩ = some (.slice Av L.length cap)) [(0, 1), (1, 1), (2, 1), (3, 1), (4, 1), (5, 1), (6, 1), (7, 1), (8, 0), (9, 1), (10, 1), (11, 1), (12, 1), (13, 1), (14, 1), (15, 1), (17, 1), (22, 1), (23, 1), (24, 1), (26, 1), (27, 1), (16, 2), (18, 1), (19, 1), (20, 2), (25, 2), (28, 1), (29, 1), (30, 2), (21, 0), (31, 0), (32, 1), (33, 1), (34, 1)] (by kernel_rfl) (by kernel_rfl) c1d ?_
          simp only [ordered, List.map_cons, List.map_nil, List.getD_cons_zero, List.getD_cons_succ]
          repeat (refine wpF_dry (fun K hK => ?_); go_simp; refine hK _ ?_; clear hK K)
          refine wpF_do ?_
          go_wp2_with fail
          refine ⟨c1d, ?_⟩
          repeat (refine wpF_dry (fun K hK => ?_); go_simp; refine hK _ ?_; clear hK K)
          refine wpF_skip (fun K hK => ?_)
          go_simp
          refine hK _ ?_
          clear hK K
          repeat (refine wpF_dry (fun K hK => ?_); go_simp; refine hK _ ?_; clear hK K)
          refine wpF_skip (fun K hK => ?_)
          go_simp
          refine hK _ ?_
          clear hK K
          refine wpF_skip (fun K hK => ?_)
          go_simp
          refine hK _ ?_
          clear hK K
          repeat (refine wpF_dry (fun K hK => ?_); go_simp; refine hK _ ?_; clear hK K)
          refine wpF_skip (fun K hK => ?_)
          go_simp
          refine hK _ ?_
          clear hK K
          refine wpF_do ?_
          go_wp2_with fail
          refine ⟨c1d, ?_⟩
          refine wpF_do ?_
          go_wp2_with fail
          refine ⟨c1d, ?_⟩
          repeat (refine wpF_dry (fun K hK => ?_); go_simp; refine hK _ ?_; clear hK K)
          refine wpF_nil ?_
          go_wp2
          go_roundw
          case rel => first | exact ⟨j + 1, _, L, by omega, by go_num, ST2, SH2, TT2, PP2, NB2⟩ | ((repeat apply Exists.intro); refine ⟨?_, rfl⟩; exact ⟨j + 1, _, L, by omega, by go_num, ST2, SH2, TT2, PP2, NB2⟩)
          case measure => simp [intOf]; omega
    · have hj3 : j = 2 := by omega
      subst hj3
      go_wp2
      go_end0
      exact ⟨rfl, v, L, hst.out, hsh.out, hpp.out.2.1, htt.out, fun k hk => (hnb.out k hk).imp id Nat.le_of_lt⟩
end Go.Proofs.Ytoolkamajlgcbaa
/- ShR: a shelf's spare: a page that no leaf has. -/
set_option linter.unusedVariables false
set_option linter.unusedSimpArgs false
namespace Go.Proofs.Ytoolkamajlgcbaa
open Go.RowKit

/-- A map of numbers to bools, by what it says of each. -/
def SeenM (w : World) (b n : Nat) (U : Nat → Bool) : Prop := ∃ D : DataW Unit, w.ownsMap Try.prog 3 (plainElem Try.prog 4) b n D ∧ ∀ i : Nat, D.atKey (.int .i64 (i : Int)) (.lit (.bool false)) = .lit (.bool (U i))
theorem wf_small {i : Nat} (h : i ≤ 1000000) : (Lit.int .i64 (i : Int)).wf = true := by
  have e1 : IntKind.i64.min = -9223372036854775808 := by decide
  have e2 : IntKind.i64.max = 9223372036854775807 := by decide
  simp [Lit.wf, e1, e2]
  omega
theorem plain_bool_inv {P : Program} {e : TypeId} (he : P.underlying e = some .bool) {v : Value} {x : Bool} {ps : List MemPlace} (h : plainElem (H := Unit) P e v = some (.lit (.bool x), ps)) : v = .bool x := by
  unfold plainElem at h
  rw [he] at h
  cases v <;> simp at h
  rw [h.1]
theorem ik_small {i : Nat} (h : i ≤ 1000000) : keyOf Try.prog 3 (.int .i64 (i : Int)) = some (.int .i64 (i : Int)) := Maps.keyOf_int_mk Try.underlying3 (wf_small h)
theorem SeenM.kept {w w' : World} {b n : Nat} {U : Nat → Bool} (h : SeenM w b n U) {row : Option Nat} (hg : w.grownBy w' row) (hne : some b ≠ row) : SeenM w' b n U := by
  obtain ⟨D, h1, h2⟩ := h
  exact ⟨D, h1.kept hg hne, h2⟩
theorem SeenM.look {w : World} {b n : Nat} {U : Nat → Bool} (h : SeenM w b n U) {i : Nat} (hi : i ≤ 1000000) : (Instr.lookup 115 (.map (some b)) (.int .i64 (i : Int)) false).run Try.prog w = .ok (.bool (U i)) w := by
  obtain ⟨D, h1, h2⟩ := h
  obtain ⟨v, ps, hr, hv⟩ := h1.lookup (Maps.int_keyed Try.underlying3) Try.underlying115 (z := .bool false) (by kernel_rfl) (zd := .lit (.bool false)) (zp := []) (plainElem_bool Try.underlying4 false) (ik_small hi)
  rw [h2 i] at hv
  rw [hr, plain_bool_inv Try.underlying4 hv]
theorem SeenM.upd {w : World} {b n : Nat} {U : Nat → Bool} (h : SeenM w b n U) (hn : n ≤ 1000000) {i : Nat} (hi : i ≤ 1000000) : ∃ w', (Instr.mapUpdate 115 (.map (some b)) (.int .i64 (i : Int)) (.bool true)).run Try.prog w = .ok () w' ∧ SeenM w' b (n + 1) (fun j => j == i || U j) ∧ w.grownBy w' (some b) := by
  obtain ⟨D, h1, h2⟩ := h
  have hm : Maps.IsMap D := h1.isMap
  obtain ⟨w', r1, r2, r3⟩ := h1.update (Maps.int_keyed Try.underlying3) Try.underlying115 (by unfold maxLen; omega) (ik_small hi) (val := .bool true) (d := .lit (.bool true)) (ps := []) (plainElem_bool Try.underlying4 true)
  refine ⟨w', r1, ⟨_, r2, fun j => ?_⟩, r3⟩
  by_cases e : j = i
  · subst e
    rw [Maps.atKey_put_same hm ((Maps.Keyed.one (Maps.int_keyed (P := Try.prog) Try.underlying3)).key ⟨_, ik_small hi⟩)]
    simp
  · rw [Maps.atKey_put_other (by simp; omega), h2]
    simp [e]
theorem SeenM.made (w : World) : SeenM (w.alloc (.map #[] 0)) w.heap.size 0 (fun _ => false) := ⟨_, World.ownsMap_made w _ _ _, fun i => rfl⟩
def usedA (sh : List (Nat × PL)) (k i : Nat) : Bool := i == 0 || ((sh.take k).map (·.1)).contains i
/-- The first page that no leaf has; 0: there is none. -/
def spareA (sh : List (Nat × PL)) (P : Nat) : Nat := ((List.range P).find? (fun i => !usedA sh sh.length i)).getD 0
theorem usedA_step {sh : List (Nat × PL)} {k : Nat} (h : k < sh.length) : usedA sh (k + 1) = fun j => j == sh[k].1 || usedA sh k j := by
  funext j
  unfold usedA
  rw [List.take_succ_eq_append_getElem h, List.map_append, List.contains_append]
  rw [show ([sh[k]].map (·.1)).contains j = (j == sh[k].1) by simp [List.contains_cons]; rw [Bool.eq_iff_iff]; simp]
  cases j == 0 <;> cases (List.map (fun x => x.1) (List.take k sh)).contains j <;> cases j == sh[k].1 <;> rfl
theorem spareA_some {sh : List (Nat × PL)} {P k : Nat} (hk : k < P) (h0 : ∀ i, i < k → usedA sh sh.length i = true) (h1 : usedA sh sh.length k = false) : spareA sh P = k := by
  unfold spareA
  rw [List.find?_range_eq_some.2 ⟨by rw [h1]; rfl, by simpa using hk, fun j hj => by rw [h0 j hj]; rfl⟩]
  rfl
theorem spareA_none {sh : List (Nat × PL)} {P : Nat} (h0 : ∀ i, i < P → usedA sh sh.length i = true) : spareA sh P = 0 := by
  unfold spareA
  rw [List.find?_range_eq_none.2 (fun j hj => by rw [h0 j hj]; rfl)]
  rfl
set_option maxHeartbeats 1600000 in
set_option maxRecDepth 100000 in
theorem spare_any (w : World) (gs gj g P : Nat) (sh : List (Nat × PL)) (hs : ShRd w gs sh) (hj : Jb w gj g P) (hP : P ≤ 1000) (c0 : w.cell? ⟨gs, 0, none⟩ = some (.pointer (some ⟨gj, 0, none⟩))) (hn : sh.length ≤ 100000) (hid : ∀ i (h : i < sh.length), sh[i].1 ≤ 1000000) :
    Calls Try.prog 42 #[.pointer (some ⟨gs, 0, none⟩)] w fun e w' => e = .returned (.int .i64 (spareA sh P : Nat)) ∧ Below w.heap.size w w' := by
  have HS := Lib.hid hs; have HJ := Lib.hid hj; have HID := Lib.hid hid
  obtain ⟨A, c, g1, g2, g3⟩ := hs
  have G3 := Lib.hid g3; have G1 := Lib.hid g1; have C0 := Lib.hid c0
  have hmm : ∀ W : World, (Instr.makeMap 115 none).run Try.prog W = .ok (.map (some W.heap.size)) (W.alloc (.map #[] 0)) := fun W => run_makeMap _ W
  obtain ⟨W1, hup, hsm, hgr⟩ := (SeenM.made w).upd (Nat.zero_le _) (i := 0) (Nat.zero_le _)
  have Q1 : Below w.heap.size w W1 := ((Below.refl _ w).alloc (Nat.le_refl _) _).grown hgr (by simp) (fun j hj => by cases hj; exact Nat.le_refl _)
  have Z1 : Hid (w.heap.size < W1.heap.size) := by
    have := hgr.size
    simp at this
    unfold Hid; omega
  have SM : Hid (SeenM W1 w.heap.size 1 (usedA sh 0)) := by
    have e : usedA sh 0 = fun j => j == 0 || (fun _ => false) j := by funext j; simp [usedA]
    unfold Hid; rw [e]; exact hsm
  have Q1h := Lib.hid Q1
  replace g1 := cell_below Q1 g1
  clear hid hj hsm hgr Q1 g3 c0
  simp only [Int.natCast_zero, Int.ofNat_zero] at hup
  go_enter Try.func42, Try.ntmps42
  go_wp2_with fail
  go_loopw [14] (fun i wr => ∃ k : Nat, k ≤ sh.length ∧ i = .int .i64 k ∧ Hid (SeenM wr w.heap.size (k + 1) (usedA sh k)) ∧ Hid (Below w.heap.size w wr) ∧ Hid (w.heap.size < wr.heap.size)) (fun i _ => sh.length - (intOf i).toNat)
  case atStart => exact ⟨0, Nat.zero_le _, rfl, SM, Q1h, Z1⟩
  case round =>
    obtain ⟨k, hk, rfl, hsm, hb, hz⟩ := hrel
    clear hup
    by_cases hlt : k < sh.length
    · obtain ⟨b, o, rfl, hc⟩ := G3.out (by omega)
      obtain ⟨z0, A', c', z1, zc, zr⟩ := hc k hlt
      replace z0 := cell_below hb.out z0; replace z1 := cell_below hb.out z1
      have ID := HID.out k hlt
      have ST := Lib.hid (usedA_step hlt)
      generalize sh[k].1 = id at z0 ID ST
      generalize sh[k].2.length = nl at z1
      obtain ⟨W2, hW2⟩ : ∃ W2, W2 = wr.alloc (.cells #[.int .i64 (id : Int), .slice A' nl c'] 82) := ⟨_, rfl⟩
      have SM2 : SeenM W2 w.heap.size (k + 1) (usedA sh k) := by rw [hW2]; exact hsm.out.kept (World.grownBy_alloc _ _ none) (by simp)
      obtain ⟨W3, hu3, sm3, gr3⟩ := SM2.upd (by omega) (i := id) ID
      rw [hW2] at hu3
      have B3 : Hid (Below w.heap.size w W3) := (by rw [hW2] at gr3; exact (hb.out.alloc (Nat.le_of_lt hz.out) _).grown gr3 (by have := hz.out; simp; omega) (fun j hj => by cases hj; exact Nat.le_refl _))
      have Z3 : Hid (w.heap.size < W3.heap.size) := by have := gr3.size; rw [hW2] at this; simp at this; have := hz.out; unfold Hid; omega
      have SM3 : Hid (SeenM W3 w.heap.size (k + 1 + 1) (usedA sh (k + 1))) := by unfold Hid; rw [ST.out]; exact sm3
      clear hc zr sm3 gr3 SM2 ST hW2
      go_wp2
      go_roundw
      case rel => first | exact ⟨k + 1, hlt, by go_num, SM3, B3, Z3⟩ | ((repeat apply Exists.intro); refine ⟨?_, rfl⟩; exact ⟨k + 1, hlt, by go_num, SM3, B3, Z3⟩)
      case measure => simp [intOf]; omega
    · have hkl : k = sh.length := by omega
      subst hkl
      have c0 := cell_below hb.out C0.out
      have PG := Lib.hid (pages_any wr gj g P (HJ.out.below hb.out))
      clear hmm g1
      go_wp2_with fail
      refine PG.out.mono ?_
      rintro e w' ⟨rfl, rfl⟩
      clear PG
      go_wp2_with fail
      go_loopw [27] (fun i wx => ∃ k : Nat, k ≤ P ∧ i = .int .i64 k ∧ wx = wr ∧ Hid (∀ i, i < k → usedA sh sh.length i = true)) (fun i _ => P - (intOf i).toNat)
      case atStart => exact ⟨0, Nat.zero_le _, rfl, rfl, fun i h => absurd h (by omega)⟩
      case round =>
        obtain ⟨k, hk, rfl, rfl, hu⟩ := hrel
        by_cases hlt : k < P
        · have lk := hsm.out.look (i := k) (by omega)
          cases hc : usedA sh sh.length k with
          | true =>
            rw [hc] at lk
            have U2 : Hid (∀ i, i < k + 1 → usedA sh sh.length i = true) := fun i hi => by
              by_cases e : i = k
              · rw [e]; exact hc
              · exact hu.out i (by omega)
            clear hc
            go_wp2
            go_roundw
            case rel => first | exact ⟨k + 1, hlt, by go_num, rfl, U2⟩ | exact ⟨k + 1, hlt, by go_num, trivial, U2⟩ | ((repeat apply Exists.intro); refine ⟨?_, rfl⟩; exact ⟨k + 1, hlt, by go_num, rfl, U2⟩)
            case measure => simp [intOf]; omega
          | false =>
            rw [hc] at lk
            have HC := Lib.hid hc
            clear hc
            go_wp2
            go_ret
            exact ⟨by rw [spareA_some hlt hu.out HC.out]; rfl, hb.out⟩
        · have hkp : k = P := by omega
          subst hkp
          go_wp2
          go_ret
          exact ⟨by rw [spareA_none hu.out]; rfl, hb.out⟩
end Go.Proofs.Ytoolkamajlgcbaa
/- ShS: the first entry of a shelf that has no leaf. -/
set_option linter.unusedVariables false
set_option linter.unusedSimpArgs false
namespace Go.Proofs.Ytoolkamajlgcbaa
open Go.RowKit

/-- append onto a slice of nothing without room. -/
theorem wpList_append_zero {P : Program} (w : World) {ops : Array Oper} {rest : List Oper} {o : Oper} {a : Act} {Q : Exit → Act → World → Prop} (hgd : o.guard = none) (s x : Operand) (t : TypeId)
    (ho : o.op = .call { callee := .builtin .append, args := #[s, x], argTypes := #[t, t] }) (e : TypeId) (i : TypeInfo) (z : Value) (size bytes : Nat) (ht : P.underlying t = some (.slice e)) (hi : P.info? e = some i) (hz : i.zero = some z) (hsize : i.size = size) (hby : i.bytes = bytes) (hzs : z.cells.size = size) (hsz : 0 < size)
    (A : Option Addr) (hs : a.eval s = .slice A 0 0)
    (ad : Addr) (m c : Nat) (news : List Value) (hx : a.eval x = .slice (some ad) m c) (hl : news.length = m * size) (hnews : ∀ j u, news[j]? = some u → w.cell? (ad.add j) = some u) (h1 : ∀ u ∈ news, u.oneCell' = true) (h63 : m ≤ maxLen) (hbytes : m * bytes ≤ 140737488355328) (hm : 0 < m)
    (k : ∀ v' w', w.grownBy w' none → w'.ownsRow w.heap.size e size v' m news → wpList P ops Q rest (a.put o.dst v') w') : wpList P ops Q (o :: rest) a w := by
  cases A with
  | none =>
    refine wpList_append_own_at w hgd s x t ho w.heap.size e i z size bytes ht hi hz hsize hby hzs hsz (.slice none 0 0) 0 [] hs (World.ownsRow_nil _ _ _ _) ad m c news hx hl hnews h1 (by omega) (by rw [Nat.zero_add]; exact hbytes) (Nat.le_refl _) ?_
    intro v' w' ho hg _ _
    rw [Nat.zero_add, List.nil_append] at ho
    exact k v' w' hg ho
  | some b =>
    refine wpList_append_full w hgd s x t ho e i z size bytes ht hi hz hsize hby hzs hsz b 0 0 (Nat.le_refl _) [] hs (by simp) (fun j u h => by simp at h) ad m c news hx hl hnews (by omega) (by rw [Nat.zero_add]; exact hbytes) (Nat.le_refl _) ?_
    intro v' w' hg r
    rcases r with ⟨h0, _⟩ | ⟨_, ho⟩
    · omega
    · rw [Nat.zero_add, List.nil_append] at ho
      exact k v' w' hg ho
theorem sho_empty {w : World} {base gs gj : Nat} {v : Value} (h : ShO w base gs gj v []) : ∃ A, v = .slice A 0 0 := by
  rcases h.row with ⟨e, _⟩ | ⟨g, cap, cur, e, _, _, _, _, _, _, h0⟩
  · exact ⟨none, e⟩
  · rw [h0 rfl] at e; exact ⟨_, e⟩
set_option maxHeartbeats 3200000 in
set_option maxRecDepth 100000 in
theorem put_zero (w : World) (base gs gj : Nat) (v0 : Value) (h : ShO w base gs gj v0 []) (hbs : base ≤ w.heap.size) (a x : ByteArray) (h1 : 1 ≤ a.size) (h2 : a.size ≤ 64) (h3 : x.size ≤ 400) :
    Calls Try.prog 17 #[.pointer (some ⟨gs, 0, none⟩), .string a, .string x] w fun e w' => e = .returned (.int .i64 0) ∧ ∃ v L, ShO w' base gs gj v L ∧ shP L = [(1, [(a, x)])] ∧ Touch (fun k => k = gs ∨ v0.ownBlock = some k) w w' ∧ (∀ k, v.ownBlock = some k → v0.ownBlock = some k ∨ w.heap.size ≤ k) := by
  obtain ⟨A0, rfl⟩ := sho_empty h
  obtain ⟨i0, hi, hz0, hz1, hz2⟩ := info_parts infoLf
  have MY := Lib.hid (may_ok w a x h1 h2 h3)
  obtain ⟨W1, hW1⟩ : ∃ W1, W1 = w.alloc (.cells #[.string a, .string x] 47) := ⟨_, rfl⟩
  have Q1 : Below w.heap.size w W1 := by rw [hW1]; exact (Below.refl _ w).alloc (Nat.le_refl _) _
  have hb := h.box
  have hb1 : ShB W1 gs gj (.slice A0 0 0) := (Q1.block _ (lt_of_block hb)).trans hb
  have hp1 : W1.heap[w.heap.size]? = some (.cells #[.string a, .string x] 47 (0, 0)) := by rw [hW1]; exact blk_new w _
  have FN := Lib.hid (find_any W1 gs [] (h.below Q1).read (fun i h => by simp at h) (by simp) (fun i => by simp [lfA]) a)
  have r0 : fI [] a = 0 ∧ fK [] a = 0 := by unfold fI fK; refine ⟨?_, rfl⟩; rw [srch]; rfl
  rw [r0.1, r0.2, hW1] at FN
  have Q1h := Lib.hid Q1; have HB1 := Lib.hid hb1; have HP1 := Lib.hid hp1; have H0 := Lib.hid h
  clear r0 Q1 hb1 hp1 h
  go_enter Try.func17, Try.ntmps17
  go_wp2_with fail
  refine MY.out.mono ?_
  rintro e w' ⟨rfl, rfl⟩
  go_wp2_with fail
  refine FN.out.mono ?_
  rw [← hW1]
  rintro e w2 ⟨rfl, q2⟩
  have hb2 : ShB w2 gs gj (.slice A0 0 0) := (q2.block _ (lt_of_block HB1.out)).trans HB1.out
  have hp2 : w2.heap[w.heap.size]? = some (.cells #[.string a, .string x] 47 (0, 0)) := (q2.block _ (lt_of_block HP1.out)).trans HP1.out
  have Q2 : Hid (Below w.heap.size w w2) := Q1h.out.trans (q2.mono Q1h.out.size)
  have c0 := blk_cell hb2 0; have c1 := blk_cell hb2 1
  have p0 := blk_cell hp2 0; have p1 := blk_cell hp2 1
  have f1 := blk_free hb2 1
  simp at c0 c1 p0 p1
  have HB2 := Lib.hid hb2; have HP2 := Lib.hid hp2
  clear q2 FN hW1 hb2 hp2
  go_wp2_with fail
  refine wp_region_tail (fun w' => w'.cell? ⟨gs, 1, none⟩ = some (.slice A0 0 0)) [(0, 1), (1, 1), (2, 1), (3, 1), (4, 2), (5, 0), (6, 0), (7, 1), (8, 0), (9, 0), (10, 1), (11, 1)] [12] (by kernel_rfl) (by kernel_rfl) c1 ?_
  repeat (refine wpT_dry (fun K hK => ?_); go_simp; refine hK _ ?_; clear hK K)
  refine wpT_read (.slice A0 0 0) rfl (fun w' hS => by go_simp) (fun K hK => ?_)
  go_simp
  refine hK _ ?_
  clear hK K
  refine wpT_do ?_
  go_wp2_with fail
  refine ⟨c1, ?_⟩
  obtain ⟨W3, hW3⟩ : ∃ W3, W3 = (w2.alloc (.cells #[.string a, .string x] 47)).drew := ⟨_, rfl⟩
  have q23 : Below w2.heap.size w2 W3 := by rw [hW3]; exact ((Below.refl _ w2).alloc (Nat.le_refl _) _).drew
  have b3 : W3.heap[w2.heap.size]? = some (.cells #[.string a, .string x] 47 (0, 0)) := by rw [hW3]; exact blk_new w2 _
  have HB3 : Hid (ShB W3 gs gj (.slice A0 0 0)) := (q23.block _ (lt_of_block HB2.out)).trans HB2.out
  have k2 := blk_cell HB3.out 1
  simp at k2
  have K2 := Lib.hid k2; have B3 := Lib.hid b3; have HW3 := Lib.hid hW3; have Q23 := Lib.hid q23
  refine wpT_do ?_
  clear b3 hW3 k2 q23
  go_wp2_with fail
  rw [← HW3.out]
  refine ⟨K2.out, ?_⟩
  repeat (refine wpT_dry (fun K hK => ?_); go_simp; refine hK _ ?_; clear hK K)
  obtain ⟨W4, hW4⟩ : ∃ W4, W4 = W3.alloc (.cells #[.int .i64 1, .slice (some ⟨w2.heap.size, 0, none⟩) 1 1] 82) := ⟨_, rfl⟩
  have q34 : Below W3.heap.size W3 W4 := by rw [hW4]; exact (Below.refl _ W3).alloc (Nat.le_refl _) _
  have HB4 : Hid (ShB W4 gs gj (.slice A0 0 0)) := (q34.block _ (lt_of_block HB3.out)).trans HB3.out
  have k3 := blk_cell HB4.out 1
  simp at k3
  have NW : Hid (∀ j u, [Value.int .i64 1, .slice (some ⟨w2.heap.size, 0, none⟩) 1 1][j]? = some u → W4.cell? ((⟨W3.heap.size, 0, none⟩ : Addr).add j) = some u) := by unfold Hid; rw [hW4]; exact two_new _ _ _ _
  have SZ4 : Hid (W3.heap.size < W4.heap.size) := by rw [hW4]; unfold Hid; simp
  have K3 := Lib.hid k3; have HW4 := Lib.hid hW4; have Q34 := Lib.hid q34
  refine wpT_do ?_
  clear hW4 k3 q34
  go_wp2_with fail
  rw [← HW4.out]
  refine ⟨K3.out, ?_⟩
  refine wpT_do ?_
  simp only [List.getD_cons_zero, List.getD_cons_succ]
  refine (wpList_append_zero _ rfl (.tmp 44) (.tmp 48) 83 rfl 82 i0 _ 2 32 Try.underlying83 hi hz0 hz1 hz2 rfl (by decide) A0 rfl ⟨W3.heap.size, 0, none⟩ 1 1 [.int .i64 1, .slice (some ⟨w2.heap.size, 0, none⟩) 1 1] rfl rfl NW.out (by simp [Value.oneCell']) (by decide) (by decide) (by decide) ?_)
  intro v5 w5 hg5 ho5
  have g54 : Below W4.heap.size W4 w5 := (Below.refl W4.heap.size W4).grown hg5 (Nat.le_refl _) (fun j hj => by cases hj)
  have B24 : Below w.heap.size w W4 := (Q2.out.trans (Q23.out.mono Q2.out.size)).trans (Q34.out.mono (Nat.le_trans Q2.out.size Q23.out.size))
  have B5 : Hid (Below w.heap.size w w5) := B24.trans (g54.mono (by have := SZ4.out; have := Q23.out.size; have := Q2.out.size; omega))
  have S5 := H0.out.below B5.out
  have LR := own_lrow (L := [⟨1, [(a, x)], some ⟨w2.heap.size, 0, none⟩, 1⟩]) ho5 (by show 0 < 1; omega)
  have LR' : LRow w5 base v5 [⟨1, [(a, x)], some ⟨w2.heap.size, 0, none⟩, 1⟩] := by
    rcases LR with h | ⟨g, cap, cur, e, hb, r⟩
    · exact .inl h
    · exact .inr ⟨g, cap, cur, e, Nat.le_trans hbs (Nat.le_trans B24.size hb), r⟩
  have OB : Hid (∀ k, v5.ownBlock = some k → (Value.slice A0 0 0).ownBlock = some k ∨ w.heap.size ≤ k) := fun k hk => by
    rcases LR with ⟨e, _⟩ | ⟨g, cap, cur, e, hb, _⟩
    · rw [e] at hk; cases hk
    · rw [e] at hk; cases hk; exact .inr (Nat.le_trans B24.size hb)
  have HP5 : w5.heap[w2.heap.size]? = some (.cells #[.string a, .string x] 47 (0, 0)) := (g54.block _ (by have := SZ4.out; have := lt_of_block B3.out; omega)).trans ((Q34.out.block _ (lt_of_block B3.out)).trans B3.out)
  have RD5 : LfRd w5 ⟨1, [(a, x)], some ⟨w2.heap.size, 0, none⟩, 1⟩ := by
    refine ⟨fun _ => ⟨w2.heap.size, 0, rfl, fun k hk => ?_⟩, Nat.le_refl _, fun b o e => ?_⟩
    · obtain rfl : k = 0 := by simpa using hk
      have y0 := blk_cell HP5 0; have y1 := blk_cell HP5 1
      simp at y0 y1
      exact ⟨y0, y1⟩
    · cases e; exact ⟨_, HP5⟩
  have SR := Lib.hid (S5.setRow LR' (fun y hy => by rw [List.mem_singleton] at hy; rw [hy]; exact RD5))
  have k4 := blk_cell S5.box 1
  have f4 := blk_free S5.box 1
  simp at k4
  obtain ⟨A5, n5, c5, rfl⟩ : ∃ A n c, v5 = .slice A n c := by
    rcases LR with ⟨e, _⟩ | ⟨g, cp, _, e, _⟩
    · exact ⟨none, 0, 0, e⟩
    · exact ⟨_, _, _, e⟩
  clear ho5 hg5 g54 B24 S5 LR LR' HP5 RD5
  go_wp2_with fail
  refine ⟨k4, ?_⟩
  repeat (refine wpT_dry (fun K hK => ?_); go_simp; refine hK _ ?_; clear hK K)
  refine wpT_tail ?_
  refine wpE_do ?_
  go_wp2_with fail
  refine ⟨trivial, ?_⟩
  refine wpE_nil ?_
  go_wp2
  go_ret
  have tt : Touch (fun k => k = gs ∨ (Value.slice A0 0 0).ownBlock = some k) w5 (w5.setCell ⟨gs, 1, none⟩ (.slice A5 n5 c5)) := (Touch.refl _ w5).setCell (p := ⟨gs, 1, none⟩) (.inl (.inl rfl)) _
  exact ⟨rfl, _, _, SR.out, rfl, (Touch.of_below B5.out : Touch (fun k => k = gs ∨ (Value.slice A0 0 0).ownBlock = some k) w w5).trans tt (fun _ _ h => h), OB.out⟩
end Go.Proofs.Ytoolkamajlgcbaa
