/- CmN: the walk of the law ShelfPlays. -/
import Derived.Test.YtoolkamajlgcbaaCmM
set_option linter.unusedVariables false
set_option linter.unusedSimpArgs false
namespace Go.Proofs.Ytoolkamajlgcbaa
open Go.RowKit

theorem Ply.mono {w : World} {lo gj g P n m gs : Nat} {d : Dk} {sh gd : List (Nat × PL)} (h : Ply w lo gj g P n gs d sh gd) (hm : m ≤ n) : Ply w lo gj g P m gs d sh gd :=
  ⟨h.sho, h.jb, h.gsl, h.los, h.dk, h.wf, h.two, h.kept, h.two2, h.fw.mono hm⟩
/-- The cells of a step. -/
def OpC (w : World) (b : Nat) (kd n lg : Int) (a bt c : ByteArray) : Prop := w.cell? ⟨b, 0, none⟩ = some (.int .i64 kd) ∧ w.cell? ⟨b, 1, none⟩ = some (.int .i64 n) ∧ w.cell? ⟨b, 2, none⟩ = some (.int .i64 lg) ∧ w.cell? ⟨b, 3, none⟩ = some (.string a) ∧ w.cell? ⟨b, 4, none⟩ = some (.string bt) ∧ w.cell? ⟨b, 5, none⟩ = some (.string c)
theorem op_cells {w : World} {b : Nat} {kd n lg : Int} {a bt c : ByteArray} (h : w.heap[b]? = some (opCells kd n lg a bt c)) : OpC w b kd n lg a bt c := by
  have x0 := blk_cell h 0; have x1 := blk_cell h 1; have x2 := blk_cell h 2
  have x3 := blk_cell h 3; have x4 := blk_cell h 4; have x5 := blk_cell h 5
  simp at x0 x1 x2 x3 x4 x5
  exact ⟨x0, x1, x2, x3, x4, x5⟩
theorem op_tch {w w' : World} {b : Nat} {kd n lg : Int} {a bt c : ByteArray} (h : w.heap[b]? = some (opCells kd n lg a bt c)) (ht : Tch w w') : w'.heap[b]? = some (opCells kd n lg a bt c) := ht.blk h (by decide)
theorem rdrop_any (w : World) (v : Value) (l : PL) (h : RdP w v l) (hn : l.length ≤ 1000000) (a : ByteArray) :
    Calls Try.prog 27 #[v, .string a] w fun e w' => ∃ v', e = .returned (.tuple #[v', .bool (hitI l a)]) ∧ RdP w' v' (dropI l a) ∧ Below w.heap.size w w' := by
  cases hh : hitI l a with
  | false =>
    have DE : dropI l a = l := by unfold dropI; rw [hh]; rfl
    obtain ⟨A, c, rfl, hr⟩ := id h.rd
    refine (rdrop_no w A c l hr hn a hh).mono ?_
    rintro e w' ⟨rfl, hb⟩
    exact ⟨_, rfl, by rw [DE]; exact h.below hb, hb⟩
  | true =>
    rcases h with ⟨rfl, rfl⟩ | ⟨b, o, c, rfl, h1, h2⟩
    · unfold hitI at hh
      rw [dif_neg (by simp)] at hh
      cases hh
    · refine (rdrop_yes w b o c l h1 h2 hn a hh).mono ?_
      rintro e w' ⟨v', rfl, ho, hb⟩
      exact ⟨v', rfl, rdP_own ho, hb⟩
theorem drop_hit {sh : List (Nat × PL)} (h : Srt (flatS sh)) (hg : GoodS sh) (a : ByteArray) : (dropA sh a).1 = hitI (flatS sh) a := by
  rw [← getF_hit, getF_eq h hg]
  unfold dropA
  cases getK sh a <;> rfl
set_option maxHeartbeats 6400000 in
set_option maxRecDepth 100000 in
theorem shelfPlays_walk (w : World) (pages : Int) (v1 : Value) (l1 : List SOp) (h1 : RdSOps w v1 l1) :
    Calls Try.prog 6 #[.int .i64 pages, v1] w fun e w' => e = .returned (.bool true) ∧ Below w.heap.size w w' := by
  obtain ⟨A1, c1, rfl⟩ := sops_val h1
  have H1 := Lib.hid h1
  clear h1
  by_cases hbad : pages < 2 ∨ 12 < pages
  · have SN := Lib.hid (sopened_no w pages hbad)
    rcases (show pages < 2 ∨ 2 ≤ pages by omega) with h | h
    · have d1 : decide (pages < 2) = true := by simpa using h
      clear hbad h
      go_enter Try.func6, Try.ntmps6
      go_wp2_with fail
      refine SN.out.mono ?_
      rintro e w' ⟨rfl, rfl⟩
      go_wp2_with fail
      refine (slives_any _).mono ?_
      rintro e w9 ⟨rfl, b9⟩
      have B9 := Lib.hid b9
      clear b9
      go_wp2
      go_ret
      exact ⟨rfl, B9.out⟩
    · have d1 : decide (pages < 2) = false := decide_eq_false (by omega)
      have d2 : decide (12 < pages) = true := by simp; omega
      clear hbad h
      go_enter Try.func6, Try.ntmps6
      go_wp2_with fail
      refine SN.out.mono ?_
      rintro e w' ⟨rfl, rfl⟩
      go_wp2_with fail
      refine (slives_any _).mono ?_
      rintro e w9 ⟨rfl, b9⟩
      have B9 := Lib.hid b9
      clear b9
      go_wp2
      go_ret
      exact ⟨rfl, B9.out⟩
  obtain ⟨P, rfl⟩ := Int.eq_ofNat_of_zero_le (show 0 ≤ pages by omega)
  have hP1 : 2 ≤ P := by omega
  have hP2 : P ≤ 12 := by omega
  have OP := Lib.hid (sopened_far w P hP1 hP2)
  clear hbad
  go_enter Try.func6, Try.ntmps6
  go_wp2_with fail
  refine OP.out.mono ?_
  rintro e w1 ⟨g, gj, gs0, rfl, hb, hgs, q1, hj, F, hd, hfar⟩
  have B1 := Lib.hid q1
  have S1 : Hid (Ply w1 w.heap.size gj g P 12000 gs0 (Dk.new (8 * P + 1)) [] []) := (ply_new hP1 hP2 hb hgs q1 hj hd hfar).mono (by omega)
  clear hb hgs q1 hj hd hfar OP
  go_wp2_with fail
  go_loopw [7, 8, 9, 10] (fun sv lv gv iv wr => ∃ (i gs : Nat) (d : Dk) (sh gd : List (Nat × PL)), i ≤ 60 ∧ iv = .int .i64 i ∧ sv = .pointer (some ⟨gs, 0, none⟩) ∧ Hid (Ply wr w.heap.size gj g P ((60 - i) * 200) gs d sh gd) ∧ Hid (RdP wr lv (flatS sh)) ∧ Hid (RdP wr gv (flatS gd)) ∧ Hid (Below w.heap.size w wr)) (fun _ _ _ iv _ => 60 - (intOf iv).toNat)
  case atStart => exact ⟨0, gs0, _, [], [], Nat.zero_le _, rfl, rfl, S1, rdP_nil _, rdP_nil _, B1⟩
  case round =>
    obtain ⟨i, gs, d, sh, gd, hi, rfl, rfl, hp, hl, hgl, hb⟩ := hrel
    by_cases hlt : i < l1.length
    case neg =>
      have dl : ¬ (i : Int) < (l1.length : Int) := by omega
      have dl' : decide ((i : Int) < (l1.length : Int)) = false := decide_eq_false dl
      go_wp2_with fail
      refine (slives_any _).mono ?_
      rintro e w9 ⟨rfl, b9⟩
      have B9 : Hid (Below w.heap.size w w9) := hb.out.trans (b9.mono hb.out.size)
      clear b9
      go_wp2
      go_ret
      exact ⟨rfl, B9.out⟩
    have dl : (i : Int) < (l1.length : Int) := by omega
    by_cases hi2 : i < 60
    case neg =>
      have di : decide ((i : Int) < 60) = false := by simp; omega
      have di' : ¬ (i : Int) < 60 := by omega
      go_wp2_with fail
      refine (slives_any _).mono ?_
      rintro e w9 ⟨rfl, b9⟩
      have B9 : Hid (Below w.heap.size w w9) := hb.out.trans (b9.mono hb.out.size)
      clear b9
      go_wp2
      go_ret
      exact ⟨rfl, B9.out⟩
    have hi3 : (i : Int) < 60 := by omega
    obtain ⟨_, k1, k2, b, off, rfl, o, ho, z0, z1, z2, z3, z4, z5⟩ := sops_at H1.out i hlt
    replace z0 := cell_below hb.out z0; replace z1 := cell_below hb.out z1; replace z2 := cell_below hb.out z2
    replace z3 := cell_below hb.out z3; replace z4 := cell_below hb.out z4; replace z5 := cell_below hb.out z5
    have HO := Lib.hid ho
    clear ho
    obtain ⟨kd, n, lg, a, bt, c⟩ := o
    simp only at z0 z1 z2 z3 z4 z5
    obtain ⟨Wo, hWo⟩ : ∃ W, W = wr.alloc (opCells kd n lg a bt c) := ⟨_, rfl⟩
    have KO : Below wr.heap.size wr Wo := by rw [hWo]; exact (Below.refl _ wr).alloc (Nat.le_refl _) _
    have XO : Hid (Wo.heap[wr.heap.size]? = some (opCells kd n lg a bt c)) := by rw [hWo]; exact blk_new wr _
    have PO : Hid (Ply Wo w.heap.size gj g P ((60 - i) * 200) gs d sh gd) := hp.out.below KO
    have LO := Lib.hid (hl.out.below KO)
    have GO' := Lib.hid (hgl.out.below KO)
    have BO : Hid (Below w.heap.size w Wo) := hb.out.trans (KO.mono hb.out.size)
    have LG := Lib.hid (slight_any Wo kd n lg a bt c)
    obtain ⟨x0, x1, x2, x3, x4, x5⟩ := op_cells XO.out
    rw [hWo] at LG x0 x1 x2 x3 x4 x5
    have HWo := Lib.hid hWo
    clear KO hWo hp hl hgl
    go_wp2_with fail
    refine LG.out.mono ?_
    rw [show wr.alloc (opCells kd n lg a bt c) = Wo from HWo.out.symm]
    rintro e w2 ⟨⟨q, rfl⟩, q2⟩
    have P2 : Hid (Ply w2 w.heap.size gj g P ((60 - i) * 200) gs d sh gd) := PO.out.below q2
    have L2 := Lib.hid (LO.out.below q2)
    have G2 := Lib.hid (GO'.out.below q2)
    have B2 : Hid (Below w.heap.size w w2) := BO.out.trans (q2.mono BO.out.size)
    have X2 : Hid (w2.heap[wr.heap.size]? = some (opCells kd n lg a bt c)) := (q2.block _ (lt_of_block XO.out)).trans XO.out
    clear q2 PO LO GO' BO XO LG x0 x1 x2 x3 x4 x5 z0 z1 z2 z3 z4 z5 HWo
    cases q with
    | false =>
      go_wp2_with fail
      refine (slives_any _).mono ?_
      rintro e w9 ⟨rfl, b9⟩
      have B9 : Hid (Below w.heap.size w w9) := B2.out.trans (b9.mono B2.out.size)
      clear b9
      go_wp2
      go_ret
      exact ⟨rfl, B9.out⟩
    | true =>
    obtain ⟨x0, x1, x2, x3, x4, x5⟩ := op_cells X2.out
    obtain ⟨Al, cl, rfl, rl⟩ := L2.out.rd
    obtain ⟨Ag, cg, rfl, rg⟩ := G2.out.rd
    have RL := Lib.hid rl
    clear rl rg
    obtain ⟨nn, hnn⟩ : ∃ n, n = (60 - (i + 1)) * 200 := ⟨_, rfl⟩
    have hn1 : nn + (8 * P + 14) ≤ (60 - i) * 200 := by omega
    have PC : Hid (Ply w2 w.heap.size gj g P (nn + (8 * P + 14)) gs d sh gd) := P2.out.mono hn1
    have P3 : Hid (Ply w2 w.heap.size gj g P nn gs d sh gd) := P2.out.mono (by omega)
    have HNN := Lib.hid hnn
    have hst := ply_stt P3.out hP1 (by omega)
    obtain ⟨st1, _, st3⟩ := hst
    clear P2 hnn hn1
    go_upto_block 2 with fail
    go_cut [7, 8, 9, 12] (fun sv lv gv okv wx => okv = .bool true ∧ ∃ (gs' : Nat) (d' : Dk) (sh' gd' : List (Nat × PL)), sv = .pointer (some ⟨gs', 0, none⟩) ∧ Hid (Ply wx w.heap.size gj g P nn gs' d' sh' gd') ∧ Hid (RdP wx lv (flatS sh')) ∧ Hid (RdP wx gv (flatS gd')) ∧ Hid (Below w.heap.size w wx))
    case first =>
      by_cases hk0 : kd = 0
      · subst hk0
        have VA := Lib.hid (value_any w2 0 n lg a bt c HO.out.val)
        go_wp2_with fail
        refine wp_region_flag (fun w' => OpC w' wr.heap.size 0 n lg a bt c) [(0, 1), (1, 1), (2, 1), (3, 1), (4, 2), (5, 0), (6, 0), (7, 0), (8, 1), (9, 1), (10, 1), (11, 1), (12, 1)] (by kernel_rfl) (by kernel_rfl) (op_cells (show w2.drew.heap[wr.heap.size]? = _ from X2.out)) ?_
        simp only [ordered, List.map_cons, List.map_nil, List.getD_cons_zero, List.getD_cons_succ]
        repeat (refine wpF_dry (fun K hK => ?_); go_simp; refine hK _ ?_; clear hK K)
        refine wpF_read (.string a) rfl (fun w' hS => by obtain ⟨s0, s1, s2, s3, s4, s5⟩ := hS; go_simp) (fun K hK => ?_); go_simp; refine hK _ ?_; clear hK K
        refine wpF_do ?_
        have PD : Hid (Ply w2.drew w.heap.size gj g P nn gs d sh gd) := P3.out.below (Below.refl _ w2).drew
        have LD := Lib.hid (L2.out.below (Below.refl _ w2).drew)
        have GD := Lib.hid (G2.out.below (Below.refl _ w2).drew)
        have BD : Hid (Below w.heap.size w w2.drew) := B2.out.drew
        have XD : Hid (w2.drew.heap[wr.heap.size]? = some (opCells 0 n lg a bt c)) := X2.out
        obtain ⟨Wd, hWd⟩ : ∃ W, W = w2.drew := ⟨_, rfl⟩
        rw [← hWd] at PD LD GD BD XD ⊢
        obtain ⟨y0, y1, y2, y3, y4, y5⟩ := op_cells XD.out
        have VA := Lib.hid (value_any Wd 0 n lg a bt c HO.out.val)
        clear x0 x1 x2 x3 x4 x5 P3 PC L2 G2 B2 X2 RL hWd
        go_wp2_with fail
        refine ⟨⟨y0, y1, y2, y3, y4, y5⟩, ?_⟩
        refine wpF_do ?_
        go_wp2_with fail
        refine VA.out.mono ?_
        rintro e w3 ⟨rfl, q3⟩
        have P4 : Hid (Ply w3 w.heap.size gj g P nn gs d sh gd) := PD.out.below q3
        have L4 := Lib.hid (LD.out.below q3)
        have G4 := Lib.hid (GD.out.below q3)
        have B4 : Hid (Below w.heap.size w w3) := BD.out.trans (q3.mono BD.out.size)
        have X4 : Hid (w3.heap[wr.heap.size]? = some (opCells 0 n lg a bt c)) := (q3.block _ (lt_of_block XD.out)).trans XD.out
        have LP := Lib.hid (lput_any P4.out hP1 hP2 _ L4.out a (valS lg c))
        clear q3 y0 y1 y2 y3 y4 y5 PD LD GD BD XD VA
        go_wp2_with fail
        refine ⟨op_cells X4.out, ?_⟩
        refine wpF_do ?_
        go_wp2_with fail
        refine LP.out.mono ?_
        rintro e w5 ⟨sh5, v5, rfl, p5, l5, t5, b5⟩
        have P5 := Lib.hid p5; have L5 := Lib.hid l5
        have G5 := Lib.hid (G4.out.tch t5)
        have B5 : Hid (Below w.heap.size w w5) := B4.out.trans b5
        have X5 := op_tch X4.out t5
        clear p5 l5 t5 b5 LP P4 L4 G4 B4 X4
        go_wp2_with fail
        refine ⟨op_cells X5, ?_⟩
        repeat (refine wpF_dry (fun K hK => ?_); go_simp; refine hK _ ?_; clear hK K)
        refine wpF_nil ?_
        go_wp2_with fail
        go_meet
        exact ⟨rfl, gs, d, sh5, gd, rfl, P5, L5, G5, B5⟩
      have hk0' : (kd == 0) = false := by simpa using hk0
      by_cases hk1 : kd = 1
      · subst hk1
        have RD := Lib.hid (rdrop_any w2 _ (flatS sh) L2.out (by omega) a)
        have DF := drop_flat (a := a) P3.out.wf.srt (full_good P3.out.wf.good)
        rw [← dropI_eq P3.out.wf.srt] at DF
        have DH := drop_hit P3.out.wf.srt P3.out.wf.good a
        have DP := fun (W : World) (hW : Ply W w.heap.size gj g P nn gs d sh gd) => ply_drop hW hP1 (by omega) a
        obtain ⟨sh5, hs5⟩ : ∃ s, s = (dropA sh a).2 := ⟨_, rfl⟩
        rw [← hs5] at DF DP
        rw [DH] at DP
        rw [← DF] at RD
        generalize hitI (flatS sh) a = hq at RD DP
        have HDP := Lib.hid DP
        clear DF DH hs5 DP
        go_wp2_with fail
        refine RD.out.mono ?_
        rintro e w3 ⟨v5, rfl, l5, q3⟩
        have P4 : Hid (Ply w3 w.heap.size gj g P nn gs d sh gd) := P3.out.below q3
        have L4 := Lib.hid l5
        have G4 := Lib.hid (G2.out.below q3)
        have B4 : Hid (Below w.heap.size w w3) := B2.out.trans (q3.mono B2.out.size)
        have X4 : Hid (w3.heap[wr.heap.size]? = some (opCells 1 n lg a bt c)) := (q3.block _ (lt_of_block X2.out)).trans X2.out
        have DP := Lib.hid (HDP.out w3 P4.out)
        clear q3 l5 x0 x1 x2 x3 x4 x5 P3 PC L2 G2 B2 X2 RL HDP RD
        obtain ⟨x0, x1, x2, x3, x4, x5⟩ := op_cells X4.out
        go_wp2_with fail
        refine DP.out.mono ?_
        rintro e w5 ⟨rfl, p5, t5, b5⟩
        have P5 := Lib.hid p5
        have L5 := Lib.hid (L4.out.tch t5)
        have G5 := Lib.hid (G4.out.tch t5)
        have B5 : Hid (Below w.heap.size w w5) := B4.out.trans b5
        have hqq : (hq == hq) = true := by cases hq <;> rfl
        clear p5 t5 b5 DP P4 L4 G4 B4 X4
        go_wp2_with fail
        go_meet
        exact ⟨rfl, gs, d, sh5, gd, rfl, P5, L5, G5, B5⟩
      have hk1' : (kd == 1) = false := by simpa using hk1
      by_cases hk2 : kd = 2
      · subst hk2
        have SG := Lib.hid (ply_get P3.out hP1 (by omega) a)
        have RG := fun (W : World) (hW : RdPr W Al (flatS sh)) => rget_any W Al cl (flatS sh) hW (by omega) a
        rw [getF_eq P3.out.wf.srt P3.out.wf.good] at RG
        generalize (getK sh a).getD ByteArray.empty = vx at SG RG
        generalize (getK sh a).isSome = vq at SG RG
        have HRG := Lib.hid RG
        clear RG
        go_wp2_with fail
        refine SG.out.mono ?_
        rintro e w3 ⟨rfl, q3⟩
        have P4 : Hid (Ply w3 w.heap.size gj g P nn gs d sh gd) := P3.out.below q3
        have L4 := Lib.hid (L2.out.below q3)
        have G4 := Lib.hid (G2.out.below q3)
        have B4 : Hid (Below w.heap.size w w3) := B2.out.trans (q3.mono B2.out.size)
        have X4 : Hid (w3.heap[wr.heap.size]? = some (opCells 2 n lg a bt c)) := (q3.block _ (lt_of_block X2.out)).trans X2.out
        have RG := Lib.hid (HRG.out w3 (RL.out.below q3))
        clear q3 x0 x1 x2 x3 x4 x5 P3 PC L2 G2 B2 X2 RL HRG SG
        obtain ⟨x0, x1, x2, x3, x4, x5⟩ := op_cells X4.out
        go_wp2_with fail
        refine RG.out.mono ?_
        rintro e w5 ⟨rfl, q5⟩
        have P5 := Lib.hid (P4.out.below q5)
        have L5 := Lib.hid (L4.out.below q5)
        have G5 := Lib.hid (G4.out.below q5)
        have B5 : Hid (Below w.heap.size w w5) := B4.out.trans (q5.mono B4.out.size)
        have hqq : (vq == vq) = true := by cases vq <;> rfl
        have hvv : (vx.toList == vx.toList) = true := by simp
        clear q5 RG P4 L4 G4 B4 X4
        go_wp2_with fail
        go_meet
        exact ⟨rfl, gs, d, sh, gd, rfl, P5, L5, G5, B5⟩
      have hk2' : (kd == 2) = false := by simpa using hk2
      by_cases hk3 : kd = 3
      · subst hk3
        go_wp2_with fail
        refine wp_region_flag (fun w' => OpC w' wr.heap.size 3 n lg a bt c) [(0, 1), (1, 1), (3, 1), (5, 1), (8, 1), (9, 1), (11, 1), (13, 1), (2, 2), (4, 2), (6, 2), (10, 2), (12, 2), (14, 2), (7, 0), (15, 0), (16, 0), (17, 1)] (by kernel_rfl) (by kernel_rfl) (op_cells (show w2.drew.heap[wr.heap.size]? = _ from X2.out)) ?_
        simp only [ordered, List.map_cons, List.map_nil, List.getD_cons_zero, List.getD_cons_succ]
        repeat (refine wpF_dry (fun K hK => ?_); go_simp; refine hK _ ?_; clear hK K)
        refine wpF_read (.string a) rfl (fun w' hS => by obtain ⟨s0, s1, s2, s3, s4, s5⟩ := hS; go_simp) (fun K hK => ?_); go_simp; refine hK _ ?_; clear hK K
        refine wpF_read (.string bt) rfl (fun w' hS => by obtain ⟨s0, s1, s2, s3, s4, s5⟩ := hS; go_simp) (fun K hK => ?_); go_simp; refine hK _ ?_; clear hK K
        refine wpF_read (.int .i64 n) rfl (fun w' hS => by obtain ⟨s0, s1, s2, s3, s4, s5⟩ := hS; go_simp) (fun K hK => ?_); go_simp; refine hK _ ?_; clear hK K
        refine wpF_read (.string a) rfl (fun w' hS => by obtain ⟨s0, s1, s2, s3, s4, s5⟩ := hS; go_simp) (fun K hK => ?_); go_simp; refine hK _ ?_; clear hK K
        refine wpF_read (.string bt) rfl (fun w' hS => by obtain ⟨s0, s1, s2, s3, s4, s5⟩ := hS; go_simp) (fun K hK => ?_); go_simp; refine hK _ ?_; clear hK K
        refine wpF_read (.int .i64 n) rfl (fun w' hS => by obtain ⟨s0, s1, s2, s3, s4, s5⟩ := hS; go_simp) (fun K hK => ?_); go_simp; refine hK _ ?_; clear hK K
        refine wpF_do ?_
        have PD : Hid (Ply w2.drew w.heap.size gj g P nn gs d sh gd) := P3.out.below (Below.refl _ w2).drew
        have LD := Lib.hid (L2.out.below (Below.refl _ w2).drew)
        have GD := Lib.hid (G2.out.below (Below.refl _ w2).drew)
        have RLD := Lib.hid (RL.out.below (Below.refl _ w2).drew)
        have BD : Hid (Below w.heap.size w w2.drew) := B2.out.drew
        have XD : Hid (w2.drew.heap[wr.heap.size]? = some (opCells 3 n lg a bt c)) := X2.out
        obtain ⟨Wd, hWd⟩ : ∃ W, W = w2.drew := ⟨_, rfl⟩
        rw [← hWd] at PD LD GD BD XD RLD ⊢
        have RA := Lib.hid (ply_range PD.out hP1 (by omega) a bt n)
        have RLEN : (rngI (flatS sh) a bt n).length ≤ 43520 := by
          unfold rngI
          rw [List.length_take]
          have h1 := List.length_filter_le (fun (p : ByteArray × ByteArray) => !ltB p.1 a && !ltB bt p.1) (flatS sh)
          omega
        clear x0 x1 x2 x3 x4 x5 P3 PC L2 G2 B2 X2 RL hWd
        go_wp2_with fail
        refine RA.out.mono ?_
        rintro e w3 ⟨vr, rfl, or, q3⟩
        have P4 : Hid (Ply w3 w.heap.size gj g P nn gs d sh gd) := PD.out.below q3
        have L4 := Lib.hid (LD.out.below q3)
        have G4 := Lib.hid (GD.out.below q3)
        have B4 : Hid (Below w.heap.size w w3) := BD.out.trans (q3.mono BD.out.size)
        have X4 : Hid (w3.heap[wr.heap.size]? = some (opCells 3 n lg a bt c)) := (q3.block _ (lt_of_block XD.out)).trans XD.out
        have RR := Lib.hid (rrange_any w3 Al cl (flatS sh) (RLD.out.below q3) (by omega) a bt n)
        obtain ⟨Ar, cr, rfl⟩ := own_slice or
        have OR := Lib.hid or
        clear q3 or RLD PD LD GD BD XD RA
        go_wp2_with fail
        refine ⟨op_cells X4.out, ?_⟩
        refine wpF_do ?_
        go_wp2_with fail
        refine RR.out.mono ?_
        rintro e w5 ⟨vs, rfl, os, q5⟩
        have P5 : Hid (Ply w5 w.heap.size gj g P nn gs d sh gd) := P4.out.below q5
        have L5 := Lib.hid (L4.out.below q5)
        have G5 := Lib.hid (G4.out.below q5)
        have B5 : Hid (Below w.heap.size w w5) := B4.out.trans (q5.mono B4.out.size)
        have X5 : Hid (w5.heap[wr.heap.size]? = some (opCells 3 n lg a bt c)) := (q5.block _ (lt_of_block X4.out)).trans X4.out
        obtain ⟨As, cs, rfl⟩ := own_slice os
        obtain ⟨A', c', e', rd1⟩ := (rdP_own (OR.out.below q5)).rd
        cases e'
        obtain ⟨A', c', e', rd2⟩ := (rdP_own os).rd
        cases e'
        have SM := Lib.hid (psame_any w5 Ar As cr cs _ _ rd1 rd2 (by omega) (by omega))
        have SE : decide (rngI (flatS sh) a bt n = rngI (flatS sh) a bt n) = true := decide_eq_true rfl
        rw [SE] at SM
        clear q5 os RR rd1 rd2 OR P4 L4 G4 B4 X4 SE
        go_wp2_with fail
        refine ⟨op_cells X5.out, ?_⟩
        refine wpF_do ?_
        go_wp2_with fail
        refine SM.out.mono ?_
        rintro e w6 ⟨rfl, q6⟩
        have P6 : Hid (Ply w6 w.heap.size gj g P nn gs d sh gd) := P5.out.below q6
        have L6 := Lib.hid (L5.out.below q6)
        have G6 := Lib.hid (G5.out.below q6)
        have B6 : Hid (Below w.heap.size w w6) := B5.out.trans (q6.mono B5.out.size)
        have X6 : w6.heap[wr.heap.size]? = some (opCells 3 n lg a bt c) := (q6.block _ (lt_of_block X5.out)).trans X5.out
        clear q6 SM P5 L5 G5 B5 X5
        go_wp2_with fail
        refine ⟨op_cells X6, ?_⟩
        repeat (refine wpF_dry (fun K hK => ?_); go_simp; refine hK _ ?_; clear hK K)
        refine wpF_nil ?_
        go_wp2_with fail
        go_meet
        exact ⟨rfl, gs, d, sh, gd, rfl, P6, L6, G6, B6⟩
      have hk3' : (kd == 3) = false := by simpa using hk3
      by_cases hk4 : kd = 4
      · subst hk4
        have CM := Lib.hid (ply_commit PC.out hP1 (by omega))
        go_wp2_with fail
        refine CM.out.mono ?_
        rintro e w5 ⟨rfl, d5, p5, t5, b5⟩
        have P5 := Lib.hid p5
        have L5 := Lib.hid (L2.out.tch t5)
        have B5 : Hid (Below w.heap.size w w5) := B2.out.trans b5
        clear p5 t5 b5 CM x0 x1 x2 x3 x4 x5 P3 PC L2 G2 B2 X2 RL
        go_wp2_with fail
        go_meet
        exact ⟨rfl, gs, d5, sh, sh, rfl, P5, L5, L5, B5⟩
      have hk4' : (kd == 4) = false := by simpa using hk4
      by_cases hk5 : kd = 5
      · subst hk5
        have AB := Lib.hid (ply_abort P3.out hP1 (by omega))
        go_wp2_with fail
        refine AB.out.mono ?_
        rintro e w5 ⟨rfl, p5, t5, b5⟩
        have P5 := Lib.hid p5
        have G5 := Lib.hid (G2.out.tch t5)
        have B5 : Hid (Below w.heap.size w w5) := B2.out.trans b5
        clear p5 t5 b5 AB x0 x1 x2 x3 x4 x5 P3 PC L2 G2 B2 X2 RL
        go_wp2_with fail
        go_meet
        exact ⟨rfl, gs, d, gd, gd, rfl, P5, G5, G5, B5⟩
      have hk5' : (kd == 5) = false := by simpa using hk5
      by_cases hk6 : kd = 6
      · subst hk6
        have OP := Lib.hid (ply_open P3.out hP1 (by omega))
        go_wp2_with fail
        refine OP.out.mono ?_
        rintro e w5 ⟨gs5, rfl, p5, t5, b5⟩
        have P5 := Lib.hid p5
        have G5 := Lib.hid (G2.out.tch t5)
        have B5 : Hid (Below w.heap.size w w5) := B2.out.trans b5
        clear p5 t5 b5 OP x0 x1 x2 x3 x4 x5 P3 PC L2 G2 B2 X2 RL
        go_wp2_with fail
        go_meet
        exact ⟨rfl, gs5, d, gd, gd, rfl, P5, G5, G5, B5⟩
      have hk6' : (kd == 6) = false := by simpa using hk6
      go_wp2_with fail
      go_meet
      exact ⟨rfl, gs, d, sh, gd, rfl, P3, L2, G2, B2⟩
    case rest =>
      obtain ⟨rfl, gs', d', sh', gd', rfl, hp, hl, hgl, hb'⟩ := hcut
      obtain ⟨st1', st2', st3'⟩ := ply_stt hp.out hP1 (by omega)
      obtain ⟨Al', cl', rfl, rl'⟩ := id hl.out.rd
      have LE := Lib.hid (ply_len hp.out hP1 (by omega))
      have FOK := Lib.hid (small_flat (flat_ok hp.out.wf.good) (by omega))
      have RL' := Lib.hid rl'
      clear rl' x0 x1 x2 x3 x4 x5 P3 PC L2 G2 B2 X2 RL
      have eqn : ((flatS sh').length != (flatS sh').length) = false := by simp
      go_wp2_with fail
      refine LE.out.mono ?_
      rintro e w3 ⟨rfl, q3⟩
      have PA := Lib.hid (hp.out.below q3)
      have LA := Lib.hid (hl.out.below q3)
      have GA := Lib.hid (hgl.out.below q3)
      have RA := Lib.hid (RL'.out.below q3)
      have BA : Hid (Below w.heap.size w w3) := hb'.out.trans (q3.mono hb'.out.size)
      have SZ := Lib.hid (ply_size PA.out hP1 (by omega))
      clear q3 LE hp hl hgl hb' RL'
      go_wp2_with fail
      refine SZ.out.mono ?_
      rintro e w4 ⟨rfl, q4⟩
      have PB := Lib.hid (PA.out.below q4)
      have LB := Lib.hid (LA.out.below q4)
      have GB := Lib.hid (GA.out.below q4)
      have RB := Lib.hid (RA.out.below q4)
      have BB : Hid (Below w.heap.size w w4) := BA.out.trans (q4.mono BA.out.size)
      have RZ := Lib.hid (rsize_any w4 Al' cl' (flatS sh') RB.out FOK.out)
      clear q4 SZ PA LA GA RA BA
      go_wp2_with fail
      refine RZ.out.mono ?_
      rintro e w5 ⟨rfl, q5⟩
      have PC := Lib.hid (PB.out.below q5)
      have LC := Lib.hid (LB.out.below q5)
      have GC := Lib.hid (GB.out.below q5)
      have RC := Lib.hid (RB.out.below q5)
      have BC : Hid (Below w.heap.size w w5) := BB.out.trans (q5.mono BB.out.size)
      have AL := Lib.hid (ply_all PC.out hP1 (by omega))
      have eqz : (szL (flatS sh') != szL (flatS sh')) = false := by simp
      clear q5 RZ PB LB GB RB BB
      go_wp2_with fail
      refine AL.out.mono ?_
      rintro e w6 ⟨va, rfl, oa, q6⟩
      obtain ⟨Aa, ca, rfl⟩ := own_slice oa
      obtain ⟨A', c', e', rd1⟩ := (rdP_own oa).rd
      cases e'
      have PD := Lib.hid (PC.out.below q6)
      have LD := Lib.hid (LC.out.below q6)
      have GD := Lib.hid (GC.out.below q6)
      have RD := Lib.hid (RC.out.below q6)
      have BD : Hid (Below w.heap.size w w6) := BC.out.trans (q6.mono BC.out.size)
      have SM := Lib.hid (psame_any w6 Aa Al' ca cl' _ _ rd1 RD.out (by omega) (by omega))
      have SE : decide (flatS sh' = flatS sh') = true := decide_eq_true rfl
      rw [SE] at SM
      clear q6 AL PC LC GC RC BC oa rd1 SE
      go_wp2_with fail
      refine SM.out.mono ?_
      rintro e w7 ⟨rfl, q7⟩
      have PE := Lib.hid (PD.out.below q7)
      have LE := Lib.hid (LD.out.below q7)
      have GE := Lib.hid (GD.out.below q7)
      have BE : Hid (Below w.heap.size w w7) := BD.out.trans (q7.mono BD.out.size)
      rw [HNN.out] at PE
      clear q7 SM PD LD GD RD BD
      go_wp2
      go_roundw
      case rel => first | exact ⟨i + 1, gs', d', sh', gd', by omega, by go_num, rfl, PE, LE, GE, BE⟩ | ((repeat apply Exists.intro); refine ⟨?_, rfl⟩; exact ⟨i + 1, gs', d', sh', gd', by omega, by go_num, rfl, PE, LE, GE, BE⟩)
      case measure => simp [intOf]; omega
end Go.Proofs.Ytoolkamajlgcbaa
