/- CmD: the walk of a shelf's Commit. -/
import Derived.Test.YtoolkamajlgcbaaCmC
set_option linter.unusedVariables false
set_option linter.unusedSimpArgs false
namespace Go.Proofs.Ytoolkamajlgcbaa
open Go.RowKit

theorem pre_sh (sh : List (Nat × PL)) (k : Nat) (h : k < sh.length) : ((0, []) :: sh).getD (k + 1) (0, []) = sh[k] := by
  rw [List.getD_eq_getElem?_getD, List.getElem?_cons_succ, List.getElem?_eq_getElem h]
  rfl
theorem nxt_sh (sh : List (Nat × PL)) (k : Nat) (h : k < sh.length) : (sh ++ [(0, [])]).getD k (0, []) = sh[k] := by
  rw [List.getD_eq_getElem?_getD, List.getElem?_append_left h, List.getElem?_eq_getElem h]
  rfl
set_option maxHeartbeats 6400000 in
set_option maxRecDepth 100000 in
theorem scommit_any (w : World) (F : Nat → Prop) (base gs gj g P : Nat) (d : Dk) (L : List Lf) (v : Value) (hs : ShO w base gs gj v L) (h : HasDisk w F g d) (hj : Jb w gj g P) (hF : ¬ F gj)
    (hz : Sz d) (hw : d.waits.length < 9223372036854775807) (hP1 : 2 ≤ P) (hP : P ≤ 128) (hsz : 8 * P + 1 ≤ d.l.length) (hup : d.down = false) (hg : GoodS (shP L)) (hid : ∀ x ∈ shP L, x.1 < P) (hL : L.length + 1 ≤ P) (hfw : Fw (8 * P + 8) d) :
    Calls Try.prog 30 #[.pointer (some ⟨gs, 0, none⟩)] w fun e w' => ∃ x d' F', e = .returned (.int .i64 x) ∧ CoTo P d (chS (pgS d P) (wrs (shP L))) x d' ∧ DTo w F g d' w' F' := by
  obtain ⟨i0, hi0, hz0, hz1, hz2⟩ := info_parts infoChg
  have c0 := blk_cell hs.box 0
  have c1 := blk_cell hs.box 1
  simp at c0 c1
  have HD := Lib.hid h; have HJ := Lib.hid hj; have HS := Lib.hid hs; have HG := Lib.hid hg; have HID := Lib.hid hid; have FW := Lib.hid hfw; have HF := Lib.hid hF
  have HZ := Lib.hid hz; have HW := Lib.hid hw; have HSZ := Lib.hid hsz; have HUP := Lib.hid hup
  have BX := Lib.hid hs.box
  obtain ⟨A, cap, rfl, kc, kn, kb⟩ : ∃ A cap, v = .slice A L.length cap ∧ L.length ≤ cap ∧ (A = none → L = [] ∧ cap = 0) ∧ (∀ b, A = some b → ∀ j u, (lvv L)[j]? = some u → w.cell? (b.add j) = some u) := by
    rcases hs.row with ⟨rfl, rfl⟩ | ⟨g, cap, cur, rfl, q0, q1, q2, q3, q4, q5, q6⟩
    · exact ⟨none, 0, rfl, Nat.le_refl _, fun _ => ⟨rfl, rfl⟩, fun b e => by cases e⟩
    · refine ⟨_, cap, rfl, q2, fun e => (by cases e), fun b e => ?_⟩
      cases e
      have := lr_cells0 (base := base) (.inr ⟨g, cap, cur, rfl, q0, q1, q2, q3, q4, q5, q6⟩ : LRow w base (.slice (some ⟨g, 0, none⟩) L.length cap) L) L.length
      rwa [List.take_length] at this
  have KN := Lib.hid kn; have KB := Lib.hid kb
  have kci : (L.length : Int) ≤ (cap : Int) := by omega
  have hLi : L.length ≤ 127 := by omega
  have hLb := Lib.hid hL
  clear h hj hs hg hid hfw hF hz hw hsz hup kn kb hL
  go_enter Try.func30, Try.ntmps30
  go_wp2_with fail
  refine wp_region_flag (fun w' => w'.cell? ⟨gs, 1, none⟩ = some (.slice A L.length cap)) [(0, 1), (1, 1), (2, 1), (4, 1), (5, 1), (6, 1), (9, 1), (10, 1), (11, 1), (15, 1), (19, 1), (3, 2), (7, 2), (8, 1), (12, 2), (13, 1), (14, 1), (16, 0), (17, 0), (18, 1)] (by kernel_rfl) (by kernel_rfl) (by exact c1) ?_
  simp only [ordered, List.map_cons, List.map_nil, List.getD_cons_zero, List.getD_cons_succ]
  repeat (refine wpF_dry (fun K hK => ?_); go_simp; refine hK _ ?_; clear hK K)
  refine wpF_read (.slice A L.length cap) rfl (fun w' hS => by go_simp) (fun K hK => ?_); go_simp; refine hK _ ?_; clear hK K
  refine wpF_read (.slice A L.length cap) rfl (fun w' hS => by go_simp) (fun K hK => ?_); go_simp; refine hK _ ?_; clear hK K
  refine wpF_dry (fun K hK => ?_); go_simp; refine hK _ ?_; clear hK K
  refine wpF_read (.slice A L.length cap) rfl (fun w' hS => by go_simp) (fun K hK => ?_); go_simp; refine hK _ ?_; clear hK K
  repeat (refine wpF_dry (fun K hK => ?_); go_simp; refine hK _ ?_; clear hK K)
  refine wpF_do ?_
  go_wp2_with fail
  obtain ⟨W1, hW1⟩ : ∃ W, W = (w.alloc (.cells #[.int .i64 0, .slice none 0 0] 82)).drew := ⟨_, rfl⟩
  have K1 : Hid (Below w.heap.size w W1) := by rw [hW1]; exact ((Below.refl _ w).alloc (Nat.le_refl _) _).drew
  have N1 : Hid (∀ j u, [Value.int .i64 0, .slice none 0 0][j]? = some u → W1.cell? ((⟨w.heap.size, 0, none⟩ : Addr).add j) = some u) := by unfold Hid; rw [hW1]; exact fun j u hu => two_new w _ _ 82 j u hu
  rw [← hW1]
  refine ⟨cell_below K1.out c1, ?_⟩
  refine wpF_do ?_
  have HW1 := Lib.hid hW1
  clear hW1
  at_builtin
  refine wpList_app_leaf0 rfl (.tmp 27) (.tmp 29) 83 rfl Try.underlying83 A L rfl (by omega) (fun e => (KN.out e).1) (fun b e j u hu => cell_below K1.out (KB.out b e j u hu)) ⟨w.heap.size, 0, none⟩ rfl N1.out ?_
  intro g2 cap2 w2 hg2 ho2
  have c1' : w2.cell? ⟨gs, 1, none⟩ = some (.slice A L.length cap) := by
    rw [World.cell?_of_block (hg2.block gs (Nat.lt_of_lt_of_le (lt_of_block BX.out) K1.out.size) (fun e => by cases e))]
    exact cell_below K1.out c1
  have B2 : Hid (Below w.heap.size w w2) := K1.out.trans ((Below.refl w.heap.size W1).grown hg2 K1.out.size (fun j e => by cases e))
  obtain ⟨M, hM⟩ : ∃ M, M = L ++ [⟨0, [], none, 0⟩] := ⟨_, rfl⟩
  have hMl : M.length = L.length + 1 := by rw [hM]; simp
  have eM : lvv L ++ [Value.int .i64 0, .slice none 0 0] = lvv M := by rw [hM, lvv_append]; rfl
  rw [eM] at ho2
  have MC : Hid (∀ j u, (lvv M)[j]? = some u → w2.cell? ((⟨g2, 0, none⟩ : Addr).add j) = some u) := ho2.cells (g := g2) rfl
  have MR : Hid (∀ k (hk : k < M.length), M[k].id = ((shP L ++ [(0, [])]).getD k (0, [])).1 ∧ M[k].l = ((shP L ++ [(0, [])]).getD k (0, [])).2 ∧ RdPr w M[k].A M[k].l) := fun k hk => by
    rw [hMl] at hk
    rcases Nat.lt_or_ge k L.length with h | h
    · rw [nxt_sh _ _ (by rw [shP_len]; exact h)]
      have e : M[k]'(by omega) = L[k] := by simp only [hM]; rw [List.getElem_append_left h]
      rw [e]
      refine ⟨by simp [shP], by simp [shP], (HS.out.rd L[k] (List.getElem_mem _)).1⟩
    · obtain rfl : k = L.length := by omega
      have e : M[L.length]'(by omega) = ⟨0, [], none, 0⟩ := by simp [hM]
      rw [e]
      have e2 : (shP L ++ [(0, [])]).getD L.length (0, []) = (0, []) := by
        rw [← shP_len L, List.getD_eq_getElem?_getD, List.getElem?_append_right (Nat.le_refl _), Nat.sub_self]
        rfl
      rw [e2]
      exact ⟨rfl, rfl, fun hp => by simp at hp⟩
  have PRE : Hid (∀ k, k ≤ L.length → (((0, []) :: shP L).getD k (0, [])).1 < P ∧ (((0, []) :: shP L).getD k (0, [])).1 ≤ 1000 ∧ szL (((0, []) :: shP L).getD k (0, [])).2 ≤ 1020 ∧ ∀ p ∈ (((0, []) :: shP L).getD k (0, [])).2, EntOK p) := fun k hk => by
    cases k with
    | zero => exact ⟨by show 0 < P; omega, by show 0 ≤ 1000; omega, by show szL [] ≤ 1020; decide, fun p hp => by cases hp⟩
    | succ k =>
      have hk' : k < (shP L).length := by rw [shP_len]; omega
      rw [pre_sh _ _ hk']
      have h1 := HG.out _ (List.getElem_mem hk')
      exact ⟨HID.out _ (List.getElem_mem hk'), h1.2.2.2, h1.1, h1.2.2.1⟩
  have NXT : Hid (∀ k, k ≤ L.length → ((shP L ++ [(0, [])]).getD k (0, [])).1 ≤ 1000 ∧ ((0, []) :: shP L).getD (k + 1) (0, []) = (shP L ++ [(0, [])]).getD k (0, [])) := fun k hk => by
    rcases Nat.lt_or_ge k L.length with h | h
    · have hk' : k < (shP L).length := by rw [shP_len]; exact h
      rw [nxt_sh _ _ hk', pre_sh _ _ hk']
      exact ⟨(HG.out _ (List.getElem_mem hk')).2.2.2, rfl⟩
    · obtain rfl : k = L.length := by omega
      have e2 : (shP L ++ [(0, [])]).getD L.length (0, []) = (0, []) := by
        rw [← shP_len L, List.getD_eq_getElem?_getD, List.getElem?_append_right (Nat.le_refl _), Nat.sub_self]
        rfl
      rw [e2]
      refine ⟨by show 0 ≤ 1000; omega, ?_⟩
      rw [List.getD_eq_getElem?_getD, List.getElem?_cons_succ, List.getElem?_eq_none (by rw [shP_len]; exact Nat.le_refl _)]
      rfl
  have WL : Hid ((wrs (shP L)).length = L.length + 1) := by unfold Hid; rw [wrs_len, shP_len]
  have WG : Hid (∀ k (hk : k < (wrs (shP L)).length), (wrs (shP L))[k] = ((((0, []) :: shP L).getD k (0, [])).1, pgB ((shP L ++ [(0, [])]).getD k (0, [])).1 (((0, []) :: shP L).getD k (0, [])).2)) := fun k hk => wrs_get hk
  have P0 : ((0, []) :: shP L).getD 0 (0, []) = (0, []) := rfl
  have hMl2 : M.length ≤ 128 := by omega
  obtain ⟨WR, hWR⟩ : ∃ W, W = wrs (shP L) := ⟨_, rfl⟩
  rw [← hWR] at WL WG
  have HWR := Lib.hid hWR
  clear hWR
  generalize (0, []) :: shP L = PR at PRE NXT WG P0
  generalize shP L ++ [(0, [])] = NX at MR NXT WG
  have HML := Lib.hid hMl
  clear hg2 ho2 hM eM K1 N1 hMl HW1
  go_wp2_with fail
  refine ⟨c1', ?_⟩
  repeat (refine wpF_dry (fun K hK => ?_); go_simp; refine hK _ ?_; clear hK K)
  refine wpF_nil ?_
  go_wp2_with fail
  go_loopw [3, 4, 5, 32] (fun lv pv ev iv wr => ∃ (k : Nat) (Ac : Option Addr) (cc : Nat) (Ae : Option Addr) (ce : Nat) (pi : Nat) (pl : PL) (C : List (Int × ByteArray)), k ≤ L.length + 1 ∧ iv = .int .i64 k ∧ PR.getD k (0, []) = (pi, pl) ∧ Hid (C = chS (pgS d P) (WR.take k)) ∧ lv = .slice Ac C.length cc ∧ pv = .int .i64 pi ∧ ev = .slice Ae pl.length ce ∧ Hid (RdPr wr Ae pl) ∧ Hid (wr.ownsRow w2.heap.size 53 2 (.slice Ac C.length cc) C.length (civ C)) ∧ Hid (Below w2.heap.size w2 wr)) (fun _ _ _ iv _ => L.length + 1 - (intOf iv).toNat)
  case atStart => exact ⟨0, none, 0, none, 0, 0, [], [], Nat.zero_le _, rfl, P0, rfl, rfl, rfl, rfl, (fun h => by simp at h), World.ownsRow_nil _ _ _ _, Below.refl _ _⟩
  case round =>
    obtain ⟨k, Ac, cc, Ae, ce, pi, pl, C, hk, rfl, hpk, hC, rfl, rfl, rfl, hre, hoc, hb⟩ := hrel
    by_cases hlt : k < L.length + 1
    · have hki : (k : Int) < (L.length : Int) + 1 := by omega
      obtain ⟨p1, p2, p3, p4⟩ := PRE.out k (by omega)
      obtain ⟨q1, q2⟩ := NXT.out k (by omega)
      have hkM : k < M.length := by rw [HML.out]; exact hlt
      obtain ⟨m1, m2, m3⟩ := MR.out k hkM
      obtain ⟨y0, y1⟩ := lvv_get M k hkM
      replace y0 := cell_below hb.out (MC.out _ _ y0)
      replace y1 := cell_below hb.out (MC.out _ _ y1)
      have ad0 : ((⟨g2, 0, none⟩ : Addr).add (k * 2)) = ⟨g2, k * 2, none⟩ := by simp [Addr.add]; omega
      have ad1 : ((⟨g2, 0, none⟩ : Addr).add (k * 2 + 1)) = ⟨g2, k * 2 + 1, none⟩ := by simp [Addr.add]
      rw [ad0] at y0; rw [ad1] at y1
      have WK := WG.out k (by rw [WL.out]; exact hlt)
      have TK : WR.take (k + 1) = WR.take k ++ [WR[k]'(by rw [WL.out]; exact hlt)] := List.take_succ_eq_append_getElem (by rw [WL.out]; exact hlt)
      rw [WK] at TK
      have CK := chS_snoc (pgS d P) (WR.take k) ((PR.getD k (0, [])).1, pgB (NX.getD k (0, [])).1 (PR.getD k (0, [])).2)
      rw [← TK] at CK
      rw [← hC.out] at CK
      rw [hpk] at p1 p2 p3 p4 CK
      generalize NX.getD k (0, []) = nx at q1 q2 m1 m2 CK
      obtain ⟨ni, nl⟩ := nx
      simp only at p1 p2 p3 p4 q1 m1 m2 CK
      rw [m1] at y0
      rw [m2] at y1 m3
      generalize M[k].A = An at y1 m3
      generalize M[k].c = cn at y1
      have HCK := Lib.hid CK
      have HQ2 := Lib.hid q2
      replace m3 := Lib.hid m3
      have clen : C.length ≤ 128 := by
        have h1 := chS_len (pgS d P) (WR.take k)
        rw [← hC.out, List.length_take] at h1
        have := Nat.min_le_left k WR.length
        omega
      obtain ⟨W3, hW3⟩ : ∃ W, W = wr.alloc (.cells #[.int .i64 (ni : Int), .slice An nl.length cn] 82) := ⟨_, rfl⟩
      have K3 : Hid (Below wr.heap.size wr W3) := by rw [hW3]; exact (Below.refl _ wr).alloc (Nat.le_refl _) _
      have B3 : Hid (Below w2.heap.size w2 W3) := hb.out.trans (K3.out.mono hb.out.size)
      have X3 : W3.heap[wr.heap.size]? = some (.cells #[.int .i64 (ni : Int), .slice An nl.length cn] 82 (0, 0)) := by rw [hW3]; exact blk_new wr _
      have BY := fun (W : World) (hW : RdPr W Ae pl) => bytes_any W ni Ae pl.length ce pl rfl hW p4 p3 (by omega)
      have BY3 := Lib.hid (BY W3 (hre.out.below K3.out))
      have H3 : Hid (HasDisk W3 F g d) := (HD.out.below B2.out).below B3.out
      have J3 : Hid (Jb W3 gj g P) := (HJ.out.below B2.out).below B3.out
      have HW3 := Lib.hid hW3
      rw [hW3] at BY3
      have HX3 := Lib.hid X3
      clear hpk p4 p3 CK q2 WK TK BY hW3 X3 m1 m2 ad0 ad1
      go_wp2_with fail
      refine BY3.out.mono ?_
      rw [← HW3.out]
      rintro e w4 ⟨rfl, q4⟩
      generalize pgB ni pl = bb at HCK
      have H4 := H3.out.below q4
      have J4 := J3.out.below q4
      have RD4 := Lib.hid (jread_any w4 F gj g P d H4 J4 HZ.out HW.out hP HSZ.out (pi : Int))
      have c0' : w4.cell? ⟨gs, 0, none⟩ = some (.pointer (some ⟨gj, 0, none⟩)) := cell_below q4 (cell_below B3.out (cell_below B2.out c0))
      rw [jrd_up HUP.out p1] at RD4
      have HQ4 := Lib.hid q4
      clear q4 H4 J4 BY3
      go_wp2_with fail
      refine RD4.out.mono ?_
      rintro e w5 ⟨rfl, q5⟩
      have K5 : Hid (Below W3.heap.size W3 w5) := HQ4.out.trans (q5.mono HQ4.out.size)
      have B5 : Hid (Below w2.heap.size w2 w5) := B3.out.trans (K5.out.mono B3.out.size)
      have X5 : w5.heap[wr.heap.size]? = some (.cells #[.int .i64 (ni : Int), .slice An nl.length cn] 82 (0, 0)) := (K5.out.block _ (lt_of_block HX3.out)).trans HX3.out
      have KW : Hid (Below wr.heap.size wr w5) := K3.out.trans (K5.out.mono K3.out.size)
      have O5 : Hid (w5.ownsRow w2.heap.size 53 2 (.slice Ac C.length cc) C.length (civ C)) := own_touch hoc.out (Touch.of_below KW.out : Touch (fun _ => False) wr w5) (fun _ _ x => x)
      have R5 : Hid (RdPr w5 An nl) := (m3.out.below B2.out).below B5.out
      clear q5 RD4 hoc c0'
      generalize pgS d P pi = was at HCK
      by_cases hsame : (bb.toList == was.toList) = true
      · have hd1 : Hid (chS (pgS d P) (WR.take (k + 1)) = C) := by unfold Hid; rw [HCK.out, if_pos hsame, List.append_nil]
        clear HCK
        have z0 : w5.drew.cell? ⟨wr.heap.size, 0, none⟩ = some (.int .i64 (ni : Int)) := by rw [show w5.drew.cell? ⟨wr.heap.size, 0, none⟩ = w5.cell? ⟨wr.heap.size, 0, none⟩ from rfl, blk_cell X5]; rfl
        have z1 : w5.drew.cell? ⟨wr.heap.size, 1, none⟩ = some (.slice An nl.length cn) := by rw [show w5.drew.cell? ⟨wr.heap.size, 1, none⟩ = w5.cell? ⟨wr.heap.size, 1, none⟩ from rfl, blk_cell X5]; rfl
        go_wp2_with fail
        refine wp_region_flag (fun w' => w'.cell? ⟨wr.heap.size, 0, none⟩ = some (.int .i64 (ni : Int)) ∧ w'.cell? ⟨wr.heap.size, 1, none⟩ = some (.slice An nl.length cn)) [(0, 1), (2, 1), (1, 2), (4, 1), (3, 0), (5, 1)] (by kernel_rfl) (by kernel_rfl) ⟨z0, z1⟩ ?_
        simp only [ordered, List.map_cons, List.map_nil, List.getD_cons_zero, List.getD_cons_succ]
        repeat (refine wpF_dry (fun K hK => ?_); go_simp; refine hK _ ?_; clear hK K)
        refine wpF_read (.int .i64 (ni : Int)) rfl (fun w' hS => by obtain ⟨s0, s1⟩ := hS; go_simp) (fun K hK => ?_); go_simp; refine hK _ ?_; clear hK K
        refine wpF_dry (fun K hK => ?_); go_simp; refine hK _ ?_; clear hK K
        refine wpF_do ?_
        go_wp2_with fail
        refine ⟨⟨z0, z1⟩, ?_⟩
        repeat (refine wpF_dry (fun K hK => ?_); go_simp; refine hK _ ?_; clear hK K)
        refine wpF_nil ?_
        go_wp2
        go_roundw
        case rel => exact ⟨k + 1, Ac, cc, An, cn, ni, nl, C, by omega, by go_num, HQ2.out, hd1.out.symm, rfl, rfl, rfl, R5, O5, B5.out.drew⟩
        case measure => simp [intOf]; omega
      · have hsame' : (bb.toList == was.toList) = false := by simpa using hsame
        have hd1 : Hid (chS (pgS d P) (WR.take (k + 1)) = C ++ [((pi : Int), bb)]) := by unfold Hid; rw [HCK.out, if_neg hsame]
        clear HCK hsame
        obtain ⟨W6, hW6⟩ : ∃ W, W = w5.alloc (.cells #[.int .i64 (pi : Int), .string bb] 53) := ⟨_, rfl⟩
        have K6 : Hid (Below w5.heap.size w5 W6) := by rw [hW6]; exact (Below.refl _ w5).alloc (Nat.le_refl _) _
        have N6 : Hid (∀ j u, [Value.int .i64 (pi : Int), .string bb][j]? = some u → W6.cell? ((⟨w5.heap.size, 0, none⟩ : Addr).add j) = some u) := by unfold Hid; rw [hW6]; exact two_new _ _ _ _
        have O6 : Hid (W6.ownsRow w2.heap.size 53 2 (.slice Ac C.length cc) C.length (civ C)) := own_touch O5.out (Touch.of_below K6.out : Touch (fun _ => False) w5 W6) (fun _ _ x => x)
        have B6 : Hid (Below w2.heap.size w2 W6) := B5.out.trans (K6.out.mono B5.out.size)
        have X6 : W6.heap[wr.heap.size]? = some (.cells #[.int .i64 (ni : Int), .slice An nl.length cn] 82 (0, 0)) := (K6.out.block _ (lt_of_block X5)).trans X5
        have R6 : Hid (RdPr W6 An nl) := R5.out.below K6.out
        have HW6 := Lib.hid hW6
        clear hW6
        go_wp2_with (at_builtin; rw [← HW6.out]; refine (wpList_append_own_at _ rfl (.tmp 55) (.tmp 59) 50 rfl w2.heap.size 53 i0 _ 2 24 Try.underlying50 hi0 hz0 hz1 hz2 rfl (by decide) (.slice Ac C.length cc) C.length (civ C) rfl O6.out ⟨w5.heap.size, 0, none⟩ 1 1 [.int .i64 (pi : Int), .string bb] rfl rfl N6.out (by simp [Value.oneCell']) (by unfold maxLen; omega) (by omega) B6.out.size ?_))
        intro v7 w7 ho7 hg7 _ _
        have e7 : civ C ++ [.int .i64 (pi : Int), .string bb] = civ (C ++ [((pi : Int), bb)]) := by rw [civ_append]; rfl
        rw [e7] at ho7
        have B7 : Hid (Below w2.heap.size w2 w7) := B6.out.trans ((Below.refl w2.heap.size W6).grown hg7 B6.out.size (fun j hj => (O6.out.lt j hj).1))
        have nb : (Value.slice Ac C.length cc).ownBlock ≠ some wr.heap.size := fun e => by
          rcases O6.out.2 with ⟨e', _⟩ | ⟨g', c', cur', e', _, hb', _⟩
          · rw [e'] at e; cases e
          · rw [e'] at e
            have eg : g' = wr.heap.size := by injection e
            rw [eg, X6] at hb'
            simp at hb'
        have X7 : w7.heap[wr.heap.size]? = some (.cells #[.int .i64 (ni : Int), .slice An nl.length cn] 82 (0, 0)) := (hg7.block _ (lt_of_block X6) (fun e => nb e.symm)).trans X6
        have R7 : Hid (RdPr w7 An nl) := (m3.out.below B2.out).below B7.out
        obtain ⟨C7, hC7⟩ : ∃ C', C' = C ++ [((pi : Int), bb)] := ⟨_, rfl⟩
        have c7l : C7.length = C.length + 1 := by rw [hC7]; simp
        rw [← hC7] at ho7
        rw [← hC7] at hd1
        rw [← c7l] at ho7
        obtain ⟨A7, c7, rfl⟩ := own_slice ho7
        have O7 := Lib.hid ho7
        clear ho7 hg7 nb hC7 O6 N6 R6 K6 B6 X6 O5
        have z0 : w7.drew.cell? ⟨wr.heap.size, 0, none⟩ = some (.int .i64 (ni : Int)) := by rw [show w7.drew.cell? ⟨wr.heap.size, 0, none⟩ = w7.cell? ⟨wr.heap.size, 0, none⟩ from rfl, blk_cell X7]; rfl
        have z1 : w7.drew.cell? ⟨wr.heap.size, 1, none⟩ = some (.slice An nl.length cn) := by rw [show w7.drew.cell? ⟨wr.heap.size, 1, none⟩ = w7.cell? ⟨wr.heap.size, 1, none⟩ from rfl, blk_cell X7]; rfl
        go_wp2_with fail
        refine wp_region_flag (fun w' => w'.cell? ⟨wr.heap.size, 0, none⟩ = some (.int .i64 (ni : Int)) ∧ w'.cell? ⟨wr.heap.size, 1, none⟩ = some (.slice An nl.length cn)) [(0, 1), (2, 1), (1, 2), (4, 1), (3, 0), (5, 1)] (by kernel_rfl) (by kernel_rfl) ⟨z0, z1⟩ ?_
        simp only [ordered, List.map_cons, List.map_nil, List.getD_cons_zero, List.getD_cons_succ]
        repeat (refine wpF_dry (fun K hK => ?_); go_simp; refine hK _ ?_; clear hK K)
        refine wpF_read (.int .i64 (ni : Int)) rfl (fun w' hS => by obtain ⟨s0, s1⟩ := hS; go_simp) (fun K hK => ?_); go_simp; refine hK _ ?_; clear hK K
        refine wpF_dry (fun K hK => ?_); go_simp; refine hK _ ?_; clear hK K
        refine wpF_do ?_
        go_wp2_with fail
        refine ⟨⟨z0, z1⟩, ?_⟩
        repeat (refine wpF_dry (fun K hK => ?_); go_simp; refine hK _ ?_; clear hK K)
        refine wpF_nil ?_
        go_wp2
        go_roundw
        case rel => exact ⟨k + 1, A7, c7, An, cn, ni, nl, C7, by omega, by go_num, HQ2.out, hd1.out.symm, by rw [c7l], rfl, rfl, R7, O7, B7.out.drew⟩
        case measure => simp [intOf]; omega
    · have hkl : k = L.length + 1 := by omega
      have hki : ¬ (k : Int) < (L.length : Int) + 1 := by omega
      have hCC : Hid (C = chS (pgS d P) WR) := by
        unfold Hid
        rw [hC.out, List.take_of_length_le (by rw [WL.out]; omega)]
      have clen : Hid (C.length ≤ L.length + 1) := by
        unfold Hid
        have h1 := chS_len (pgS d P) WR
        rw [← hCC.out, WL.out] at h1
        exact h1
      have CMr := commit_any wr F gj g P d ((HD.out.below B2.out).below hb.out) ((HJ.out.below B2.out).below hb.out) HF.out hP Ac cc C (rdC_own hoc.out) (by have := clen.out; omega) (fun x hx => by
        rw [hCC.out] at hx
        obtain ⟨c, hc, rfl⟩ := chS_mem hx
        obtain ⟨j, hj, rfl⟩ := List.getElem_of_mem hc
        rw [WG.out j hj]
        have := pgB_size (n := (NX.getD j (0, [])).1) (PRE.out j (by have := WL.out; omega)).2.2.1
        show (pgB _ _).size ≤ _
        omega) (FW.out.mono (by have := clen.out; have := hLb.out; omega))
      have CMh := Lib.hid CMr
      have c0' : wr.cell? ⟨gs, 0, none⟩ = some (.pointer (some ⟨gj, 0, none⟩)) := cell_below hb.out (cell_below B2.out c0)
      clear CMr
      go_wp2_with fail
      refine CMh.out.mono ?_
      rintro e w9 ⟨x, d', F', rfl, hco, hdt⟩
      rw [hCC.out, HWR.out] at hco
      have HCO := Lib.hid hco
      have HDT : Hid (DTo w F g d' w9 F') := DTo.pre (B2.out.trans (hb.out.mono B2.out.size)) hdt
      clear hco hdt CMh
      go_wp2
      go_ret
      exact ⟨x, d', F', rfl, HCO.out, HDT.out⟩
end Go.Proofs.Ytoolkamajlgcbaa
