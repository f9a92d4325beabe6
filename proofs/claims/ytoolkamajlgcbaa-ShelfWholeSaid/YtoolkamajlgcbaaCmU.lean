/- CmU: the walk of the law ShelfWhole. -/
import Derived.Test.YtoolkamajlgcbaaCmT
set_option linter.unusedVariables false
set_option linter.unusedSimpArgs false
namespace Go.Proofs.Ytoolkamajlgcbaa
open Go.RowKit

theorem sops_below {w w' : World} {v : Value} {l : List SOp} (h : RdSOps w v l) (hb : Below w.heap.size w w') : RdSOps w' v l := by
  obtain ⟨⟨A, c, e, h1, h2, h3⟩, h4⟩ := h
  refine ⟨⟨A, c, e, h1, h2, fun hp => ?_⟩, h4⟩
  obtain ⟨b, off, e, hc⟩ := h3 hp
  refine ⟨b, off, e, fun i hi => ?_⟩
  obtain ⟨z0, z1, z2, z3, z4, z5⟩ := hc i hi
  exact ⟨cell_below hb z0, cell_below hb z1, cell_below hb z2, cell_below hb z3, cell_below hb z4, cell_below hb z5⟩
set_option maxHeartbeats 6400000 in
set_option maxRecDepth 100000 in
theorem shelfWhole_walk (w : World) (v : Value) (x : TornS) (hv : RdTornS w v x) :
    Calls Try.prog 8 #[v] w fun e w' => e = .returned (.bool true) ∧ Below w.heap.size w w' := by
  obtain ⟨va, vp, vk, rfl, hx⟩ := hv
  obtain ⟨pages, ahead, after, cut, picks⟩ := x
  obtain ⟨ha, hp, hk, hcut⟩ := hx
  obtain ⟨Aa, ca, rfl⟩ := sops_val ha
  obtain ⟨Ap, cp, rfl⟩ := sops_val hp
  have HA := Lib.hid ha; have HP := Lib.hid hp; have HK := Lib.hid hk
  obtain ⟨_, Ak, ck, rfl, hk1, hk2, hk3⟩ := hk
  simp only [tornSV] at *
  have r0 := blk_new w (.cells [.int .i64 pages, .slice Aa ahead.length ca, .slice Ap after.length cp, .int .i64 cut, .slice Ak picks.length ck].toArray 74)
  have B0 : Hid (Below w.heap.size w (w.alloc (.cells [.int .i64 pages, .slice Aa ahead.length ca, .slice Ap after.length cp, .int .i64 cut, .slice Ak picks.length ck].toArray 74))) := (Below.refl _ w).alloc (Nat.le_refl _) _
  obtain ⟨w0, hw0⟩ : ∃ w0, w0 = w.alloc (.cells [.int .i64 pages, .slice Aa ahead.length ca, .slice Ap after.length cp, .int .i64 cut, .slice Ak picks.length ck].toArray 74) := ⟨_, rfl⟩
  rw [← hw0] at r0 B0
  have c0 := blk_cell r0 0; have c1 := blk_cell r0 1; have c2 := blk_cell r0 2; have c3 := blk_cell r0 3; have c4 := blk_cell r0 4
  simp only [List.getElem?_toArray, List.getElem?_cons_zero, List.getElem?_cons_succ] at c0 c1 c2 c3 c4
  have K : Hid (∀ W, Below w0.heap.size w0 W → W.cell? ⟨w.heap.size, 0, none⟩ = some (.int .i64 pages) ∧ W.cell? ⟨w.heap.size, 1, none⟩ = some (.slice Aa ahead.length ca) ∧ W.cell? ⟨w.heap.size, 2, none⟩ = some (.slice Ap after.length cp) ∧ W.cell? ⟨w.heap.size, 3, none⟩ = some (.int .i64 cut) ∧ W.cell? ⟨w.heap.size, 4, none⟩ = some (.slice Ak picks.length ck)) := fun W hb =>
    ⟨cell_below hb c0, cell_below hb c1, cell_below hb c2, cell_below hb c3, cell_below hb c4⟩
  have RA : Hid (RdSOps w0 (.slice Aa ahead.length ca) ahead) := sops_below HA.out B0.out
  have RP : Hid (RdSOps w0 (.slice Ap after.length cp) after) := sops_below HP.out B0.out
  have RK : Hid (RdB w0 (.slice Ak picks.length ck) picks) := HK.out.touch (Touch.of_below B0.out : Touch (fun _ => False) w w0) (fun _ _ _ x => x)
  have HCUT := Lib.hid hcut
  clear hcut hk1 hk2 hk3 r0 HA HP HK ha hp c1 c2 c3 c4
  rw [hw0] at c0
  by_cases hbad : pages < 2 ∨ 12 < pages
  · have SN := Lib.hid (sopened_no w0 pages hbad)
    have hex : decide (pages < 2) = true ∨ (decide (pages < 2) = false ∧ decide (12 < pages) = true) := by
      by_cases h0 : pages < 2
      · exact .inl (by simpa using h0)
      · exact .inr ⟨by simpa using h0, by simp; omega⟩
    clear hbad
    rcases hex with d1 | ⟨d1, d2⟩
    all_goals
      go_enter Try.func8, Try.ntmps8
      go_wp2_with fail
      rw [← hw0]
      refine SN.out.mono ?_
      rintro e w' ⟨rfl, rfl⟩
      rw [hw0]
      go_wp2_with fail
      refine (slives_any _).mono ?_
      rintro e w9 ⟨rfl, b9⟩
      rw [← hw0] at b9
      have B9 := Lib.hid (B0.out.trans (b9.mono B0.out.size))
      clear b9
      go_wp2
      go_ret
      exact ⟨rfl, B9.out⟩
  obtain ⟨P, rfl⟩ := Int.eq_ofNat_of_zero_le (show 0 ≤ pages by omega)
  have hP1 : 2 ≤ P := by omega
  have hP2 : P ≤ 12 := by omega
  have OP := Lib.hid (sopened_far w0 P hP1 hP2)
  have dp1 : decide ((P : Int) < 2) = false := decide_eq_false (by omega)
  have dp2 : decide (12 < (P : Int)) = false := decide_eq_false (by omega)
  have dp1' : decide (P < 2) = false := decide_eq_false (by omega)
  have dp2' : decide (12 < P) = false := decide_eq_false (by omega)
  clear hbad
  go_enter Try.func8, Try.ntmps8
  go_wp2_with fail
  rw [← hw0]
  refine OP.out.mono ?_
  rintro e w1 ⟨g, gj, gs, rfl, hb, hgs, q1, hj, F, hd, hfar⟩
  have B1 := Lib.hid q1
  have S1 : Hid (Ply w1 w0.heap.size gj g P (200000 + (8 * P + 14)) gs (Dk.new (8 * P + 1)) [] []) := (ply_new hP1 hP2 hb hgs q1 hj hd hfar).mono (by omega)
  clear hb hgs q1 hj hd hfar OP c0
  obtain ⟨c0, c1, c2, c3, c4⟩ := K.out _ B1.out
  by_cases hbig : 300 < picks.length ∨ cut < 0
  · have hex : (decide ((300 : Int) < (picks.length : Int)) = true ∧ decide (300 < picks.length) = true) ∨ (decide ((300 : Int) < (picks.length : Int)) = false ∧ decide (300 < picks.length) = false ∧ decide (cut < 0) = true) := by
      by_cases h0 : 300 < picks.length
      · exact .inl ⟨by simp; omega, by simpa using h0⟩
      · exact .inr ⟨by simp; omega, by simpa using h0, by simp; omega⟩
    clear hbig
    rcases hex with ⟨d1, d2⟩ | ⟨d1, d2, d3⟩
    all_goals
      go_wp2_with fail
      refine (slives_any _).mono ?_
      rintro e w9 ⟨rfl, b9⟩
      have B9 : Hid (Below w.heap.size w w9) := B0.out.trans ((B1.out.trans (b9.mono B1.out.size)).mono B0.out.size)
      clear b9
      go_wp2
      go_ret
      exact ⟨rfl, B9.out⟩
  have d1 : decide ((300 : Int) < (picks.length : Int)) = false := by simp; omega
  have d1' : decide (300 < picks.length) = false := by simp; omega
  have d2 : decide (cut < 0) = false := by simp; omega
  have HC0 : Hid (0 ≤ cut) := by unfold Hid; omega
  clear hbig
  have DN := Lib.hid (pdone_any w0 w1 gs gj g P _ _ [] [] B1.out S1.out hP1 (by omega) Aa ca ahead RA.out)
  go_wp2_with fail
  refine DN.out.mono ?_
  rintro e w2 ⟨q, rfl, sh1, p2, _, b2⟩
  have S2 := Lib.hid p2
  have B2 := Lib.hid b2
  clear p2 b2 DN S1 c0 c1 c2 c3 c4
  obtain ⟨c0, c1, c2, c3, c4⟩ := K.out _ B2.out
  cases q with
  | false =>
    go_wp2_with fail
    refine (slives_any _).mono ?_
    rintro e w9 ⟨rfl, b9⟩
    have B9 : Hid (Below w.heap.size w w9) := B0.out.trans ((B2.out.trans (b9.mono B2.out.size)).mono B0.out.size)
    clear b9
    go_wp2
    go_ret
    exact ⟨rfl, B9.out⟩
  | true =>
  have CM := Lib.hid (ply_commit S2.out hP1 (by omega))
  go_wp2_with fail
  refine CM.out.mono ?_
  rintro e w3 ⟨rfl, d3, p3, _, b3⟩
  have S3 := Lib.hid p3
  have B3 : Hid (Below w0.heap.size w0 w3) := B2.out.trans b3
  clear p3 b3 CM S2 c0 c1 c2 c3 c4
  obtain ⟨c0, c1, c2, c3, c4⟩ := K.out _ B3.out
  have AL := Lib.hid (ply_all S3.out hP1 (by omega))
  go_wp2_with fail
  refine AL.out.mono ?_
  rintro e w4 ⟨vw, rfl, ow, b4⟩
  have S4 := Lib.hid (S3.out.below b4)
  have B4 : Hid (Below w0.heap.size w0 w4) := B3.out.trans (b4.mono B3.out.size)
  have RW4 : Hid (RdP w4 vw (flatS sh1)) := rdP_own ow
  clear b4 ow AL S3 c0 c1 c2 c3 c4
  obtain ⟨c0, c1, c2, c3, c4⟩ := K.out _ B4.out
  have DN := Lib.hid (pdone_any w0 w4 gs gj g P _ _ sh1 sh1 B4.out S4.out hP1 (by omega) Ap cp after RP.out)
  go_wp2_with fail
  refine DN.out.mono ?_
  rintro e w5 ⟨q, rfl, sh2, p5, t5, b5⟩
  have S5 := Lib.hid p5
  have B5 := Lib.hid b5
  have RW5 := Lib.hid (RW4.out.tch t5)
  clear p5 b5 t5 DN S4 RW4 c0 c1 c2 c3 c4
  obtain ⟨c0, c1, c2, c3, c4⟩ := K.out _ B5.out
  cases q with
  | false =>
    go_wp2_with fail
    refine (slives_any _).mono ?_
    rintro e w9 ⟨rfl, b9⟩
    have B9 : Hid (Below w.heap.size w w9) := B0.out.trans ((B5.out.trans (b9.mono B5.out.size)).mono B0.out.size)
    clear b9
    go_wp2
    go_ret
    exact ⟨rfl, B9.out⟩
  | true =>
  have AL := Lib.hid (ply_all S5.out hP1 (by omega))
  go_wp2_with fail
  refine AL.out.mono ?_
  rintro e w6 ⟨vt, rfl, ot, b6⟩
  have S6 := Lib.hid (S5.out.below b6)
  have B6 : Hid (Below w0.heap.size w0 w6) := B5.out.trans (b6.mono B5.out.size)
  have RW6 := Lib.hid (RW5.out.below b6)
  have RT6 : Hid (RdP w6 vt (flatS sh2)) := rdP_own ot
  clear b6 ot AL S5 RW5 c0 c1 c2 c3 c4
  obtain ⟨c0, c1, c2, c3, c4⟩ := K.out _ B6.out
  obtain ⟨F6, f1, f2, f3⟩ := S6.out.dk
  have KEPT := Lib.hid S6.out.kept
  have WF2 := Lib.hid S6.out.wf
  have KR : Hid (Rest P d3) := S6.out.kept.rest
  have BK : Hid (Back P (qrt (pgK' d3 P)) d3) := ⟨KR.out.calm.ok, KR.out.sz, KR.out.len, KR.out.waits, KR.out.calm.up, rest_val KR.out⟩
  have FU := Lib.hid (fuse_h f1 cut HCUT.out)
  rw [setFuse_zero BK.out HC0.out] at FU
  have HF2 := Lib.hid f2; have HF3 := Lib.hid f3
  clear f1 f2 f3
  go_wp2_with fail
  refine FU.out.mono ?_
  rintro e w7 ⟨rfl, F7, t7⟩
  have T7 : Hid (Tch w6 w7) := t7.touch.sub (fun k hk => dk_kx (HF2.out k hk))
  have B7 : Hid (Below w0.heap.size w0 w7) := B6.out.trans (t7.touch.below B6.out.size HF3.out)
  have RW7 := Lib.hid (RW6.out.tch T7.out)
  have RT7 := Lib.hid (RT6.out.tch T7.out)
  have J7 : Hid (Jb w7 gj g P) := S6.out.jb.tch T7.out
  obtain ⟨v6, L6, o6, e6⟩ := S6.out.sho
  have O7 : Hid (ShO w7 w0.heap.size gs gj v6 L6) := o6.disk t7.touch HF2.out
  have E6 := Lib.hid e6
  have LEN6 : Hid (L6.length + 1 ≤ P) := by
    have := S6.out.len hP1
    rw [← e6, shP_len] at this
    exact this
  have FW6 : Hid (Fw 200000 d3) := S6.out.fw
  obtain ⟨F8, h8, s8, k8⟩ := t7.has.least
  have HF8 : Hid (∀ k, F8 k → w0.heap.size ≤ k) := fun k hk => by
    rcases t7.new k (s8 k hk) with h | h
    · exact HF3.out k h
    · exact Nat.le_trans B6.out.size h
  have K8 := Lib.hid k8
  have H8 := Lib.hid h8
  clear FU t7 S6 o6 e6 h8 s8 k8 T7 HF2 HF3 RW6 RT6 c0 c1 c2 c3 c4
  obtain ⟨c0, c1, c2, c3, c4⟩ := K.out _ B7.out
  have hfs : (d3.setFuse cut).waits = d3.waits ∧ (d3.setFuse cut).down = d3.down ∧ (d3.setFuse cut).l = d3.l := by unfold Dk.setFuse; split <;> exact ⟨rfl, rfl, rfl⟩
  have CM := Lib.hid (scommit_any w7 F8 w0.heap.size gs gj g P (d3.setFuse cut) L6 v6 O7.out H8.out J7.out (fun hf => J7.out.far (K8.out gj hf) rfl) (sz_fuse KR.out.sz cut) (by rw [hfs.1, KR.out.waits]; decide) hP1 (by omega) (by rw [hfs.2.2, KR.out.len]; exact Nat.le_refl _) (by rw [hfs.2.1, KR.out.calm.up]) (by rw [E6.out]; exact WF2.out.good) (fun y hy => by rw [E6.out] at hy; exact (WF2.out.ids.2 y.1 (List.mem_map_of_mem hy)).2) LEN6.out ((fw_fuse FW6.out cut).mono (by omega)))
  rw [E6.out] at CM
  clear hfs
  go_wp2_with fail
  refine CM.out.mono ?_
  rintro e w8 ⟨ce, d8, F9, rfl, hco, t8⟩
  have TS := Lib.hid (torn_shelf hP1 (by omega) KEPT.out WF2.out HCUT.out hco picks)
  have FW8 : Hid (Fw 100000 d8) := coto_fw hco ((fw_fuse FW6.out cut).mono (by
    have := chS_len (pgS (d3.setFuse cut) P) (wrs sh2)
    have h2 := ids_len WF2.out.ids (by omega)
    rw [wrs_len] at this
    omega))
  have T8 := Lib.hid t8
  have B8 : Hid (Below w0.heap.size w0 w8) := B7.out.trans (t8.touch.below B7.out.size HF8.out)
  have HF9 : Hid (∀ k, F9 k → w0.heap.size ≤ k) := fun k hk => (t8.new k hk).elim (HF8.out k) (fun h => Nat.le_trans B7.out.size h)
  have FH := Lib.hid (fail_h t8.has (by have := FW8.out.w; omega) (.slice Ak picks.length ck) picks (RK.out.touch (Touch.of_below B8.out : Touch (fun _ => False) w0 w8) (fun _ _ _ x => x)) (RK.out.far (Nat.le_refl _) HF9.out))
  clear hco t8 CM c0 c1 c2 c3 c4
  obtain ⟨c0, c1, c2, c3, c4⟩ := K.out _ B8.out
  go_wp2_with fail
  refine FH.out.mono ?_
  rintro e w9 ⟨rfl, F10, t9⟩
  have T9 := Lib.hid (T8.out.then t9)
  have ST := Lib.hid (start_h t9.has)
  rw [(fail_start d8 picks).1] at ST
  have B9 : Hid (Below w0.heap.size w0 w9) := B7.out.trans (T9.out.touch.below B7.out.size HF8.out)
  clear t9 FH T8 c0 c1 c2 c3 c4
  obtain ⟨c0, c1, c2, c3, c4⟩ := K.out _ B9.out
  go_wp2_with fail
  refine ST.out.mono ?_
  rintro e w10 ⟨rfl, F11, t10⟩
  have T10 := Lib.hid (T9.out.then t10)
  have B10 : Hid (Below w0.heap.size w0 w10) := B7.out.trans (T10.out.touch.below B7.out.size HF8.out)
  have FW10 : Hid (Fw 100000 (d8.fail picks).start) := fw_again FW8.out picks
  obtain ⟨ts1, ts2, d9, ts3, ts4, ts5, ts6, ts7, ts8⟩ := TS.out
  have OJ := Lib.hid (open_any w10 F11 g P (d8.fail picks).start T10.out.has ts1 (by omega) (by omega) (FW10.out.mono (by omega)))
  unfold OpenTo at OJ
  generalize run (d8.fail picks).start (openK P (d8.fail picks).start ((d8.fail picks).start.read 0).1) = r at OJ ts2 ts3 TS
  obtain ⟨r1, r2⟩ := r
  simp only at ts2 ts3 OJ
  subst ts2 ts3
  clear t10 ST T9 ts1 TS c0 c1 c2 c3 c4
  obtain ⟨c0, c1, c2, c3, c4⟩ := K.out _ B10.out
  have TS4 := Lib.hid ts4; have TS5 := Lib.hid ts5; have TS6 := Lib.hid ts6; have TS7 := Lib.hid ts7; have TS8 := Lib.hid ts8
  clear ts4 ts5 ts6 ts7 ts8
  go_wp2_with fail
  refine OJ.out.mono ?_
  rintro e w11 ⟨v11, F12, rfl, t11, hv11⟩
  rw [if_pos trivial] at hv11
  obtain ⟨gj2, rfl, hj2, hnj, _⟩ := hv11
  have T11 := Lib.hid (T10.out.then t11)
  have B11 : Hid (Below w0.heap.size w0 w11) := B7.out.trans (T11.out.touch.below B7.out.size HF8.out)
  have TC11 : Hid (Tch w7 w11) := T11.out.touch.sub (fun k hk => dk_kx (K8.out k hk))
  have RW11 := Lib.hid (RW7.out.tch TC11.out)
  have RT11 := Lib.hid (RT7.out.tch TC11.out)
  have SO := Lib.hid (sopen_up w11 F12 gj2 g P d9 T11.out.has hj2 TS4.out (by rw [TS5.out]; decide) hP1 (by omega) (by rw [TS7.out]; exact Nat.le_refl _) TS6.out)
  clear t11 OJ T10 hj2 hnj TC11 RW7 RT7 c0 c1 c2 c3 c4 T11
  obtain ⟨c0, c1, c2, c3, c4⟩ := K.out _ B11.out
  obtain ⟨sh9, e9, g9, h9⟩ : ∃ sh9, loadA d9 P = (0, sh9) ∧ Wf P sh9 ∧ (sh9 = sh2 ∨ (ce ≠ 0 ∧ sh9 = sh1)) := by
    rcases TS8.out with h | ⟨h1, h⟩
    · exact ⟨sh2, h, WF2.out, .inl rfl⟩
    · exact ⟨sh1, h, KEPT.out.wf, .inr ⟨h1, rfl⟩⟩
  rw [e9] at SO
  have H9 := Lib.hid h9; have G9 := Lib.hid g9
  clear e9 h9 g9 TS8
  go_wp2_with fail
  refine SO.out.mono ?_
  rintro e w12 (⟨_, gs2, rfl, hge, b12, L12, v12, e12, o12⟩ | ⟨h, _⟩)
  rotate_left
  · exact absurd rfl h
  have RD12 : Hid (ShRd w12 gs2 sh9) := by
    have := o12.read
    rw [e12] at this
    exact this
  have B12 : Hid (Below w0.heap.size w0 w12) := B11.out.trans (b12.mono B11.out.size)
  have RW12 := Lib.hid (RW11.out.below b12)
  have RT12 := Lib.hid (RT11.out.below b12)
  have LN9 : Hid (sh9.length + 1 ≤ P) := ids_len G9.out.ids (by omega)
  have AL := Lib.hid (all_any w12 gs2 sh9 RD12.out G9.out.good G9.out.srt (by have := LN9.out; omega))
  clear b12 e12 o12 hge SO RW11 RT11 c0 c1 c2 c3 c4
  go_wp2_with fail
  refine AL.out.mono ?_
  rintro e w13 ⟨vn, rfl, on, b13⟩
  obtain ⟨An, cn, rfl⟩ := own_slice on
  have B13 : Hid (Below w0.heap.size w0 w13) := B12.out.trans (b13.mono B12.out.size)
  obtain ⟨Aw, cw, rfl, rw13⟩ := (RW12.out.below b13).rd
  obtain ⟨At, ct, rfl, rt13⟩ := (RT12.out.below b13).rd
  obtain ⟨A', c', e', rn13⟩ := (rdP_own on).rd
  cases e'
  have fl : ∀ (s : List (Nat × PL)), Wf P s → (flatS s).length ≤ 43520 := fun s hs => by
    have hl := ids_len hs.ids (by omega)
    have key : ∀ (l : List (Nat × PL)), (∀ y ∈ l, y.2.length ≤ 340) → (l.flatMap (·.2)).length ≤ 340 * l.length := by
      intro l
      induction l with
      | nil => intro _; simp
      | cons y r ih =>
        intro hl
        have h1 := hl y (List.mem_cons_self ..)
        have h2 := ih (fun z hz => hl z (List.mem_cons_of_mem _ hz))
        rw [List.flatMap_cons, List.length_append, List.length_cons]
        omega
    have h1 := key s (fun y hy => by
      have := (szL_len y.2).1
      have := (hs.good y hy).1
      omega)
    show (s.flatMap (·.2)).length ≤ _
    omega
  have n9 := fl sh9 G9.out; have n2 := fl sh2 WF2.out; have n1 := fl sh1 KEPT.out.wf
  have RW13 := Lib.hid rw13; have RN13 := Lib.hid rn13
  have SM := Lib.hid (psame_any w13 An At cn ct _ _ rn13 rt13 (by omega) (by omega))
  clear on b13 AL rw13 rn13 rt13 fl RW12 RT12
  by_cases hdone : flatS sh9 = flatS sh2
  · rw [decide_eq_true hdone] at SM
    clear hdone
    go_wp2_with fail
    refine SM.out.mono ?_
    rintro e w14 ⟨rfl, b14⟩
    have B14 : Hid (Below w0.heap.size w0 w14) := B13.out.trans (b14.mono B13.out.size)
    clear b14 SM
    go_wp2_with fail
    refine (slives_any _).mono ?_
    rintro e w19 ⟨rfl, b19⟩
    have B19 : Hid (Below w.heap.size w w19) := B0.out.trans ((B14.out.trans (b19.mono B14.out.size)).mono B0.out.size)
    clear b19
    go_wp2
    go_ret
    exact ⟨rfl, B19.out⟩
  · rw [decide_eq_false hdone] at SM
    obtain ⟨hce, hwas⟩ : ce ≠ 0 ∧ sh9 = sh1 := H9.out.resolve_left (fun e => hdone (by rw [e]))
    have dce : (ce != 0) = true := by simpa using hce
    have HW := Lib.hid (congrArg flatS hwas)
    clear hdone hce hwas
    go_wp2_with fail
    refine SM.out.mono ?_
    rintro e w14 ⟨rfl, b14⟩
    have B14 : Hid (Below w0.heap.size w0 w14) := B13.out.trans (b14.mono B13.out.size)
    have SM2 := Lib.hid (psame_any w14 An Aw cn cw _ _ (RN13.out.below b14) (RW13.out.below b14) (by omega) (by omega))
    rw [decide_eq_true HW.out] at SM2
    clear b14 SM
    go_wp2_with fail
    refine SM2.out.mono ?_
    rintro e w15 ⟨rfl, b15⟩
    have B15 : Hid (Below w0.heap.size w0 w15) := B14.out.trans (b15.mono B14.out.size)
    clear b15 SM2
    go_wp2_with fail
    refine (slives_any _).mono ?_
    rintro e w19 ⟨rfl, b19⟩
    have B19 : Hid (Below w.heap.size w w19) := B0.out.trans ((B15.out.trans (b19.mono B15.out.size)).mono B0.out.size)
    clear b19
    go_wp2
    go_ret
    exact ⟨rfl, B19.out⟩
end Go.Proofs.Ytoolkamajlgcbaa
