/- CmS: steps done to a shelf amid a law; a shelf behind a commit that the power failed amid. -/
import Derived.Test.YtoolkamajlgcbaaCmN
set_option linter.unusedVariables false
set_option linter.unusedSimpArgs false
namespace Go.Proofs.Ytoolkamajlgcbaa
open Go.RowKit

set_option maxHeartbeats 3200000 in
set_option maxRecDepth 100000 in
theorem pdone_any (w0 w : World) (gs gj g P m : Nat) (d : Dk) (sh0 gd : List (Nat × PL)) (hb0 : Below w0.heap.size w0 w) (h : Ply w w0.heap.size gj g P m gs d sh0 gd) (hP1 : 2 ≤ P) (hP2 : P ≤ 128) (A : Option Addr) (c : Nat) (l : List SOp) (hl : RdSOps w0 (.slice A l.length c) l) :
    Calls Try.prog 18 #[.pointer (some ⟨gs, 0, none⟩), .slice A l.length c] w fun e w' => ∃ q, e = .returned (.bool q) ∧ ∃ sh, Ply w' w0.heap.size gj g P m gs d sh gd ∧ Tch w w' ∧ Below w0.heap.size w0 w' := by
  have HB0 := Lib.hid hb0; have ST0 := Lib.hid h; have HL := Lib.hid hl
  have T0 : Hid (Tch w w) := Tch.of_below (Below.refl _ w)
  clear hb0 h hl
  go_enter Try.func18, Try.ntmps18
  go_wp2_with fail
  go_loopw [5, 6] (fun iv iv2 wr => ∃ i : Nat, i ≤ 40 ∧ i ≤ l.length ∧ iv = .int .i64 i ∧ Hid (Below w0.heap.size w0 wr) ∧ ∃ sh, Hid (Tch w wr) ∧ Hid (Ply wr w0.heap.size gj g P m gs d sh gd)) (fun iv _ _ => 40 - (intOf iv).toNat)
  case atStart => exact ⟨0, Nat.zero_le _, Nat.zero_le _, rfl, HB0, sh0, T0, ST0⟩
  case round =>
    obtain ⟨i, hi, hil, rfl, hb, sh, htc, hst⟩ := hrel
    by_cases hlt : i < l.length
    case neg =>
      have d0 : decide ((i : Int) < (l.length : Int)) = false := decide_eq_false (by omega)
      go_wp2
      go_ret
      exact ⟨_, rfl, sh, hst.out, htc.out, hb.out⟩
    by_cases hi2 : i < 40
    case neg =>
      have d0 : decide ((i : Int) < (l.length : Int)) = true := decide_eq_true (by omega)
      have d1 : decide ((i : Int) < 40) = false := decide_eq_false (by omega)
      go_wp2
      go_ret
      exact ⟨_, rfl, sh, hst.out, htc.out, hb.out⟩
    obtain ⟨_, k1, k2, b, off, rfl, o, ho, Z0, Z1, Z2, Z3, Z4, Z5⟩ := sops_at HL.out i hlt
    obtain ⟨kd, n, lg, a, bt, cv⟩ := o
    simp only at Z0 Z1 Z2 Z3 Z4 Z5
    replace Z0 := Lib.hid Z0; replace Z1 := Lib.hid Z1; replace Z2 := Lib.hid Z2
    replace Z3 := Lib.hid Z3; replace Z4 := Lib.hid Z4; replace Z5 := Lib.hid Z5
    have HO := Lib.hid ho
    have hii : (i : Int) < (l.length : Int) := by omega
    have hi3 : (i : Int) < 40 := by omega
    have LG := Lib.hid (slight_any wr kd n lg a bt cv)
    clear ho
    have z0 := cell_below hb.out Z0.out
    have z1 := cell_below hb.out Z1.out
    have z2 := cell_below hb.out Z2.out
    have z3 := cell_below hb.out Z3.out
    have z4 := cell_below hb.out Z4.out
    have z5 := cell_below hb.out Z5.out
    go_wp2_with fail
    refine LG.out.mono ?_
    rintro e w2 ⟨⟨q, rfl⟩, q2⟩
    have B2 : Hid (Below w0.heap.size w0 w2) := hb.out.trans (q2.mono hb.out.size)
    have S2 : Hid (Ply w2 w0.heap.size gj g P m gs d sh gd) := hst.out.below q2
    have T2 : Hid (Tch w w2) := htc.out.trans (Tch.of_below q2)
    clear z0 z1 z2 z3 z4 z5 LG q2 hst hb htc
    cases q with
    | false =>
      go_wp2
      go_ret
      exact ⟨_, rfl, sh, S2.out, T2.out, B2.out⟩
    | true =>
      have z0 := cell_below B2.out Z0.out
      have z1 := cell_below B2.out Z1.out
      have z2 := cell_below B2.out Z2.out
      have z3 := cell_below B2.out Z3.out
      have z4 := cell_below B2.out Z4.out
      have z5 := cell_below B2.out Z5.out
      by_cases hk : kd = 1
      · have dk : (kd == 1) = true := by simp [hk]
        have DR := Lib.hid (ply_drop S2.out hP1 hP2 a)
        subst hk
        go_wp2_with fail
        refine DR.out.mono ?_
        rintro e w3 ⟨rfl, s3, t3, q3⟩
        obtain ⟨sh3, h3⟩ : ∃ s, s = (dropA sh a).2 := ⟨_, rfl⟩
        rw [← h3] at s3
        have S3 := Lib.hid s3
        have T3 : Hid (Tch w w3) := T2.out.trans t3
        have B3 : Hid (Below w0.heap.size w0 w3) := B2.out.trans q3
        clear s3 q3 t3 DR h3
        go_wp2
        go_roundw
        case rel => first | exact ⟨i + 1, by omega, by omega, by go_num, B3, sh3, T3, S3⟩ | ((repeat apply Exists.intro); refine ⟨?_, rfl⟩; exact ⟨i + 1, by omega, by omega, by go_num, B3, sh3, T3, S3⟩)
        case measure => simp [intOf]; omega
      · have dk : (kd == 1) = false := by rw [beq_eq_false_iff_ne]; exact hk
        have z3d : w2.drew.cell? ⟨b, off + i * 6 + 3, none⟩ = some (.string a) := z3
        have Q2d : Hid (Below w0.heap.size w0 w2.drew) := B2.out.drew
        have S2d := Lib.hid (S2.out.below (Below.refl _ w2).drew)
        have T2d : Hid (Tch w w2.drew) := T2.out.trans (Tch.of_below (Below.refl _ w2).drew)
        have VL := Lib.hid (value_any w2.drew kd n lg a bt cv HO.out.val)
        obtain ⟨vv, hvv⟩ : ∃ q, q = valS lg cv := ⟨_, rfl⟩
        rw [← hvv] at VL
        clear hvv
        go_wp2_with fail
        refine wp_region_tail (fun w' => w'.cell? ⟨b, off + i * 6 + 3, none⟩ = some (.string a)) [(0, 1), (1, 1), (2, 1), (3, 1), (4, 1), (6, 1), (7, 1), (8, 1), (5, 2), (9, 0), (10, 0)] [11] (by kernel_rfl) (by kernel_rfl) z3d ?_
        repeat (refine wpT_dry (fun K hK => ?_); go_simp; refine hK _ ?_; clear hK K)
        refine wpT_read (.string a) rfl (fun w' hS => by go_simp) (fun K hK => ?_)
        go_simp
        refine hK _ ?_
        clear hK K
        refine wpT_do ?_
        go_wp2_with fail
        refine ⟨z3d, ?_⟩
        refine wpT_do ?_
        go_wp2_with fail
        refine VL.out.mono ?_
        rintro e w3 ⟨rfl, q3⟩
        have B3 : Hid (Below w0.heap.size w0 w3) := Q2d.out.trans (q3.mono Q2d.out.size)
        have S3 : Hid (Ply w3 w0.heap.size gj g P m gs d sh gd) := S2d.out.below q3
        have T3 : Hid (Tch w w3) := T2d.out.trans (Tch.of_below q3)
        clear z0 z1 z2 z3 z4 z5 z3d VL q3 B2 S2 Q2d S2d T2 T2d
        have z3 := cell_below B3.out Z3.out
        go_wp2_with fail
        refine ⟨z3, ?_⟩
        refine wpT_tail ?_
        refine wpE_do ?_
        cases hm : mayB a vv with
        | false =>
          have PN := Lib.hid (put_no w3 gs a vv hm)
          clear hm
          go_wp2_with fail
          refine PN.out.mono ?_
          rintro e w' ⟨rfl, rfl⟩
          clear PN
          go_wp2_with fail
          refine ⟨trivial, ?_⟩
          refine wpE_nil ?_
          go_wp2
          go_roundw
          case rel => first | exact ⟨i + 1, by omega, by omega, by go_num, B3, sh, T3, S3⟩ | ((repeat apply Exists.intro); refine ⟨?_, rfl⟩; exact ⟨i + 1, by omega, by omega, by go_num, B3, sh, T3, S3⟩)
          case measure => simp [intOf]; omega
        | true =>
          have EO := Lib.hid (mayB_iff.1 hm)
          have PT := Lib.hid (ply_put S3.out hP1 hP2 EO.out)
          clear hm
          go_wp2_with fail
          refine PT.out.mono ?_
          rintro e w6 ⟨rfl, s6, t6, q6⟩
          obtain ⟨sh6, h6⟩ : ∃ s, s = (putA sh P a vv).2 := ⟨_, rfl⟩
          rw [← h6] at s6
          have S6 := Lib.hid s6
          have T6 : Hid (Tch w w6) := T3.out.trans t6
          have B6 : Hid (Below w0.heap.size w0 w6) := B3.out.trans q6
          clear s6 q6 t6 PT h6
          go_wp2_with fail
          refine ⟨trivial, ?_⟩
          refine wpE_nil ?_
          go_wp2
          go_roundw
          case rel => first | exact ⟨i + 1, by omega, by omega, by go_num, B6, sh6, T6, S6⟩ | ((repeat apply Exists.intro); refine ⟨?_, rfl⟩; exact ⟨i + 1, by omega, by omega, by go_num, B6, sh6, T6, S6⟩)
          case measure => simp [intOf]; omega
/-- What is read of a store behind a commit that was torn, when it is opened. -/
theorem torn_shelf {P : Nat} (hP1 : 2 ≤ P) (hP : P ≤ 128) {d : Dk} {sh1 sh2 : List (Nat × PL)} (h : Kept P d sh1) (h2 : Wf P sh2) {cut : Int} (hc : cut ≤ 9223372036854775807) {e : Int} {d2 : Dk} (hco : CoTo P (d.setFuse cut) (chS (pgS (d.setFuse cut) P) (wrs sh2)) e d2) (p : List Bool) :
    Sto P (d2.fail p).start ∧ (run (d2.fail p).start (openK P (d2.fail p).start ((d2.fail p).start.read 0).1)).2 = 0 ∧ ∃ d9, d9 = (run (d2.fail p).start (openK P (d2.fail p).start ((d2.fail p).start.read 0).1)).1 ∧ Sz d9 ∧ d9.waits = [] ∧ d9.down = false ∧ d9.l.length = 8 * P + 1 ∧ (loadA d9 P = (0, sh2) ∨ (e ≠ 0 ∧ loadA d9 P = (0, sh1))) := by
  have hfs : ∀ i, pgS (d.setFuse cut) P i = pgS d P i := fun i => by
    have e : (d.setFuse cut).l = d.l ∧ (d.setFuse cut).waits = d.waits ∧ (d.setFuse cut).down = d.down := by unfold Dk.setFuse; split <;> exact ⟨rfl, rfl, rfl⟩
    unfold pgS
    exact page_same e.1 e.2.1 e.2.2 _
  have ec := chS_congr (pg := pgS (d.setFuse cut) P) (pg' := sec (pgK' d P)) (by omega : 1 ≤ P) h2.ids (fun i hi => by rw [hfs, pgS_sec hi])
  rw [ec] at hco
  have hy := chS_why (pg := sec (pgK' d P)) (by omega) h2.good h2.ids
  obtain ⟨wl, w1, w2, w3, w4⟩ := torn_to hP h.rest hc hy hco p
  obtain ⟨k1, k2⟩ := open_again hP w3 (by rw [(fail_start d2 p).2]; rfl)
  refine ⟨w3.sto, k1, _, rfl, k2.back.sz, k2.back.waits, k2.back.up, k2.back.len, ?_⟩
  have hpg := home_pages k2 w1 w2
  generalize (run (d2.fail p).start (openK P (d2.fail p).start ((d2.fail p).start.read 0).1)).1 = d9 at hpg ⊢
  rcases w4 with rfl | ⟨he, rfl⟩
  · left
    have := commit_enc (pgK'_len d P) h2.ids (by omega) hy
    rw [← hpg] at this
    exact loadA_back hP1 (by omega) (this.congr (by omega) h2.ids (fun i hi => (pgS_sec hi).symm)) h2.good h2.ids h2.srt
  · right
    have := h.enc.congr (by omega) h.wf.ids (fun i hi => pgS_sec hi)
    rw [← hpg] at this
    exact ⟨he, loadA_back hP1 (by omega) (this.congr (by omega) h.wf.ids (fun i hi => (pgS_sec hi).symm)) h.wf.good h.wf.ids h.wf.srt⟩
end Go.Proofs.Ytoolkamajlgcbaa
