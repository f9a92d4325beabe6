/- ShZ: the walk of the law ShelfRoom (written by gen_shz.py). -/
import Derived.Test.YtoolkamajlgcbaaShY
import Derived.Deep.Cut
import Derived.Deep.CutRange
import Derived.Deep.DeepCutAuto
set_option linter.unusedVariables false
set_option linter.unusedSimpArgs false
namespace Go.Proofs.Ytoolkamajlgcbaa
open Go.RowKit

/-- One Op of a list, as its six cells. -/
theorem sops_at {w : World} {A : Option Addr} {n c : Nat} {l : List SOp} (h : RdSOps w (.slice A n c) l) (i : Nat) (hi : i < l.length) : n = l.length ∧ n ≤ c ∧ c ≤ maxLen ∧ ∃ b off, A = some ⟨b, off, none⟩ ∧ ∃ o : SOp, o.In ∧ w.cell? ⟨b, off + i * 6, none⟩ = some (.int .i64 o.kind) ∧ w.cell? ⟨b, off + i * 6 + 1, none⟩ = some (.int .i64 o.n) ∧ w.cell? ⟨b, off + i * 6 + 2, none⟩ = some (.int .i64 o.long) ∧ w.cell? ⟨b, off + i * 6 + 3, none⟩ = some (.string o.key) ∧ w.cell? ⟨b, off + i * 6 + 4, none⟩ = some (.string o.to) ∧ w.cell? ⟨b, off + i * 6 + 5, none⟩ = some (.string o.val) := by
  obtain ⟨⟨A', c', e, h1, h2, h3⟩, h4⟩ := h
  cases e
  obtain ⟨b, off, e, hc⟩ := h3 (by omega)
  exact ⟨rfl, h1, h2, b, off, e, l[i], h4 _ (List.getElem_mem hi), hc i hi⟩
theorem sops_val {w : World} {v : Value} {l : List SOp} (h : RdSOps w v l) : ∃ A c, v = .slice A l.length c := by
  obtain ⟨⟨A', c', e, _⟩, _⟩ := h
  exact ⟨A', c', e⟩
theorem sops_le {w : World} {v : Value} {l : List SOp} (h : RdSOps w v l) : l.length ≤ maxLen := by
  obtain ⟨⟨A', c', e, h1, h2, _⟩, _⟩ := h
  omega
set_option maxHeartbeats 6400000 in
set_option maxRecDepth 100000 in
theorem shelfRoom_walk (w : World) (pages : Int) (v1 v2 : Value) (l1 l2 : List SOp) (h1 : RdSOps w v1 l1) (h2 : RdSOps w v2 l2) :
    Calls Try.prog 3 #[.int .i64 pages, v1, v2] w fun e w' => e = .returned (.bool true) ∧ Below w.heap.size w w' := by
  obtain ⟨A1, c1, rfl⟩ := sops_val h1
  obtain ⟨A2, c2, rfl⟩ := sops_val h2
  have H1 := Lib.hid h1; have H2 := Lib.hid h2
  have L1 : Hid (l1.length ≤ maxLen) := sops_le h1
  have L2 : Hid (l2.length ≤ maxLen) := sops_le h2
  clear h1 h2
  by_cases hbad : pages < 2 ∨ 12 < pages
  · have SN := Lib.hid (sopened_no w pages hbad)
    rcases (show pages < 2 ∨ 2 ≤ pages by omega) with h | h
    · have d1 : decide (pages < 2) = true := by simpa using h
      clear hbad h
      go_enter Try.func3, Try.ntmps3
      go_wp2_with fail
      refine SN.out.mono ?_
      rintro e w' ⟨rfl, rfl⟩
      go_wp2_with fail
      refine (slives_any _).mono ?_
      rintro e w9 ⟨rfl, b9⟩
      have B9 := Lib.hid b9
      clear b9
      go_wp2
      go_ret
      exact ⟨rfl, B9.out⟩
    · have d1 : decide (pages < 2) = false := decide_eq_false (by omega)
      have d2 : decide (12 < pages) = true := by simp; omega
      clear hbad h
      go_enter Try.func3, Try.ntmps3
      go_wp2_with fail
      refine SN.out.mono ?_
      rintro e w' ⟨rfl, rfl⟩
      go_wp2_with fail
      refine (slives_any _).mono ?_
      rintro e w9 ⟨rfl, b9⟩
      have B9 := Lib.hid b9
      clear b9
      go_wp2
      go_ret
      exact ⟨rfl, B9.out⟩
  obtain ⟨P, rfl⟩ := Int.eq_ofNat_of_zero_le (show 0 ≤ pages by omega)
  have hP1 : 2 ≤ P := by omega
  have hP2 : P ≤ 12 := by omega
  have OP := Lib.hid (sopened_any w P hP1 hP2)
  obtain ⟨t, ht⟩ : ∃ t, IntKind.i64.wrap ((l1.length : Int) + (l2.length : Int)) = t := ⟨_, rfl⟩
  have TT : Hid (∀ i : Nat, (i : Int) < t → i < l1.length + l2.length) := fun i hi => by
    rw [← ht, IntKind.wrap_i64] at hi
    have := L1.out; have := L2.out
    unfold maxLen at *
    omega
  clear hbad
  go_enter Try.func3, Try.ntmps3
  go_wp2_with fail
  refine OP.out.mono ?_
  rintro e w1 ⟨g, gj, gs, rfl, hb, hgs, q1, hj, _⟩
  have B1 := Lib.hid q1
  have S1 := Lib.hid (stt_new (lo := w.heap.size) hb hj hgs q1.size)
  clear hb hgs q1 hj OP
  generalize hbase : w1.heap.size = base at S1
  clear hbase
  go_wp2_with fail
  go_loopw [10, 34] (fun iv iv2 wr => ∃ i : Nat, i ≤ 120 ∧ iv = .int .i64 i ∧ Hid (Below w.heap.size w wr) ∧ ∃ L, L.length ≤ i ∧ Hid (Stt wr w.heap.size base gs gj g P L)) (fun iv _ _ => 120 - (intOf iv).toNat)
  case atStart => exact ⟨0, Nat.zero_le _, rfl, B1, [], Nat.le_refl _, S1⟩
  case round =>
    obtain ⟨i, hi, rfl, hb, L, hL, hst⟩ := hrel
    by_cases hit : (i : Int) < t
    case neg =>
      go_wp2_with fail
      refine (slives_any _).mono ?_
      rintro e w9 ⟨rfl, b9⟩
      have B9 : Hid (Below w.heap.size w w9) := hb.out.trans (b9.mono hb.out.size)
      clear b9
      go_wp2
      go_ret
      exact ⟨rfl, B9.out⟩
    by_cases hi2 : i < 120
    case neg =>
      have di : decide ((i : Int) < 120) = false := by simp; omega
      go_wp2_with fail
      refine (slives_any _).mono ?_
      rintro e w9 ⟨rfl, b9⟩
      have B9 : Hid (Below w.heap.size w w9) := hb.out.trans (b9.mono hb.out.size)
      clear b9
      go_wp2
      go_ret
      exact ⟨rfl, B9.out⟩
    have hi3 : (i : Int) < 120 := by omega
    have hlt := TT.out i hit
    go_upto_if 51 with fail
    go_cut [11] (fun pv wx => pv = .pointer (some ⟨wr.heap.size, 0, none⟩) ∧ ∃ o : SOp, Hid (wx.heap[wr.heap.size]? = some (opCells o.kind o.n o.long o.key o.to o.val)) ∧ Hid (o.In) ∧ Hid (Below wr.heap.size wr wx))
    case first =>
      by_cases hc : i < l1.length
      · obtain ⟨_, k1, k2, b, off, rfl, o, ho, z0, z1, z2, z3, z4, z5⟩ := sops_at H1.out i hc
        replace z0 := cell_below hb.out z0; replace z1 := cell_below hb.out z1; replace z2 := cell_below hb.out z2
        replace z3 := cell_below hb.out z3; replace z4 := cell_below hb.out z4; replace z5 := cell_below hb.out z5
        have hci : (i : Int) < (l1.length : Int) := by omega
        have HO := Lib.hid ho
        clear ho
        obtain ⟨kd, n, lg, a, bt, c⟩ := o
        simp only at z0 z1 z2 z3 z4 z5
        have AL : ∀ (p : Addr) (u : Value), wr.cell? p = some u → ∀ q, (wr.alloc q).cell? p = some u := fun p u h q => cell_below ((Below.refl _ wr).alloc (Nat.le_refl _) q) h
        replace z0 := AL _ _ z0; replace z1 := AL _ _ z1; replace z2 := AL _ _ z2
        replace z3 := AL _ _ z3; replace z4 := AL _ _ z4; replace z5 := AL _ _ z5
        clear AL
        go_wp2_with fail
        go_meet
        exact ⟨rfl, ⟨kd, n, lg, a, bt, c⟩, by unfold Hid opCells; exact blk_new wr _, HO, (Below.refl _ wr).alloc (Nat.le_refl _) _⟩
      · obtain ⟨_, k1, k2, b, off, rfl, o, ho, z0, z1, z2, z3, z4, z5⟩ := sops_at H2.out (i - l1.length) (by omega)
        obtain ⟨j, hj⟩ : ∃ j, j = i - l1.length := ⟨_, rfl⟩
        rw [← hj] at z0 z1 z2 z3 z4 z5
        replace z0 := cell_below hb.out z0; replace z1 := cell_below hb.out z1; replace z2 := cell_below hb.out z2
        replace z3 := cell_below hb.out z3; replace z4 := cell_below hb.out z4; replace z5 := cell_below hb.out z5
        have hci : ¬ (i : Int) < (l1.length : Int) := by omega
        have hci2 : decide ((i : Int) < (l1.length : Int)) = false := decide_eq_false hci
        have ej : (i : Int) - (l1.length : Int) = (j : Int) := by omega
        have wj : IntKind.i64.wrap ((i : Int) - (l1.length : Int)) = (j : Int) := by rw [ej, IntKind.wrap_i64]; omega
        have hj2 : (j : Int) < (l2.length : Int) := by omega
        have HO := Lib.hid ho
        clear ho hj
        obtain ⟨kd, n, lg, a, bt, c⟩ := o
        simp only at z0 z1 z2 z3 z4 z5
        have AL : ∀ (p : Addr) (u : Value), wr.cell? p = some u → ∀ q, (wr.alloc q).cell? p = some u := fun p u h q => cell_below ((Below.refl _ wr).alloc (Nat.le_refl _) q) h
        replace z0 := AL _ _ z0; replace z1 := AL _ _ z1; replace z2 := AL _ _ z2
        replace z3 := AL _ _ z3; replace z4 := AL _ _ z4; replace z5 := AL _ _ z5
        clear AL
        go_wp2_with fail
        go_meet
        exact ⟨rfl, ⟨kd, n, lg, a, bt, c⟩, by unfold Hid opCells; exact blk_new wr _, HO, (Below.refl _ wr).alloc (Nat.le_refl _) _⟩
    case rest =>
      obtain ⟨rfl, o, hbk, hin, hbx⟩ := hcut
      obtain ⟨kd, n, lg, a, bt, c⟩ := o
      simp only at hbk hin
      have BX : Hid (Below w.heap.size w wc) := hb.out.trans (hbx.out.mono hb.out.size)
      have SX : Hid (Stt wc w.heap.size base gs gj g P L) := hst.out.below hbx.out
      have KC : Hid (∀ W, Below wc.heap.size wc W → W.heap[wr.heap.size]? = some (opCells kd n lg a bt c)) := fun W hW => (hW.block _ (lt_of_block hbk.out)).trans hbk.out
      have LG := Lib.hid (slight_any wc kd n lg a bt c)
      have x0 := blk_cell hbk.out 0; have x1 := blk_cell hbk.out 1; have x2 := blk_cell hbk.out 2
      have x3 := blk_cell hbk.out 3; have x4 := blk_cell hbk.out 4; have x5 := blk_cell hbk.out 5
      simp at x0 x1 x2 x3 x4 x5
      clear hbk hbx hst hb hlt hit TT H1 H2 B1 S1
      go_wp2_with fail
      refine LG.out.mono ?_
      rintro e w2 ⟨⟨q, rfl⟩, q2⟩
      have B2 : Hid (Below w.heap.size w w2) := BX.out.trans (q2.mono BX.out.size)
      have S2 : Hid (Stt w2 w.heap.size base gs gj g P L) := SX.out.below q2
      have Q2 := Lib.hid q2
      clear x0 x1 x2 x3 x4 x5 LG q2 BX SX
      have K2 := KC.out w2 Q2.out
      have x0 := blk_cell K2 0; have x1 := blk_cell K2 1; have x2 := blk_cell K2 2
      have x3 := blk_cell K2 3; have x4 := blk_cell K2 4; have x5 := blk_cell K2 5
      simp at x0 x1 x2 x3 x4 x5
      clear K2
      cases q with
      | false =>
        go_wp2_with fail
        refine (slives_any _).mono ?_
        rintro e w9 ⟨rfl, b9⟩
        have B9 : Hid (Below w.heap.size w w9) := B2.out.trans (b9.mono B2.out.size)
        clear b9
        go_wp2
        go_ret
        exact ⟨rfl, B9.out⟩
      | true =>
        by_cases hk : kd = 1
        · have dk : (kd == 1) = true := by simp [hk]
          have DR := Lib.hid (stt_drop S2.out (by omega) a)
          subst hk
          go_wp2_with fail
          refine DR.out.mono ?_
          rintro e w3 ⟨rfl, L3, s3, e3, q3⟩
          have S3 := Lib.hid s3
          have B3 : Hid (Below w.heap.size w w3) := ⟨q3.os.trans B2.out.os, q3.tape.trans B2.out.tape, q3.output.trans B2.out.output, Nat.le_trans B2.out.size q3.size, fun k hk => (q3.block k hk).trans (B2.out.block k hk)⟩
          have L3l : L3.length ≤ i + 1 := by
            have q := dropA_len (shP L) a
            rw [← e3, shP_len, shP_len] at q
            omega
          clear s3 e3 q3 DR
          go_wp2
          go_roundw
          case rel => first | exact ⟨i + 1, by omega, by go_num, B3, L3, L3l, S3⟩ | ((repeat apply Exists.intro); refine ⟨?_, rfl⟩; exact ⟨i + 1, by omega, by go_num, B3, L3, L3l, S3⟩)
          case measure => simp [intOf]; omega
        · have dk : (kd == 1) = false := by rw [beq_eq_false_iff_ne]; exact hk
          have VL := Lib.hid (value_any w2 kd n lg a bt c hin.out.val)
          obtain ⟨vv, hvv⟩ : ∃ q, q = valS lg c := ⟨_, rfl⟩
          rw [← hvv] at VL
          clear hvv
          go_wp2_with fail
          refine VL.out.mono ?_
          rintro e w3 ⟨rfl, q3⟩
          have B3 : Hid (Below w.heap.size w w3) := B2.out.trans (q3.mono B2.out.size)
          have S3 : Hid (Stt w3 w.heap.size base gs gj g P L) := S2.out.below q3
          have Q3 : Hid (Below wc.heap.size wc w3) := Q2.out.trans (q3.mono Q2.out.size)
          clear x0 x1 x2 x3 x4 x5 VL q3 B2 S2 Q2
          have K3 := KC.out w3 Q3.out
          have x3 := blk_cell K3 3
          simp at x3
          clear K3
          go_wp2_with fail
          refine (rmay_any _ _ _).mono ?_
          rintro e w' ⟨rfl, rfl⟩
          cases hm : mayB a vv with
          | false =>
            go_wp2
            go_roundw
            case rel => first | exact ⟨i + 1, by omega, by go_num, B3, L, (by omega), S3⟩ | ((repeat apply Exists.intro); refine ⟨?_, rfl⟩; exact ⟨i + 1, by omega, by go_num, B3, L, (by omega), S3⟩)
            case measure => simp [intOf]; omega
          | true =>
            have EO := Lib.hid (mayB_iff.1 hm)
            have ha : a.size ≤ 64 := EO.out.2.1
            have hv : vv.size ≤ 400 := EO.out.2.2
            have GT := Lib.hid (stt_get S3.out (by omega) a)
            have PINV := Lib.hid (put_inv (sh := shP L) S3.out.good S3.out.two hP1 (show P ≤ 1000 by omega) EO.out)
            have ZS := zs_le S3.out.good
            rw [shP_len] at ZS
            obtain ⟨zz, hzz⟩ : ∃ q, q = (zs (shP L)).sum := ⟨_, rfl⟩
            have OZ : Hid (oldZ (shP L) a = match getK (shP L) a with | some v => szP (a, v) | none => 0) := rfl
            rw [← hzz] at ZS PINV
            have HZ := Lib.hid hzz
            generalize getK (shP L) a = gk at GT OZ
            clear hzz hm
            go_wp2_with fail
            refine GT.out.mono ?_
            rintro e w4 ⟨rfl, q4⟩
            have B4 : Hid (Below w.heap.size w w4) := B3.out.trans (q4.mono B3.out.size)
            have S4 : Hid (Stt w4 w.heap.size base gs gj g P L) := S3.out.below q4
            have Q4 : Hid (Below wc.heap.size wc w4) := Q3.out.trans (q4.mono Q3.out.size)
            clear x3 GT q4 B3 S3 Q3
            have K4 := KC.out w4 Q4.out
            have x3 := blk_cell K4 3
            simp at x3
            have x3d : w4.drew.cell? ⟨wr.heap.size, 3, none⟩ = some (.string a) := x3
            have SZ := Lib.hid (stt_size (S4.out.below (Below.refl _ w4).drew) (by omega))
            rw [← HZ.out] at SZ
            clear K4
            go_wp2_with fail
            refine wp_region_flag (fun w' => w'.cell? ⟨wr.heap.size, 3, none⟩ = some (.string a)) [(0, 1), (3, 1), (7, 1), (8, 1), (4, 2), (5, 1), (1, 0), (2, 1), (6, 1), (9, 1), (10, 1)] (by kernel_rfl) (by kernel_rfl) x3d ?_
            simp only [ordered, List.map_cons, List.map_nil, List.getD_cons_zero, List.getD_cons_succ]
            repeat (refine wpF_dry (fun K hK => ?_); go_simp; refine hK _ ?_; clear hK K)
            refine wpF_read (.string a) rfl (fun w' hS => by go_simp) (fun K hK => ?_)
            go_simp
            refine hK _ ?_
            clear hK K
            repeat (refine wpF_dry (fun K hK => ?_); go_simp; refine hK _ ?_; clear hK K)
            refine wpF_do ?_
            go_wp2_with fail
            refine SZ.out.mono ?_
            rintro e w5 ⟨rfl, q5⟩
            have Q5 : Hid (Below w4.heap.size w4 w5) := (Below.refl _ w4).drew.trans q5
            have B5 : Hid (Below w.heap.size w w5) := B4.out.trans (Q5.out.mono B4.out.size)
            have S5 : Hid (Stt w5 w.heap.size base gs gj g P L) := S4.out.below Q5.out
            have x3e : w5.cell? ⟨wr.heap.size, 3, none⟩ = some (.string a) := cell_below Q5.out x3
            clear q5 SZ x3 x3d S4 B4 Q4
            go_wp2_with fail
            refine ⟨x3e, ?_⟩
            repeat (refine wpF_dry (fun K hK => ?_); go_simp; refine hK _ ?_; clear hK K)
            refine wpF_nil ?_
            have PT := Lib.hid (stt_put S5.out hP1 (show P ≤ 1000 by omega) (by omega) EO.out)
            have hn1 : IntKind.i64.wrap ((zz : Int) + 3) = (zz : Int) + 3 := by rw [IntKind.wrap_i64]; omega
            cases gk with
            | none =>
              have OZ' : oldZ (shP L) a = 0 := OZ.out
              have SP : szP (a, vv) = 3 + a.size + vv.size := rfl
              rw [OZ', SP] at PINV
              clear OZ OZ' SP
              simp only [Option.getD_none, Option.isSome_none]
              go_wp2_with fail
              refine PT.out.mono ?_
              rintro e w6 ⟨rfl, L6, s6, e6, q6⟩
              have S6 := Lib.hid s6
              have B6 : Hid (Below w.heap.size w w6) := ⟨q6.os.trans B5.out.os, q6.tape.trans B5.out.tape, q6.output.trans B5.out.output, Nat.le_trans B5.out.size q6.size, fun k hk => (q6.block k hk).trans (B5.out.block k hk)⟩
              have L6l : L6.length ≤ i + 1 := by
                have q := putA_len (shP L) P a vv
                rw [← e6, shP_len, shP_len] at q
                omega
              have E6 := Lib.hid e6
              have PI := PINV.out
              rw [← e6] at PI
              obtain ⟨_, _, PI⟩ := PI
              have ZL := zs_le s6.good
              rw [shP_len] at ZL
              clear s6 q6 e6 PT
              rcases PI with ⟨r0, rs⟩ | ⟨r5, _, rs⟩
              · rw [r0]
                have SZ6 := Lib.hid (stt_size S6.out (by omega))
                generalize hz6 : (zs (shP L6)).sum = z6 at SZ6 rs ZL
                have en : (z6 : Int) = ((zz : Int) + 3 + (a.size : Int) + (vv.size : Int)) := by omega
                have en2 : ((z6 : Int) != ((zz : Int) + 3 + (a.size : Int) + (vv.size : Int))) = false := by rw [en]; simp
                clear hz6 r0
                go_wp2_with fail
                refine SZ6.out.mono ?_
                rintro e w7 ⟨rfl, q7⟩
                have S7 : Hid (Stt w7 w.heap.size base gs gj g P L6) := S6.out.below q7
                have B7 : Hid (Below w.heap.size w w7) := B6.out.trans (q7.mono B6.out.size)
                clear q7 SZ6
                go_wp2
                go_roundw
                case rel => first | exact ⟨i + 1, by omega, by go_num, B7, L6, L6l, S7⟩ | ((repeat apply Exists.intro); refine ⟨?_, rfl⟩; exact ⟨i + 1, by omega, by go_num, B7, L6, L6l, S7⟩)
                case measure => simp [intOf]; omega
              · rw [r5]
                have en : ¬ ((zz : Int) + 3 + (a.size : Int) + (vv.size : Int)) ≤ 510 * ((P : Int) - 2) := by omega
                have en2 : decide (((zz : Int) + 3 + (a.size : Int) + (vv.size : Int)) ≤ 510 * ((P : Int) - 2)) = false := decide_eq_false en
                have wp : IntKind.i64.wrap ((P : Int) - 2) = (P : Int) - 2 := by rw [IntKind.wrap_i64]; omega
                have wp2 : IntKind.i64.wrap (510 * ((P : Int) - 2)) = 510 * ((P : Int) - 2) := by rw [IntKind.wrap_i64]; omega
                clear r5
                go_wp2
                go_roundw
                case rel => first | exact ⟨i + 1, by omega, by go_num, B6, L6, L6l, S6⟩ | ((repeat apply Exists.intro); refine ⟨?_, rfl⟩; exact ⟨i + 1, by omega, by go_num, B6, L6, L6l, S6⟩)
                case measure => simp [intOf]; omega
            | some v0 =>
              have OZ' : oldZ (shP L) a = 3 + a.size + v0.size := OZ.out
              have SP : szP (a, vv) = 3 + a.size + vv.size := rfl
              rw [OZ', SP] at PINV
              have hv0 : v0.size ≤ 200000 := by
                rcases PINV.out.2.2 with ⟨_, h⟩ | ⟨_, _, h⟩ <;> omega
              clear OZ OZ' SP
              simp only [Option.getD_some, Option.isSome_some]
              go_wp2_with fail
              refine PT.out.mono ?_
              rintro e w6 ⟨rfl, L6, s6, e6, q6⟩
              have S6 := Lib.hid s6
              have B6 : Hid (Below w.heap.size w w6) := ⟨q6.os.trans B5.out.os, q6.tape.trans B5.out.tape, q6.output.trans B5.out.output, Nat.le_trans B5.out.size q6.size, fun k hk => (q6.block k hk).trans (B5.out.block k hk)⟩
              have L6l : L6.length ≤ i + 1 := by
                have q := putA_len (shP L) P a vv
                rw [← e6, shP_len, shP_len] at q
                omega
              have E6 := Lib.hid e6
              have PI := PINV.out
              rw [← e6] at PI
              obtain ⟨_, _, PI⟩ := PI
              have ZL := zs_le s6.good
              rw [shP_len] at ZL
              clear s6 q6 e6 PT
              rcases PI with ⟨r0, rs⟩ | ⟨r5, _, rs⟩
              · rw [r0]
                have SZ6 := Lib.hid (stt_size S6.out (by omega))
                generalize hz6 : (zs (shP L6)).sum = z6 at SZ6 rs ZL
                have en : (z6 : Int) = ((zz : Int) + 3 + (a.size : Int) + (vv.size : Int) - 3 - (a.size : Int) - (v0.size : Int)) := by omega
                have en2 : ((z6 : Int) != ((zz : Int) + 3 + (a.size : Int) + (vv.size : Int) - 3 - (a.size : Int) - (v0.size : Int))) = false := by rw [en]; simp
                clear hz6 r0
                go_wp2_with fail
                refine SZ6.out.mono ?_
                rintro e w7 ⟨rfl, q7⟩
                have S7 : Hid (Stt w7 w.heap.size base gs gj g P L6) := S6.out.below q7
                have B7 : Hid (Below w.heap.size w w7) := B6.out.trans (q7.mono B6.out.size)
                clear q7 SZ6
                go_wp2
                go_roundw
                case rel => first | exact ⟨i + 1, by omega, by go_num, B7, L6, L6l, S7⟩ | ((repeat apply Exists.intro); refine ⟨?_, rfl⟩; exact ⟨i + 1, by omega, by go_num, B7, L6, L6l, S7⟩)
                case measure => simp [intOf]; omega
              · rw [r5]
                have en : ¬ ((zz : Int) + 3 + (a.size : Int) + (vv.size : Int) - 3 - (a.size : Int) - (v0.size : Int)) ≤ 510 * ((P : Int) - 2) := by omega
                have en2 : decide (((zz : Int) + 3 + (a.size : Int) + (vv.size : Int) - 3 - (a.size : Int) - (v0.size : Int)) ≤ 510 * ((P : Int) - 2)) = false := decide_eq_false en
                have wp : IntKind.i64.wrap ((P : Int) - 2) = (P : Int) - 2 := by rw [IntKind.wrap_i64]; omega
                have wp2 : IntKind.i64.wrap (510 * ((P : Int) - 2)) = 510 * ((P : Int) - 2) := by rw [IntKind.wrap_i64]; omega
                clear r5
                go_wp2
                go_roundw
                case rel => first | exact ⟨i + 1, by omega, by go_num, B6, L6, L6l, S6⟩ | ((repeat apply Exists.intro); refine ⟨?_, rfl⟩; exact ⟨i + 1, by omega, by go_num, B6, L6, L6l, S6⟩)
                case measure => simp [intOf]; omega
theorem shelfRoom_w (w : World) (pages : Int) (_ : (Lit.int .i64 pages).wf = true) (v1 : Value) (l1 : List SOp) (h1 : RdSOps w v1 l1) (v2 : Value) (l2 : List SOp) (h2 : RdSOps w v2 l2) :
    Calls Try.prog 3 #[.int .i64 pages, v1, v2] w fun e w' => e = .returned (.bool true) ∧ Below w.heap.size w w' := shelfRoom_walk w pages v1 v2 l1 l2 h1 h2
end Go.Proofs.Ytoolkamajlgcbaa
