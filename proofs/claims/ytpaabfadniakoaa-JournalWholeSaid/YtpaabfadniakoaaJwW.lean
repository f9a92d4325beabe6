/- JwW: the walk of the law JournalWhole. -/
import Derived.Test.YtpaabfadniakoaaJwT
import Derived.Test.YtpaabfadniakoaaJwQ
import Derived.Test.YtpaabfadniakoaaJsB
set_option linter.unusedVariables false
set_option linter.unusedSimpArgs false
namespace Go.Proofs.Ytpaabfadniakoaa
open Go.RowKit

theorem pgK_up {d : Dk} {P : Nat} (h : d.down = false) : pgK d P P = pgK' d P := by
  unfold pgK pgK'
  refine List.map_congr_left (fun i hi => ?_)
  have := List.mem_range.1 hi
  unfold jrd
  rw [if_neg (by omega), if_neg (by rw [h]; decide)]
  simp only
  congr 1
theorem rdPut_below {w w' : World} {A : Option Addr} {l : List PutM} (h : RdPut w A l) (hb : Below w.heap.size w w') : RdPut w' A l := fun hp => by
  obtain ⟨b, off, e, hh⟩ := h hp
  exact ⟨b, off, e, fun j hj => ⟨cell_below hb (hh j hj).1, cell_below hb (hh j hj).2.1, cell_below hb (hh j hj).2.2⟩⟩
theorem setFuse_zero {P : Nat} {X : Nat → Nat → ByteArray} {d : Dk} (h : Back P X d) {n : Int} (hn : 0 ≤ n) : d.setFuseE n = 0 := by
  have hl := h.len
  have hu : d.use 0 = 0 := by unfold Dk.use; rw [if_neg (by rw [h.up]; decide), if_neg (by omega)]
  unfold Dk.setFuseE
  rw [if_pos hu, if_neg (by omega)]
/-- A store behind a commit that was torn, by the pages that it has. -/
def TornTo (P : Nat) (was want : List ByteArray) (e : Int) (d : Dk) : Prop := ∃ wl : List ByteArray, wl.length = P ∧ (∀ s ∈ wl, s.size = 1024) ∧ Back P (qrt wl) d ∧ (wl = want ∨ (e ≠ 0 ∧ wl = was))
theorem torn_to {P : Nat} (hP : P ≤ 128) {d : Dk} (h : Rest P d) {cut : Int} (hc : cut ≤ 9223372036854775807) {ch : List (Int × ByteArray)} (hw : whyE P ch = 0) {e : Int} {d2 : Dk} (hco : CoTo P (d.setFuse cut) ch e d2) (p : List Bool) :
    TornTo P (pgK' d P) (setK (pgK' d P) ch) e (d2.fail p).start := by
  rcases commit_back hP h hc hw hco p with hb | ⟨he, hb⟩
  · exact ⟨_, by rw [setK_len, pgK'_len], setK_size hw _ (pgK'_size h), hb, .inl rfl⟩
  · exact ⟨_, pgK'_len _ _, pgK'_size h, hb, .inr ⟨he, rfl⟩⟩
theorem commitK_len (P : Nat) (M : List Chg) : (commitK P M).length = 8 * M.length + 6 := by
  unfold commitK
  simp only [List.length_append, stepsA_len, stepsB_len, List.length_singleton]
  omega
theorem coto_fw {n P : Nat} {d d' : Dk} {l : List (Int × ByteArray)} {x : Int} (h : CoTo P d l x d') (hf : Fw (n + (8 * l.length + 6)) d) : Fw n d' := by
  cases h with
  | why h => exact hf.mono (by omega)
  | down h hd => exact hf.mono (by omega)
  | none h hd hl => exact hf.mono (by omega)
  | run h hd hl M hM hp =>
    have hlen : M.length = l.length := by rw [← hp.length_eq, List.length_map]
    exact fw_run _ (by rw [commitK_len, hlen]; exact hf)
theorem fw_again {n : Nat} {d : Dk} (hf : Fw n d) (p : List Bool) : Fw n (d.fail p).start := by
  have h1 := hf.w
  have h2 := hf.c
  rw [(fail_start d p).2]
  exact ⟨by show ([] : List Stp).length + n ≤ _; simp; omega, h2⟩
theorem fw_fuse {n : Nat} {d : Dk} (hf : Fw n d) (k : Int) : Fw n (d.setFuse k) := by
  have h1 := hf.w
  have h2 := hf.c
  unfold Dk.setFuse
  split
  · exact ⟨h1, h2⟩
  · exact hf
theorem openK_len (P : Nat) (d : Dk) (m : ByteArray) : (openK P d m).length ≤ 515 := by
  unfold openK
  split
  · simp
  · have := opk_len P d m 128
    simp only [List.length_append, List.length_singleton]
    omega
theorem own_blk {w : World} {base n size g c : Nat} {e : TypeId} {xs : List Value} (h : w.ownsRow base e size (.slice (some ⟨g, 0, none⟩) n c) n xs) : ∃ cur cap, w.heap[g]? = some (.cells cur e (0, 0)) ∧ n ≤ cap ∧ cur.size = cap * size := by
  rcases h.2 with ⟨he, _⟩ | ⟨g', cap', cur, he, _, hblk, q1, _, q3, _⟩
  · cases he
  · cases he
    exact ⟨cur, _, hblk, q1, q3⟩
set_option maxHeartbeats 6400000 in
set_option maxRecDepth 100000 in
theorem journalWhole_walk (w : World) (v : Value) (x : TornM) (hv : RdTorn w v x) :
    Calls Try.prog 7 #[v] w fun e w' => e = .returned (.bool true) ∧ Below w.heap.size w w' := by
  obtain ⟨i0, hi, hz0, hz1, hz2⟩ := info_parts infoSt
  obtain ⟨va, vp, vk, vm, rfl, hx⟩ := hv
  obtain ⟨p, ahead, puts, cut, again, picks, more⟩ := x
  obtain ⟨ha, hp, hk, hm, hcut, hagain⟩ := hx
  obtain ⟨Aa, ca, rfl, ha1, ha2, ha3⟩ := ha
  obtain ⟨Ap, cp, rfl, hp1, hp2, hp3⟩ := hp
  have HK := Lib.hid hk; have HM := Lib.hid hm
  obtain ⟨_, Ak, ck, rfl, hk1, hk2, hk3⟩ := hk
  obtain ⟨_, Am, cm, rfl, hm1, hm2, hm3⟩ := hm
  simp only [tornV] at *
  have r0 := blk_new w (.cells [.int .i64 p, .slice Aa ahead.length ca, .slice Ap puts.length cp, .int .i64 cut, .int .i64 again, .slice Ak picks.length ck, .slice Am more.length cm].toArray 75)
  have B0 : Hid (Below w.heap.size w (w.alloc (.cells [.int .i64 p, .slice Aa ahead.length ca, .slice Ap puts.length cp, .int .i64 cut, .int .i64 again, .slice Ak picks.length ck, .slice Am more.length cm].toArray 75))) := (Below.refl _ w).alloc (Nat.le_refl _) _
  obtain ⟨w0, hw0⟩ : ∃ w0, w0 = w.alloc (.cells [.int .i64 p, .slice Aa ahead.length ca, .slice Ap puts.length cp, .int .i64 cut, .int .i64 again, .slice Ak picks.length ck, .slice Am more.length cm].toArray 75) := ⟨_, rfl⟩
  rw [← hw0] at r0 B0
  have c0 := blk_cell r0 0; have c1 := blk_cell r0 1; have c2 := blk_cell r0 2; have c3 := blk_cell r0 3; have c4 := blk_cell r0 4; have c5 := blk_cell r0 5; have c6 := blk_cell r0 6
  simp only [List.getElem?_toArray, List.getElem?_cons_zero, List.getElem?_cons_succ] at c0 c1 c2 c3 c4 c5 c6
  have K : Hid (∀ W, Below w0.heap.size w0 W → W.cell? ⟨w.heap.size, 0, none⟩ = some (.int .i64 p) ∧ W.cell? ⟨w.heap.size, 2, none⟩ = some (.slice Ap puts.length cp) ∧ W.cell? ⟨w.heap.size, 3, none⟩ = some (.int .i64 cut) ∧ W.cell? ⟨w.heap.size, 4, none⟩ = some (.int .i64 again) ∧ W.cell? ⟨w.heap.size, 5, none⟩ = some (.slice Ak picks.length ck) ∧ W.cell? ⟨w.heap.size, 6, none⟩ = some (.slice Am more.length cm)) := fun W hb =>
    ⟨cell_below hb c0, cell_below hb c2, cell_below hb c3, cell_below hb c4, cell_below hb c5, cell_below hb c6⟩
  have RP : Hid (RdPut w0 Ap puts) := rdPut_below hp3 B0.out
  have RA : Hid (RdPut w0 Aa ahead) := rdPut_below ha3 B0.out
  have RK : Hid (RdB w0 (.slice Ak picks.length ck) picks) := HK.out.touch (Touch.of_below B0.out : Touch (fun _ => False) w w0) (fun _ _ _ x => x)
  have RM : Hid (RdB w0 (.slice Am more.length cm) more) := HM.out.touch (Touch.of_below B0.out : Touch (fun _ => False) w w0) (fun _ _ _ x => x)
  have HCUT := Lib.hid hcut; have HAG := Lib.hid hagain
  clear hcut hagain hk1 hk2 hk3 hm1 hm2 hm3 r0 ha3 hp3 HK HM c2 c3 c4 c5 c6
  rw [hw0] at c0 c1
  by_cases hpp : p < 1 ∨ 6 < p
  · have OP := Lib.hid (opened_no w0 Aa ahead.length ca p hpp)
    have hex : decide (p < 1) = true ∨ (decide (p < 1) = false ∧ decide (6 < p) = true) := by
      by_cases h0 : p < 1
      · exact .inl (by simpa using h0)
      · exact .inr ⟨by simpa using h0, by simp; omega⟩
    clear hpp
    rcases hex with d1 | ⟨d1, d2⟩
    all_goals
      go_enter Try.func7, Try.ntmps7
      go_wp2_with fail
      rw [← hw0]
      refine OP.out.mono ?_
      rintro e w' ⟨rfl, rfl⟩
      rw [hw0]
      go_wp2_with fail
      refine (jlives_any _).mono ?_
      rintro e w9 ⟨rfl, b9⟩
      rw [← hw0] at b9
      have B9 := Lib.hid (B0.out.trans (b9.mono B0.out.size))
      clear b9
      go_wp2
      go_ret
      exact ⟨rfl, B9.out⟩
  · obtain ⟨P, rfl⟩ := Int.eq_ofNat_of_zero_le (show 0 ≤ p by omega)
    have HP : Hid (1 ≤ P ∧ P ≤ 6) := by unfold Hid; omega
    have OP := Lib.hid (opened_any w0 Aa ca ahead RA.out (by omega) ha1 ha2 P HP.out.1 HP.out.2)
    have dp1 : decide ((P : Int) < 1) = false := by simp; omega
    have dp2 : decide (6 < (P : Int)) = false := by simp; omega
    have dp2' : decide (6 < P) = false := by simp; omega
    have dp1' : decide (P < 1) = false := by simp; omega
    clear hpp
    go_enter Try.func7, Try.ntmps7
    go_wp2_with fail
    rw [← hw0]
    refine OP.out.mono ?_
    rintro e w1 ⟨g, gj, rfl, hS⟩
    have HS := Lib.hid hS
    have B1 : Hid (Below w0.heap.size w0 w1) := by
      obtain ⟨F, d, _, _, _, _, _, _, _, h⟩ := hS
      exact h
    clear hS OP c0 c1
    obtain ⟨c0, c2, c3, c4, c5, c6⟩ := K.out _ B1.out
    by_cases hbig : 300 < picks.length ∨ 300 < more.length ∨ 12 < puts.length
    · have hex : (decide ((300 : Int) < (picks.length : Int)) = true) ∨ (decide ((300 : Int) < (picks.length : Int)) = false ∧ decide ((300 : Int) < (more.length : Int)) = true) ∨ (decide ((300 : Int) < (picks.length : Int)) = false ∧ decide ((300 : Int) < (more.length : Int)) = false ∧ decide ((12 : Int) < (puts.length : Int)) = true) := by
        by_cases h0 : 300 < picks.length
        · exact .inl (by simp; omega)
        · by_cases h1 : 300 < more.length
          · exact .inr (.inl ⟨by simp; omega, by simp; omega⟩)
          · exact .inr (.inr ⟨by simp; omega, by simp; omega, by simp; omega⟩)
      clear hbig
      rcases hex with d1 | ⟨d1, d2⟩ | ⟨d1, d2, d3⟩
      all_goals
        have e1 := d1
        first | have e2 := d2 | skip
        first | have e3 := d3 | skip
        simp only [Int.ofNat_lt, show (300 : Int) = ((300 : Nat) : Int) from rfl, show (12 : Int) = ((12 : Nat) : Int) from rfl] at e1
        first | simp only [Int.ofNat_lt, show (300 : Int) = ((300 : Nat) : Int) from rfl, show (12 : Int) = ((12 : Nat) : Int) from rfl] at e2 | skip
        first | simp only [Int.ofNat_lt, show (300 : Int) = ((300 : Nat) : Int) from rfl, show (12 : Int) = ((12 : Nat) : Int) from rfl] at e3 | skip
        go_wp2_with fail
        refine (jlives_any _).mono ?_
        rintro e w9 ⟨rfl, b9⟩
        have B9 : Hid (Below w.heap.size w w9) := B0.out.trans ((B1.out.trans (b9.mono B1.out.size)).mono B0.out.size)
        clear b9
        go_wp2
        go_ret
        exact ⟨rfl, B9.out⟩
    · have d1 : decide ((300 : Int) < (picks.length : Int)) = false := by simp; omega
      have d2 : decide ((300 : Int) < (more.length : Int)) = false := by simp; omega
      have d3 : decide ((12 : Int) < (puts.length : Int)) = false := by simp; omega
      have d1' : decide (300 < picks.length) = false := by simp; omega
      have d2' : decide (300 < more.length) = false := by simp; omega
      have d3' : decide (12 < puts.length) = false := by simp; omega
      have HB : Hid (¬ (300 < picks.length ∨ 300 < more.length ∨ 12 < puts.length)) := hbig
      clear hbig
      obtain ⟨F, d, h1, h2, h3, h4, h5, h6, h7, h8⟩ := HS.out
      have PO := Lib.hid (pagesOf_any w1 F gj g P d h1 h3 h6.sz (by rw [h6.waits]; decide) (by have := HP.out; omega) (by rw [h6.len]; exact Nat.le_refl _))
      rw [pgK_up h6.calm.up] at PO
      have H1 := Lib.hid h1; have H2 := Lib.hid h2; have H3 := Lib.hid h3; have H4 := Lib.hid h4; have H5 := Lib.hid h5; have H6 := Lib.hid h6; have H7 := Lib.hid h7
      have FN : Hid (∀ k, F k → k < w1.heap.size) := fun k hk => h1.lt k hk
      have JN : Hid (gj < w1.heap.size) := lt_of_block h3
      clear h1 h2 h3 h4 h5 h6 h7 h8 HS
      go_wp2_with fail
      refine PO.out.mono ?_
      rintro e w2 ⟨v2, rfl, ho, b2⟩
      obtain ⟨Aw, cw, rfl⟩ := own_slice ho
      obtain ⟨gw, rfl⟩ : ∃ gw, Aw = some ⟨gw, 0, none⟩ := by
        rcases ho.2 with ⟨_, h0⟩ | ⟨g', _, _, e, _⟩
        · have := HP.out; omega
        · injection e with e _ _
          exact ⟨g', e⟩
      have OW := Lib.hid ho
      have GW := Lib.hid (ho.lt gw rfl)
      have B12 := Lib.hid b2
      have B2 : Hid (Below w0.heap.size w0 w2) := B1.out.trans (b2.mono B1.out.size)
      clear ho b2 PO c0 c2 c3 c4 c5 c6
      obtain ⟨c0, c2, c3, c4, c5, c6⟩ := K.out _ B2.out
      go_wp2_with fail
      refine (changes_any w2 Ap cp puts (rdPut_below RP.out B2.out) (by omega)).mono ?_
      rintro e w3 ⟨va, vb, rfl, ha, hb, b3⟩
      obtain ⟨A1, c1, rfl⟩ := own_slice ha
      obtain ⟨A2, cb, rfl⟩ := own_slice hb
      have CZ := Lib.hid (chK_size (l := puts) (k := 12))
      have CN : (chK puts 12).length ≤ 12 := by unfold chK; rw [List.length_map, List.length_take]; omega
      generalize chK puts 12 = ch at ha hb CZ CN ⊢
      have HA := Lib.hid ha; have HBr := Lib.hid hb
      have B23 := Lib.hid b3
      have B3 : Hid (Below w0.heap.size w0 w3) := B2.out.trans (b3.mono B2.out.size)
      clear ha hb b3 c0 c2 c3 c4 c5 c6
      obtain ⟨c0, c2, c3, c4, c5, c6⟩ := K.out _ B3.out
      have WHY := Lib.hid (rwhy_any w3 P (by have := HP.out; omega) A2 cb ch (rdC_gen HBr.out) (by omega) (fun x hx => by have := CZ.out x hx; omega))
      go_wp2_with fail
      refine WHY.out.mono ?_
      rintro e w4 ⟨rfl, b4⟩
      have B34 := Lib.hid b4
      have B4 : Hid (Below w0.heap.size w0 w4) := B3.out.trans (b4.mono B3.out.size)
      clear b4 c0 c2 c3 c4 c5 c6 WHY
      obtain ⟨c0, c2, c3, c4, c5, c6⟩ := K.out _ B4.out
      by_cases hbad : whyE P ch ≠ 0 ∨ cut < 0 ∨ again < 0
      · have hex : (whyE P ch != 0) = true ∨ (whyE P ch = 0 ∧ decide (cut < 0) = true) ∨ (whyE P ch = 0 ∧ decide (cut < 0) = false ∧ decide (again < 0) = true) := by
          by_cases q0 : whyE P ch = 0
          · by_cases q1 : cut < 0
            · exact .inr (.inl ⟨q0, by simpa using q1⟩)
            · exact .inr (.inr ⟨q0, by simpa using q1, by simp; omega⟩)
          · exact .inl (by simpa using q0)
        clear hbad
        rcases hex with q1 | ⟨q1, q2⟩ | ⟨q1, q2, q3⟩
        all_goals
          try rw [q1]
          go_wp2_with fail
          refine (jlives_any _).mono ?_
          rintro e w9 ⟨rfl, b9⟩
          have B9 : Hid (Below w.heap.size w w9) := B0.out.trans ((B4.out.trans (b9.mono B4.out.size)).mono B0.out.size)
          clear b9
          go_wp2
          go_ret
          exact ⟨rfl, B9.out⟩
      · have hy : whyE P ch = 0 := by
          by_cases q0 : whyE P ch = 0
          · exact q0
          · exact absurd (.inl q0) hbad
        have q2 : decide (cut < 0) = false := by simp; omega
        have q3 : decide (again < 0) = false := by simp; omega
        have HCUT0 : Hid (0 ≤ cut) := by unfold Hid; omega
        have HAG0 : Hid (0 ≤ again) := by unfold Hid; omega
        have HY := Lib.hid hy
        rw [hy]
        clear hbad hy
        have B14 : Hid (Below w1.heap.size w1 w4) := B12.out.trans ((B23.out.trans (B34.out.mono B23.out.size)).mono B12.out.size)
        have BK0 : Hid (Back P (qrt (pgK' d P)) d) := ⟨H6.out.calm.ok, H6.out.sz, H6.out.len, H6.out.waits, H6.out.calm.up, rest_val H6.out⟩
        have FU := Lib.hid (fuse_h (H1.out.below B14.out) cut HCUT.out)
        rw [setFuse_zero BK0.out HCUT0.out] at FU
        go_wp2_with fail
        refine FU.out.mono ?_
        rintro e w5 ⟨rfl, F5, t5⟩
        have T5 := Lib.hid t5
        clear t5 FU
        have B5 : Hid (Below w0.heap.size w0 w5) := B4.out.trans (T5.out.touch.below B4.out.size H2.out)
        have B15 : Hid (Touch F w1 w5) := (Touch.of_below B14.out : Touch F w1 w4).trans T5.out.touch (fun _ _ h => h)
        clear c0 c2 c3 c4 c5 c6
        obtain ⟨c0, c2, c3, c4, c5, c6⟩ := K.out _ B5.out
        have OW5 : Hid (w5.ownsRow w1.heap.size 9 1 (.slice (some ⟨gw, 0, none⟩) P cw) P (svs (pgK' d P))) :=
          own_touch (own_touch OW.out (Touch.of_below (B23.out.trans (B34.out.mono B23.out.size)) : Touch (fun _ => False) w2 w4) (fun _ _ x => x)) T5.out.touch (fun k hk hf => by
            injection hk with hk
            have := GW.out; have := FN.out k hf; simp only at hk; omega)
        have ONE : ∀ u ∈ svs (pgK' d P), u.oneCell' = true := fun u hu => by
          unfold svs at hu
          obtain ⟨s, _, rfl⟩ := List.mem_map.1 hu
          rfl
        go_wp2_with (at_builtin; refine wpList_append_own_at _ rfl (.tmp 90) (.tmp 91) 47 rfl w5.heap.size 9 i0 _ 1 16 Try.underlying47 hi hz0 hz1 hz2 rfl (by decide) _ 0 [] rfl (World.ownsRow_made w5 #[] 0 (Nat.le_refl _) (by decide) rfl) ⟨gw, 0, none⟩ P cw (svs (pgK' d P)) rfl (by unfold svs; rw [List.length_map, pgK'_len, Nat.mul_one]) (fun j u hj => ((OW5.out.alloc _).cells (g := gw) rfl) j u hj) ONE (by have := HP.out; unfold maxLen; omega) (by have := HP.out; omega) (by simp) ?_)
        intro v6 w6 ho6 hg6 _ _
        obtain ⟨A6, cw6, rfl⟩ := own_slice ho6
        obtain ⟨bw, rfl⟩ : ∃ bw, A6 = some ⟨bw, 0, none⟩ := by
          rcases ho6.2 with ⟨_, h0⟩ | ⟨g', _, _, e, _⟩
          · have := HP.out; omega
          · injection e with e _ _
            exact ⟨g', e⟩
        have O6 := Lib.hid ho6
        have B56 : Hid (Below w5.heap.size w5 w6) := ((Below.refl w5.heap.size w5).alloc (Nat.le_refl _) _).grown hg6 ((Below.refl w5.heap.size w5).alloc (Nat.le_refl _) _).size (fun j hj => by
          injection hj with hj
          simp only at hj
          omega)
        have BWN : Hid (w5.heap.size ≤ bw) := (ho6.lt bw rfl).1
        have HB5 : Hid (w5.ownsRow w2.heap.size 76 2 (.slice A2 ch.length cb) ch.length (civ ch)) :=
          own_touch (own_touch HBr.out (Touch.of_below B34.out : Touch (fun _ => False) w3 w4) (fun _ _ x => x)) T5.out.touch (fun k hk hf => by
            have := (HBr.out.lt k hk).1; have := FN.out k hf; have := B12.out.size; omega)
        have HA5 : Hid (w5.ownsRow w2.heap.size 44 2 (.slice A1 ch.length c1) ch.length (civ ch)) :=
          own_touch (own_touch HA.out (Touch.of_below B34.out : Touch (fun _ => False) w3 w4) (fun _ _ x => x)) T5.out.touch (fun k hk hf => by
            have := (HA.out.lt k hk).1; have := FN.out k hf; have := B12.out.size; omega)
        clear ho6 hg6 ONE c0 c2 c3 c4 c5 c6 HA HBr
        go_wp2_with fail
        go_loopw [9] (fun i wr => ∃ k : Nat, k ≤ ch.length ∧ i = .int .i64 k ∧ Hid (wr.ownsRow w5.heap.size 9 1 (.slice (some ⟨bw, 0, none⟩) P cw6) P (svs (setK (pgK' d P) (ch.take k)))) ∧ Hid (Below w5.heap.size w5 wr)) (fun i _ => ch.length - (intOf i).toNat)
        case atStart => exact ⟨0, Nat.zero_le _, rfl, O6, B56⟩
        case round =>
          obtain ⟨k, hk, rfl, ho, hb⟩ := hrel
          by_cases hlt : k < ch.length
          · obtain ⟨bb, off, e1, hcs⟩ := (rdC_gen HB5.out) (by omega)
            subst e1
            obtain ⟨z0, z1⟩ := hcs k hlt
            have hbb := (HB5.out.lt bb rfl).2
            have hpg := why_each HY.out ch[k] (List.getElem_mem _)
            have ST := Lib.hid (setK_take hlt (pgK' d P))
            replace z0 := cell_below hb.out.drew z0
            replace z1 := cell_below hb.out.drew z1
            have OD := Lib.hid (own_touch ho.out (Touch.of_below (Below.refl wr.heap.size wr).drew : Touch (fun _ => False) wr wr.drew) (fun _ _ x => x))
            generalize ch[k] = x at z0 z1 ST hpg
            obtain ⟨m, hm⟩ := Int.eq_ofNat_of_zero_le hpg.1
            have hmP : m < P := by omega
            rw [hm] at z0 ST
            have sb := x.2
            generalize x.2 = sx at z1 ST
            obtain ⟨cur, cap', hblk, q1, q3⟩ := own_blk OD.out
            have z2 : ∃ u, wr.drew.cell? ⟨bw, m, none⟩ = some u := by
              rw [blk_cell hblk]
              exact ⟨_, Array.getElem?_eq_getElem (by omega)⟩
            obtain ⟨u, z2⟩ := z2
            have hblk2 : wr.heap[bw]? = some (.cells cur 9 (0, 0)) := hblk
            have z3 : wr.cell? ⟨bw, m, none⟩ = some u := z2
            have z4 : wr.frozen? ⟨bw, m, none⟩ = false := by simp [World.frozen?, hblk2]
            have mP : (m : Int) < (P : Int) := by omega
            have hne : bb ≠ bw := by have := BWN.out; omega
            clear hcs hpg hm
            go_wp2_with fail
            refine wp_region_flag (fun w' => w'.cell? ⟨bb, off + k * 2, none⟩ = some (.int .i64 (m : Int)) ∧ w'.cell? ⟨bb, off + k * 2 + 1, none⟩ = some (.string sx)) [(0, 1), (1, 1), (2, 1), (3, 1), (4, 1), (6, 1), (7, 1), (8, 1), (9, 1), (5, 2), (10, 0), (11, 1), (12, 0)] (by kernel_rfl) (by kernel_rfl) ⟨z0, z1⟩ ?_
            simp only [ordered, List.map_cons, List.map_nil, List.getD_cons_zero, List.getD_cons_succ]
            repeat (refine wpF_dry (fun K hK => ?_); go_simp; refine hK _ ?_; clear hK K)
            refine wpF_read (.int .i64 (m : Int)) rfl (fun w' hS => by obtain ⟨s1, s2⟩ := hS; go_simp) (fun K hK => ?_)
            go_simp
            refine hK _ ?_
            clear hK K
            refine wpF_do ?_
            go_wp2_with fail
            refine ⟨⟨z0, z1⟩, ?_⟩
            repeat (refine wpF_dry (fun K hK => ?_); go_simp; refine hK _ ?_; clear hK K)
            refine wpF_do ?_
            go_wp2_with fail
            have y0 : (wr.setCell ⟨bw, m, none⟩ (.string sx)).drew.cell? ⟨bb, off + k * 2, none⟩ = some (.int .i64 (m : Int)) := (World.cell?_of_block (blk_set_ne (fun e => hne e.symm) _)).trans z0
            have y1 : (wr.setCell ⟨bw, m, none⟩ (.string sx)).drew.cell? ⟨bb, off + k * 2 + 1, none⟩ = some (.string sx) := (World.cell?_of_block (blk_set_ne (fun e => hne e.symm) _)).trans z1
            refine ⟨⟨y0, y1⟩, ?_⟩
            refine wpF_nil ?_
            have O2 : Hid ((wr.setCell ⟨bw, m, none⟩ (.string sx)).drew.ownsRow w5.heap.size 9 1 (.slice (some ⟨bw, 0, none⟩) P cw6) P (svs (setK (pgK' d P) (ch.take (k + 1))))) := by
              have := own_touch (ho.out.stored m (.string sx)).1 (Touch.of_below (Below.refl _ _).drew : Touch (fun _ => False) _ (wr.setCell ⟨bw, m, none⟩ (.string sx)).drew) (fun _ _ x => x)
              unfold Hid
              rw [ST.out]
              unfold svs at *
              rw [List.map_set]
              exact this
            have B2 : Hid (Below w5.heap.size w5 (wr.setCell ⟨bw, m, none⟩ (.string sx)).drew) := (hb.out.setCell (p := ⟨bw, m, none⟩) BWN.out _).drew
            clear y0 y1 z0 z1 z2
            go_wp2
            go_roundw
            case rel => first | exact ⟨k + 1, hlt, by go_num, O2, B2⟩ | ((repeat apply Exists.intro); refine ⟨?_, rfl⟩; exact ⟨k + 1, hlt, by go_num, O2, B2⟩)
            case measure => simp [intOf]; omega
          · have hkn : k = ch.length := by omega
            subst hkn
            rw [List.take_length] at ho
            have OWr := Lib.hid (own_touch OW5.out (Touch.of_below hb.out : Touch (fun _ => False) w5 wr) (fun _ _ x => x))
            have HF5 : Hid (∀ j, F5 j → w0.heap.size ≤ j) := fun j hj => (T5.out.new j hj).elim (H2.out j) (fun h => Nat.le_trans B4.out.size h)
            have D0 := Lib.hid (T5.out.has.below hb.out)
            have J0 := Lib.hid (((H3.out.below B14.out).touch T5.out.touch H4.out).below hb.out)
            have NJ : Hid (¬ F5 gj) := fun h => (T5.out.new _ h).elim H4.out (fun h => by have := JN.out; have := B14.out.size; omega)
            have NW : Hid (∀ k, (Value.slice (some ⟨gw, 0, none⟩) P cw).ownBlock = some k → ¬ F5 k) := fun k hk hf => by
              injection hk with hk
              simp only at hk
              have := GW.out
              rcases T5.out.new k hf with h | h
              · have := FN.out k h; omega
              · have := B23.out.size; have := B34.out.size; omega
            have NB : Hid (∀ k, (Value.slice (some ⟨bw, 0, none⟩) P cw6).ownBlock = some k → ¬ F5 k) := fun k hk hf => by
              injection hk with hk
              simp only at hk
              have := BWN.out
              have := T5.out.has.lt k hf
              omega
            have Br : Hid (Below w0.heap.size w0 wr) := B5.out.trans (hb.out.mono B5.out.size)
            have RC : RdC wr A1 ch := (rdC_own HA5.out).below hb.out
            have FW0 : Hid (Fw 100000 d) := ⟨by rw [H6.out.waits]; simp, by have := H7.out; omega⟩
            have CO := Lib.hid (commit_any wr F5 gj g P (d.setFuse cut) D0.out J0.out NJ.out (by have := HP.out; omega) A1 c1 ch RC (by omega) (fun x hx => by have := CZ.out x hx; omega) ((fw_fuse FW0.out cut).mono (by omega)))
            have OB := Lib.hid ho.out
            clear RC hb ho D0 J0
            go_wp2_with fail
            refine CO.out.mono ?_
            rintro e w7 ⟨ce, d7, F7, rfl, hco, t7⟩
            have T7 := Lib.hid t7
            have FW7 : Hid (Fw 50000 d7) := coto_fw hco ((fw_fuse FW0.out cut).mono (by omega))
            have B7 : Hid (Below w0.heap.size w0 w7) := Br.out.trans (t7.touch.below Br.out.size HF5.out)
            have HF7 : Hid (∀ j, F7 j → w0.heap.size ≤ j) := fun j hj => (t7.new j hj).elim (HF5.out j) (fun h => Nat.le_trans Br.out.size h)
            have TT := Lib.hid (torn_to (by have := HP.out; omega) H6.out HCUT.out HY.out hco picks)
            have FH := Lib.hid (fail_h t7.has (by have := FW7.out.w; omega) (.slice Ak picks.length ck) picks (RK.out.touch (Touch.of_below B7.out : Touch (fun _ => False) w0 w7) (fun _ _ _ x => x)) (RK.out.far (Nat.le_refl _) HF7.out))
            clear t7 CO hco
            obtain ⟨c0, c2, c3, c4, c5, c6⟩ := K.out _ B7.out
            go_wp2_with fail
            refine FH.out.mono ?_
            rintro e w8 ⟨rfl, F8, t8⟩
            have T8 := Lib.hid (T7.out.then t8)
            have ST := Lib.hid (start_h t8.has)
            rw [(fail_start d7 picks).1] at ST
            have B8 : Hid (Below w0.heap.size w0 w8) := Br.out.trans (T8.out.touch.below Br.out.size HF5.out)
            clear t8 FH c0 c2 c3 c4 c5 c6
            obtain ⟨c0, c2, c3, c4, c5, c6⟩ := K.out _ B8.out
            go_wp2_with fail
            refine ST.out.mono ?_
            rintro e w9 ⟨rfl, F9, t9⟩
            have T9 := Lib.hid (T8.out.then t9)
            have B9 : Hid (Below w0.heap.size w0 w9) := Br.out.trans (T9.out.touch.below Br.out.size HF5.out)
            have FW9 : Hid (Fw 50000 (d7.fail picks).start) := fw_again FW7.out picks
            obtain ⟨wl, hwl, hws, hback, hor⟩ := TT.out
            have WL := Lib.hid hwl; have WS := Lib.hid hws; have HO := Lib.hid hor; have BK := Lib.hid hback
            have FU := Lib.hid (fuse_h T9.out.has again HAG.out)
            rw [setFuse_zero hback HAG0.out] at FU
            clear t9 ST c0 c2 c3 c4 c5 c6 hwl hws hor hback TT
            generalize (d7.fail picks).start = d9 at FU FW9 BK T9
            obtain ⟨c0, c2, c3, c4, c5, c6⟩ := K.out _ B9.out
            go_wp2_with fail
            refine FU.out.mono ?_
            rintro e w10 ⟨rfl, F10, t10⟩
            have T10 := Lib.hid (T9.out.then t10)
            have B10 : Hid (Below w0.heap.size w0 w10) := Br.out.trans (T10.out.touch.below Br.out.size HF5.out)
            have BK10 := Lib.hid (back_fuse BK.out again HAG.out).1
            have FW10 : Hid (Fw 50000 (d9.setFuse again)) := fw_fuse FW9.out again
            generalize d9.setFuse again = d10 at T10 BK10 FW10
            have OP := Lib.hid (open_any w10 F10 g P d10 T10.out.has BK10.out.sto HP.out.1 (by have := HP.out; omega) (FW10.out.mono (by omega)))
            have OC := Lib.hid (open_back (by have := HP.out; omega) BK10.out)
            have FWr : Hid (Fw 40000 (run d10 (openK P d10 (d10.read 0).1)).1) := fw_run _ (FW10.out.mono (by have := openK_len P d10 (d10.read 0).1; omega))
            unfold OpenTo at OP
            generalize run d10 (openK P d10 (d10.read 0).1) = r at OP OC FWr
            clear t10 FU c0 c2 c3 c4 c5 c6
            obtain ⟨c0, c2, c3, c4, c5, c6⟩ := K.out _ B10.out
            obtain ⟨d11, f11⟩ := r
            simp only at OP OC FWr
            go_wp2_with fail
            refine OP.out.mono ?_
            rintro e w11 ⟨v11, F11, rfl, t11, hv11⟩
            have T11 := Lib.hid (T10.out.then t11)
            have B11 : Hid (Below w0.heap.size w0 w11) := Br.out.trans (T11.out.touch.below Br.out.size HF5.out)
            clear t11 OP c0 c2 c3 c4 c5 c6
            obtain ⟨c0, c2, c3, c4, c5, c6⟩ := K.out _ B11.out
            rcases OC.out with ⟨hf, hh⟩ | ⟨hf, hdn, hall⟩
            focus
              subst hf
              rw [if_pos rfl] at hv11
              obtain ⟨gk, rfl, hj11, hnk, _⟩ := hv11
              have NK := Lib.hid hnk
              have UP := Lib.hid (up_h T11.out.has)
              rw [hh.back.up] at UP
              have HM := Lib.hid hh
              have JK := Lib.hid hj11
              have TJ := Lib.hid T11.out
              have BJ := Lib.hid B11.out
              clear hh hj11 hnk OC
              go_wp2_with fail
              refine UP.out.mono ?_
              rintro e w' ⟨rfl, rfl⟩
              clear UP c0 c2 c3 c4 c5 c6
              go_wp2_with fail
            rotate_left
            focus
              subst hf
              rw [if_neg (by decide)] at hv11
              subst hv11
              have HALL := Lib.hid (hall more)
              clear hall hdn OC
              have HF11 : Hid (∀ j, F11 j → w0.heap.size ≤ j) := fun j hj => (T11.out.new j hj).elim (HF5.out j) (fun h => Nat.le_trans Br.out.size h)
              have FH := Lib.hid (fail_h T11.out.has (by have := FWr.out.w; omega) (.slice Am more.length cm) more (RM.out.touch (Touch.of_below B11.out : Touch (fun _ => False) w0 w11) (fun _ _ _ x => x)) (RM.out.far (Nat.le_refl _) HF11.out))
              go_wp2_with fail
              refine FH.out.mono ?_
              rintro e w12 ⟨rfl, F12, t12⟩
              have T12 := Lib.hid (T11.out.then t12)
              have ST := Lib.hid (start_h t12.has)
              rw [(fail_start d11 more).1] at ST
              have B12' : Hid (Below w0.heap.size w0 w12) := Br.out.trans (T12.out.touch.below Br.out.size HF5.out)
              clear t12 FH c0 c2 c3 c4 c5 c6
              obtain ⟨c0, c2, c3, c4, c5, c6⟩ := K.out _ B12'.out
              go_wp2_with fail
              refine ST.out.mono ?_
              rintro e w13 ⟨rfl, F13, t13⟩
              have T13 := Lib.hid (T12.out.then t13)
              have B13 : Hid (Below w0.heap.size w0 w13) := Br.out.trans (T13.out.touch.below Br.out.size HF5.out)
              have FW13 : Hid (Fw 40000 (d11.fail more).start) := fw_again FWr.out more
              clear t13 ST c0 c2 c3 c4 c5 c6
              generalize (d11.fail more).start = d13 at HALL FW13 T13
              obtain ⟨c0, c2, c3, c4, c5, c6⟩ := K.out _ B13.out
              have OP := Lib.hid (open_any w13 F13 g P d13 T13.out.has HALL.out.1.sto HP.out.1 (by have := HP.out; omega) (FW13.out.mono (by omega)))
              have OC := Lib.hid (open_again (by have := HP.out; omega) HALL.out.1 HALL.out.2)
              unfold OpenTo at OP
              generalize run d13 (openK P d13 (d13.read 0).1) = r at OP OC
              obtain ⟨d11, f11⟩ := r
              simp only at OP OC
              go_wp2_with fail
              refine OP.out.mono ?_
              rintro e w11 ⟨v11, F11, rfl, t14, hv14⟩
              obtain ⟨hf, hh⟩ := OC.out
              subst hf
              rw [if_pos rfl] at hv14
              obtain ⟨gk, rfl, hj14, hnk, _⟩ := hv14
              have NK := Lib.hid hnk
              have HM := Lib.hid hh
              have JK := Lib.hid hj14
              have TJ := Lib.hid (T13.out.then t14)
              have BJ : Hid (Below w0.heap.size w0 w11) := Br.out.trans (TJ.out.touch.below Br.out.size HF5.out)
              clear hh hj14 hnk t14 OC OP c0 c2 c3 c4 c5 c6
              go_wp2_with fail
            all_goals
              have HF11 : Hid (∀ j, F11 j → w0.heap.size ≤ j) := fun j hj => (TJ.out.new j hj).elim (HF5.out j) (fun h => Nat.le_trans Br.out.size h)
              have FU := Lib.hid (fuse_h TJ.out.has 0 (by decide))
              refine FU.out.mono ?_
              rintro e w15 ⟨rfl, F15, t15⟩
              have T15 := Lib.hid (TJ.out.then t15)
              have HM15 := Lib.hid (home_fuse HM.out 0 (by decide))
              have J15 := Lib.hid (JK.out.touch t15.touch NK.out)
              have B15 : Hid (Below w0.heap.size w0 w15) := Br.out.trans (T15.out.touch.below Br.out.size HF5.out)
              clear t15 FU
              generalize d11.setFuse 0 = d15 at T15 HM15
              have PO := Lib.hid (pagesOf_any w15 F15 gk g P d15 T15.out.has J15.out HM15.out.back.sz (by rw [HM15.out.back.waits]; decide) (by have := HP.out; omega) (by rw [HM15.out.back.len]; exact Nat.le_refl _))
              rw [pgK_up HM15.out.back.up, home_pages HM15.out WL.out WS.out] at PO
              go_wp2_with fail
              refine PO.out.mono ?_
              rintro e w16 ⟨v16, rfl, ho16, b16⟩
              obtain ⟨A16, c16, rfl⟩ := own_slice ho16
              have T16 : Hid (Touch F5 wr w16) := T15.out.touch.trans (Touch.of_below b16 : Touch (fun _ => False) _ _) (fun _ _ x => x.elim)
              have B16 : Hid (Below w0.heap.size w0 w16) := B15.out.trans (b16.mono B15.out.size)
              have O16 := Lib.hid ho16
              have OB16 := Lib.hid (own_touch OB.out T16.out NB.out)
              have OW16 := Lib.hid (own_touch OWr.out T16.out NW.out)
              have SM := Lib.hid (sameTexts_any w16 A16 (some ⟨bw, 0, none⟩) c16 cw6 wl (setK (pgK' d P) ch) (rdT_own (by rw [WL.out]; exact O16.out)) (rdT_own (by rw [setK_len, pgK'_len]; exact OB16.out)) (by rw [WL.out]; have := HP.out; omega) (by rw [setK_len, pgK'_len]; have := HP.out; omega))
              rw [WL.out, setK_len, pgK'_len] at SM
              clear ho16 b16 PO
              by_cases hdone : wl = setK (pgK' d P) ch
              · rw [decide_eq_true hdone] at SM
                clear hdone
                go_wp2_with fail
                refine SM.out.mono ?_
                rintro e w17 ⟨rfl, b17⟩
                have B17 : Hid (Below w0.heap.size w0 w17) := B16.out.trans (b17.mono B16.out.size)
                clear b17 SM
                go_wp2_with fail
                refine (jlives_any _).mono ?_
                rintro e w19 ⟨rfl, b19⟩
                have B19 : Hid (Below w.heap.size w w19) := B0.out.trans ((B17.out.trans (b19.mono B17.out.size)).mono B0.out.size)
                clear b19
                go_wp2
                go_ret
                exact ⟨rfl, B19.out⟩
              · rw [decide_eq_false hdone] at SM
                obtain ⟨hce, hwas⟩ : ce ≠ 0 ∧ wl = pgK' d P := HO.out.resolve_left hdone
                have dce : (ce != 0) = true := by simpa using hce
                have HW := Lib.hid hwas
                clear hdone hce hwas
                go_wp2_with fail
                refine SM.out.mono ?_
                rintro e w17 ⟨rfl, b17⟩
                have B17 : Hid (Below w0.heap.size w0 w17) := B16.out.trans (b17.mono B16.out.size)
                have T17 : Hid (Touch (fun _ => False) w16 w17) := Touch.of_below b17
                have O17 := Lib.hid (own_touch O16.out T17.out (fun _ _ x => x))
                have OW17 := Lib.hid (own_touch OW16.out T17.out (fun _ _ x => x))
                have SM2 := Lib.hid (sameTexts_any w17 A16 (some ⟨gw, 0, none⟩) c16 cw wl (pgK' d P) (rdT_own (by rw [WL.out]; exact O17.out)) (rdT_own (by rw [pgK'_len]; exact OW17.out)) (by rw [WL.out]; have := HP.out; omega) (by rw [pgK'_len]; have := HP.out; omega))
                rw [decide_eq_true HW.out, WL.out, pgK'_len] at SM2
                clear b17 SM
                go_wp2_with fail
                refine SM2.out.mono ?_
                rintro e w18 ⟨rfl, b18⟩
                have B18 : Hid (Below w0.heap.size w0 w18) := B17.out.trans (b18.mono B17.out.size)
                clear b18 SM2
                go_wp2_with fail
                refine (jlives_any _).mono ?_
                rintro e w19 ⟨rfl, b19⟩
                have B19 : Hid (Below w.heap.size w w19) := B0.out.trans ((B18.out.trans (b19.mono B18.out.size)).mono B0.out.size)
                clear b19
                go_wp2
                go_ret
                exact ⟨rfl, B19.out⟩
end Go.Proofs.Ytpaabfadniakoaa
