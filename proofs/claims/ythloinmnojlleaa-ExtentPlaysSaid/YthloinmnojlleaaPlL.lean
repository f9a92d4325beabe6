/- PlL: the walk of alike (written by gen_alike.py). -/
import Derived.Test.YthloinmnojlleaaPlD
import Derived.Test.YthloinmnojlleaaPlH
import Derived.Test.YthloinmnojlleaaPlI
import Derived.Test.YthloinmnojlleaaReg5
set_option linter.unusedVariables false
set_option linter.unusedSimpArgs false
namespace Go.Proofs.Ythloinmnojlleaa
open Go.RowKit

theorem runsA_few {b : Bool} {l : List Bool} : (runsA b l).length ≤ l.length := runsK_len b l _
theorem conv_bytes (w' : World) (b o c : Nat) (l : List UInt8) (h : Hid (∀ j (hj : j < l.length), w'.cell? ⟨b, o + j, none⟩ = some (.int .u8 (l[j].toNat : Int)))) : (convert 40 9 (.slice (some ⟨b, o, none⟩) l.length c)).run Try.prog w' = .ok (.string ⟨l.toArray⟩) w' :=
  run_convert_bytes_back (P := Try.prog) w' 40 9 5 ⟨b, o, none⟩ c l Try.underlying40 Try.underlying5 Try.underlying9 (fun j hj => by have := h.out j hj; simpa [Addr.add_lit] using this)
set_option maxHeartbeats 3200000 in
set_option maxRecDepth 100000 in
theorem alike_any (w : World) (F : Nat → Prop) (g : Nat) (a : Ar) (v : Value) (h : IsAr w F g a v) (s : Value) (bits : List Bool) (nx : Nat) (hs : OwnL w 0 s bits) (L : Like a bits nx) :
    Calls Try.prog 21 #[.pointer (some ⟨g, 0, none⟩), .agg #[s, .int .i64 nx]] w fun e w' => e = .returned (.bool true) ∧ Below w.heap.size w w' := by
  have H := Lib.hid h
  have HL := Lib.hid L
  have hmost := h.ok.most
  have few := h.ok.few
  obtain ⟨A, c, rfl⟩ := hs.slice
  have hl : bits.length ≤ 1048576 := by rw [L.len]; exact hmost
  have HR := like_runs L
  have HT := like_taken L
  have hs' : OwnL w 0 (.slice A a.size c) bits := by rw [← L.len]; exact hs
  have hlen := L.len
  rw [hlen]
  have HS := Lib.hid hs'
  have own_in : ∀ w', Below w.heap.size w w' → OwnL w' 0 (.slice A bits.length c) bits := fun w' b => own_touch hs (Touch.of_below b : Touch (fun _ => False) w w') (fun _ _ x => x)
  have HOWN : Hid (∀ w', Below w.heap.size w w' → OwnL w' 0 (.slice A a.size c) bits) := fun w' b => by have := own_in w' b; rw [hlen] at this; exact this
  have R1 : Hid (∀ (w' : World), Below w.heap.size w w' → ∀ b, Calls Try.prog 38 #[.agg #[.slice A a.size c, .int .i64 (nx : Nat)], .bool b] w' fun e w2 => ∃ v, e = .returned v ∧ w2.ownsRow w'.heap.size 30 2 v (runsA b bits).length (sp (runsA b bits)) ∧ Below w'.heap.size w' w2) := fun w' bw b => by have := rruns_any w' 0 (.slice A bits.length c) bits nx (own_in w' bw) hl b; rw [hlen] at this; exact this
  have RE : Hid (∀ (w' : World), Below w.heap.size w w' → Calls Try.prog 40 #[.agg #[.slice A a.size c, .int .i64 (nx : Nat)]] w' fun e w2 => e = .returned (.string ⟨a.enc.toArray⟩) ∧ Below w'.heap.size w' w2) := fun w' bw => by
    have := renc_any w' 0 (.slice A bits.length c) bits nx (own_in w' bw) hl a.holes HR (by rw [hlen]; exact L.ok.lies) few
    rw [hlen] at this
    exact this
  have TF : Hid ((takenL a.size 0 a.holes).length ≤ 1048577) := by unfold Hid; rw [← HT]; have := @runsA_few false bits; omega
  have HHR := Lib.hid HR; have HHT := Lib.hid HT
  have B0 : Hid (Below w.heap.size w (w.alloc (.cells #[.slice A a.size c, .int .i64 (nx : Nat)] 46)).drew) := ((Below.refl _ w).alloc (Nat.le_refl _) _).drew
  have r0 := blk_new w (.cells #[.slice A a.size c, .int .i64 (nx : Nat)] 46)
  obtain ⟨gx, hgx⟩ : ∃ gx, gx = w.heap.size := ⟨_, rfl⟩
  have HGX := Lib.hid hgx
  have R0 : Hid ((w.alloc (.cells #[.slice A a.size c, .int .i64 (nx : Nat)] 46)).drew.heap[gx]? = some (.cells #[.slice A a.size c, .int .i64 (nx : Nat)] 46 (0, 0))) := by rw [hgx]; exact r0
  have k0 := blk_cell R0.out 0; have k1 := blk_cell R0.out 1
  simp only [List.getElem?_toArray, List.getElem?_cons_zero, List.getElem?_cons_succ] at k0 k1
  clear h L hs HR HT hs' own_in r0 hl hlen
  go_enter Try.func21, Try.ntmps21
  clear hgx
  go_wp2_with fail
  rw [show (Value.pointer (some { block := w.heap.size, off := 0 })) = Value.pointer (some { block := gx, off := 0 }) by rw [HGX.out]]
  refine wp_region_flag (fun w' => w'.cell? ⟨gx, 0, none⟩ = some (.slice A a.size c) ∧ w'.cell? ⟨gx, 1, none⟩ = some (.int .i64 (nx : Nat))) [(0, 2), (2, 2), (1, 0), (3, 0), (4, 1), (5, 1)] (by kernel_rfl) (by kernel_rfl) ⟨k0, k1⟩ ?_
  simp only [ordered, List.map_cons, List.map_nil, List.getD_cons_zero, List.getD_cons_succ]
  refine wpF_read (.agg #[.slice A a.size c, .int .i64 (nx : Nat)]) rfl (fun w' hS => by obtain ⟨s1, s2⟩ := hS; go_simp) (fun K hK => ?_)
  go_simp
  refine hK _ ?_
  clear hK K
  refine wpF_read (.agg #[.slice A a.size c, .int .i64 (nx : Nat)]) rfl (fun w' hS => by obtain ⟨s1, s2⟩ := hS; go_simp) (fun K hK => ?_)
  go_simp
  refine hK _ ?_
  clear hK K
  refine wpF_do ?_
  go_wp2_with fail
  refine (R1.out _ B0.out true).mono ?_
  rintro e w1 ⟨v1, rfl, ho, b1⟩
  have B1 : Hid (Below w.heap.size w w1) := B0.out.trans (b1.mono B0.out.size)
  replace k0 := cell_below b1 k0; replace k1 := cell_below b1 k1
  rw [HHR.out] at ho
  have HO1 := Lib.hid ho
  obtain ⟨A1, c1, rfl⟩ := own_slice ho
  clear ho
  clear b1
  go_wp2_with fail
  refine ⟨⟨k0, k1⟩, ?_⟩
  refine wpF_do ?_
  go_wp2_with fail
  refine (R1.out _ B1.out false).mono ?_
  rintro e w2 ⟨v2, rfl, ho, b2⟩
  have B2 : Hid (Below w.heap.size w w2) := B1.out.trans (b2.mono B1.out.size)
  replace k0 := cell_below b2 k0; replace k1 := cell_below b2 k1
  rw [HHT.out] at ho
  have HO2 := Lib.hid ho
  obtain ⟨A2, c2, rfl⟩ := own_slice ho
  clear ho
  have HO1b : Hid (w2.ownsRow _ 30 2 (.slice A1 a.holes.length c1) a.holes.length (sp a.holes)) := own_touch HO1.out (Touch.of_below b2 : Touch (fun _ => False) w1 w2) (fun _ _ x => x)
  clear b2
  go_wp2_with fail
  refine ⟨⟨k0, k1⟩, ?_⟩
  repeat (refine wpF_dry (fun K hK => ?_); go_simp; refine hK _ ?_; clear hK K)
  refine wpF_nil ?_
  have K0 := Lib.hid k0; have K1 := Lib.hid k1
  go_wp2_with fail
  go_loopw [7, 8, 9, 14] (fun ff mm ii i2 wr => ∃ k : Nat, k ≤ a.holes.length ∧ ii = .int .i64 k ∧ ff = .int .i64 (((a.holes.take k).map Prod.snd).foldl (· + ·) 0 : Nat) ∧ mm = .int .i64 (((a.holes.take k).map Prod.snd).foldl max 0 : Nat) ∧ Hid (Below w2.heap.size w2 wr)) (fun _ _ ii _ _ => a.holes.length - (intOf ii).toNat)
  case atStart => exact ⟨0, Nat.zero_le _, rfl, rfl, rfl, Below.refl _ _⟩
  case round =>
    obtain ⟨k, hk, rfl, rfl, rfl, BW⟩ := hrel
    clear k0 k1
    by_cases hlt : k < a.holes.length
    · obtain ⟨g1, cc, e1, _, _, hc⟩ := row_at HO1b.out (by omega)
      injection e1 with e1 e2 e3
      subst e1
      obtain ⟨z1, z2⟩ := hc k hlt
      have z2 := cell_below BW.out z2
      have S1 := Lib.hid (fold_snoc a.holes k hlt (· + ·)); have S2 := Lib.hid (fold_snoc a.holes k hlt max)
      have BD : ((a.holes.take k).map Prod.snd).foldl (· + ·) 0 + a.holes[k].2 ≤ 1048577 := by rw [← S1.out]; have := lies_sum (lies_take (k + 1) H.out.ok.lies) (by omega); omega
      generalize a.holes[k] = x at z2 S1 S2 BD
      generalize hs1 : ((a.holes.take k).map Prod.snd).foldl (· + ·) 0 = p at S1 BD ⊢
      generalize hs2 : ((a.holes.take k).map Prod.snd).foldl max 0 = q at S2 ⊢
      clear hc e2 e3 hs1 hs2 z1
      obtain ⟨r, hr⟩ : ∃ r, r = p + x.2 := ⟨_, rfl⟩
      have hr1 : (p : Int) + (x.2 : Int) = (r : Int) := by omega
      have hr2 : IntKind.i64.wrap (r : Int) = (r : Int) := by rw [IntKind.wrap_i64]; omega
      have HRR := Lib.hid hr
      clear hr
      go_wp2
      go_roundw
      case rel => first | exact ⟨k + 1, hlt, by go_num, congrArg (Value.int .i64) (by rw [S1.out, HRR.out]), congrArg (Value.int .i64) (by rw [S2.out]; omega), BW⟩ | ((repeat apply Exists.intro); refine ⟨?_, rfl⟩; exact ⟨k + 1, hlt, by go_num, congrArg (Value.int .i64) (by rw [S1.out, HRR.out]), congrArg (Value.int .i64) (by rw [S2.out]; omega), BW⟩)
      case measure => simp [intOf]; omega
    · obtain rfl : k = a.holes.length := by omega
      have e1 : ((a.holes.take a.holes.length).map Prod.snd).foldl (· + ·) 0 = a.free := by rw [List.take_length]; rfl
      have e2 : ((a.holes.take a.holes.length).map Prod.snd).foldl max 0 = a.largest := by rw [List.take_length]; rfl
      rw [e1, e2]
      clear e1 e2
      have B3 : Hid (Below w.heap.size w wr.drew) := (B2.out.trans (BW.out.mono B2.out.size)).drew
      have k0 := cell_below BW.out.drew K0.out; have k1 := cell_below BW.out.drew K1.out
      have HO1c : Hid (∀ w', Below w2.heap.size w2 w' → w'.ownsRow _ 30 2 (.slice A1 a.holes.length c1) a.holes.length (sp a.holes)) := fun w' b => own_touch HO1b.out (Touch.of_below b : Touch (fun _ => False) w2 w') (fun _ _ x => x)
      have HO2c : Hid (∀ w', Below w2.heap.size w2 w' → w'.ownsRow _ 30 2 (.slice A2 (takenL a.size 0 a.holes).length c2) (takenL a.size 0 a.holes).length (sp (takenL a.size 0 a.holes))) := fun w' b => own_touch HO2.out (Touch.of_below b : Touch (fun _ => False) w2 w') (fun _ _ x => x)
      have D3 : Hid (Below w2.heap.size w2 wr.drew) := BW.out.drew
      clear BW
      go_wp2_with fail
      refine wp_region_plan (fun w' => w'.cell? ⟨gx, 0, none⟩ = some (.slice A a.size c) ∧ w'.cell? ⟨gx, 1, none⟩ = some (.int .i64 (nx : Nat))) (.op 0 1 (.op 2 1 (.op 3 2 (.op 4 1 (.op 1 0 (.op 5 1 (.op 6 1 (.op 7 1 (.op 9 1 (.op 8 0 (.op 10 1 (.op 11 1 (.op 12 1 (.op 13 1 (.op 15 1 (.op 14 0 (.op 16 1 (.op 17 1 (.op 18 1 (.op 19 1 (.op 21 1 (.op 20 0 (.op 22 0 (.op 23 1 (.op 24 1 (.op 25 1 (.op 27 1 (.op 26 0 (.op 28 0 (.op 29 1 (.op 30 1 (.op 31 1 (.op 34 2 (.op 32 0 (.two 33 (.op 35 0 (.op 36 1 (.op 37 1 (.op 38 1 .done)))) 35 (.op 33 0 (.op 36 1 (.op 37 1 (.op 38 1 .done))))))))))))))))))))))))))))))))))))))) (by kernel_rfl) (by kernel_rfl) ⟨k0, k1⟩ ?_
      repeat (refine wpP_dry (fun K hK => ?_); simp only [List.getD_cons_zero, List.getD_cons_succ]; go_simp; refine hK _ ?_; clear hK K)
      refine wpP_read (.slice A a.size c) rfl (fun w' hS => by obtain ⟨s1, s2⟩ := hS; simp only [List.getD_cons_zero, List.getD_cons_succ]; go_simp) (fun K hK => ?_)
      simp only [List.getD_cons_zero, List.getD_cons_succ]
      go_simp
      refine hK _ ?_
      clear hK K
      repeat (refine wpP_dry (fun K hK => ?_); simp only [List.getD_cons_zero, List.getD_cons_succ]; go_simp; refine hK _ ?_; clear hK K)
      refine wpP_do ?_
      simp only [List.getD_cons_zero, List.getD_cons_succ]
      go_wp2_with fail
      refine (size_any _ F g a _ (H.out.below B3.out)).mono ?_
      rintro e w4 ⟨rfl, rfl⟩
      go_wp2_with fail
      refine ⟨⟨k0, k1⟩, ?_⟩
      repeat (refine wpP_dry (fun K hK => ?_); simp only [List.getD_cons_zero, List.getD_cons_succ]; go_simp; refine hK _ ?_; clear hK K)
      refine wpP_do ?_
      simp only [List.getD_cons_zero, List.getD_cons_succ]
      go_wp2_with fail
      refine (free_any _ F g a _ (H.out.below B3.out)).mono ?_
      rintro e w5 ⟨rfl, b5⟩
      have B5 : Hid (Below w.heap.size w w5) := B3.out.trans (b5.mono B3.out.size)
      replace k0 := cell_below b5 k0; replace k1 := cell_below b5 k1
      have D5 : Hid (Below w2.heap.size w2 w5) := D3.out.trans (b5.mono D3.out.size)
      clear b5
      go_wp2_with fail
      refine ⟨⟨k0, k1⟩, ?_⟩
      repeat (refine wpP_dry (fun K hK => ?_); simp only [List.getD_cons_zero, List.getD_cons_succ]; go_simp; refine hK _ ?_; clear hK K)
      refine wpP_do ?_
      simp only [List.getD_cons_zero, List.getD_cons_succ]
      go_wp2_with fail
      refine (largest_any _ F g a _ (H.out.below B5.out)).mono ?_
      rintro e w6 ⟨rfl, b6⟩
      have B6 : Hid (Below w.heap.size w w6) := B5.out.trans (b6.mono B5.out.size)
      replace k0 := cell_below b6 k0; replace k1 := cell_below b6 k1
      have D6 : Hid (Below w2.heap.size w2 w6) := D5.out.trans (b6.mono D5.out.size)
      clear b6
      go_wp2_with fail
      refine ⟨⟨k0, k1⟩, ?_⟩
      repeat (refine wpP_dry (fun K hK => ?_); simp only [List.getD_cons_zero, List.getD_cons_succ]; go_simp; refine hK _ ?_; clear hK K)
      refine wpP_do ?_
      simp only [List.getD_cons_zero, List.getD_cons_succ]
      go_wp2_with fail
      refine (holes_any _ F g a _ (H.out.below B6.out)).mono ?_
      rintro e w7 ⟨v7, rfl, ho, b7⟩
      have B7 : Hid (Below w.heap.size w w7) := B6.out.trans (b7.mono B6.out.size)
      replace k0 := cell_below b7 k0; replace k1 := cell_below b7 k1
      have D7 : Hid (Below w2.heap.size w2 w7) := D6.out.trans (b7.mono D6.out.size)
      have HO7 := Lib.hid ho
      obtain ⟨A7, c7, rfl⟩ := own_slice ho
      clear ho
      clear b7
      go_wp2_with fail
      refine ⟨⟨k0, k1⟩, ?_⟩
      refine wpP_do ?_
      simp only [List.getD_cons_zero, List.getD_cons_succ]
      go_wp2_with fail
      refine (same_yes _ _ _ _ _ a.holes HO7.out (HO1c.out _ D7.out) few).mono ?_
      rintro e w8 ⟨rfl, b8⟩
      have B8 : Hid (Below w.heap.size w w8) := B7.out.trans (b8.mono B7.out.size)
      replace k0 := cell_below b8 k0; replace k1 := cell_below b8 k1
      have D8 : Hid (Below w2.heap.size w2 w8) := D7.out.trans (b8.mono D7.out.size)
      clear b8
      go_wp2_with fail
      refine ⟨⟨k0, k1⟩, ?_⟩
      repeat (refine wpP_dry (fun K hK => ?_); simp only [List.getD_cons_zero, List.getD_cons_succ]; go_simp; refine hK _ ?_; clear hK K)
      refine wpP_do ?_
      simp only [List.getD_cons_zero, List.getD_cons_succ]
      go_wp2_with fail
      refine (taken_any _ F g a _ (H.out.below B8.out)).mono ?_
      rintro e w9 ⟨v9, rfl, ho, b9⟩
      have B9 : Hid (Below w.heap.size w w9) := B8.out.trans (b9.mono B8.out.size)
      replace k0 := cell_below b9 k0; replace k1 := cell_below b9 k1
      have D9 : Hid (Below w2.heap.size w2 w9) := D8.out.trans (b9.mono D8.out.size)
      have HO9 := Lib.hid ho
      obtain ⟨A9, c9', rfl⟩ := own_slice ho
      clear ho
      clear b9
      go_wp2_with fail
      refine ⟨⟨k0, k1⟩, ?_⟩
      refine wpP_do ?_
      simp only [List.getD_cons_zero, List.getD_cons_succ]
      go_wp2_with fail
      refine (same_yes _ _ _ _ _ (takenL a.size 0 a.holes) HO9.out (HO2c.out _ D9.out) TF.out).mono ?_
      rintro e w10 ⟨rfl, b10⟩
      have B10 : Hid (Below w.heap.size w w10) := B9.out.trans (b10.mono B9.out.size)
      replace k0 := cell_below b10 k0; replace k1 := cell_below b10 k1
      have D10 : Hid (Below w2.heap.size w2 w10) := D9.out.trans (b10.mono D9.out.size)
      clear b10
      go_wp2_with fail
      refine ⟨⟨k0, k1⟩, ?_⟩
      repeat (refine wpP_dry (fun K hK => ?_); simp only [List.getD_cons_zero, List.getD_cons_succ]; go_simp; refine hK _ ?_; clear hK K)
      refine wpP_read (.agg #[.slice A a.size c, .int .i64 (nx : Nat)]) rfl (fun w' hS => by obtain ⟨s1, s2⟩ := hS; simp only [List.getD_cons_zero, List.getD_cons_succ]; go_simp) (fun K hK => ?_)
      simp only [List.getD_cons_zero, List.getD_cons_succ]
      go_simp
      refine hK _ ?_
      clear hK K
      refine wpP_do ?_
      simp only [List.getD_cons_zero, List.getD_cons_succ]
      go_wp2_with fail
      refine (enc_any _ F g a _ (H.out.below B10.out)).mono ?_
      rintro e w11 ⟨v11, rfl, ho, b11⟩
      have B11 : Hid (Below w.heap.size w w11) := B10.out.trans (b11.mono B10.out.size)
      replace k0 := cell_below b11 k0; replace k1 := cell_below b11 k1
      obtain ⟨bb, oo, c9, rfl, _, hcb⟩ := ho.rd.at_ (by unfold Ar.enc; have := putN_pos a.size; simp; omega)
      have HB : Hid (∀ j (hj : j < a.enc.length), w11.cell? ⟨bb, oo + j, none⟩ = some (.int .u8 (a.enc[j].toNat : Int))) := hcb
      have CV := conv_bytes w11 bb oo c9 a.enc HB
      obtain ⟨EL, hEL⟩ : ∃ EL, EL = a.enc.length := ⟨_, rfl⟩
      rw [← hEL] at CV
      simp only [← hEL]
      have HEL := Lib.hid hEL
      clear ho hcb b11 hEL
      go_wp2_with fail
      refine ⟨⟨k0, k1⟩, ?_⟩
      refine wpP_two ?_ ?_
      · simp only [List.getD_cons_zero, List.getD_cons_succ]
        go_wp2_with fail
        refine ⟨⟨k0, k1⟩, ?_⟩
        refine wpP_do ?_
        simp only [List.getD_cons_zero, List.getD_cons_succ]
        go_wp2_with fail
        refine (RE.out _ B11.out).mono ?_
        rintro e w12 ⟨rfl, b12⟩
        have B12 : Hid (Below w.heap.size w w12) := B11.out.trans (b12.mono B11.out.size)
        replace k0 := cell_below b12 k0; replace k1 := cell_below b12 k1
        clear CV
        have CV := conv_bytes w12 bb oo c9 a.enc (fun j hj => cell_below b12 (HB.out j hj))
        rw [← HEL.out] at CV
        clear b12
        go_wp2_with fail
        refine ⟨⟨k0, k1⟩, ?_⟩
        repeat (refine wpP_dry (fun K hK => ?_); simp only [List.getD_cons_zero, List.getD_cons_succ]; go_simp; refine hK _ ?_; clear hK K)
        refine wpP_done ?_
        go_wp2
        go_ret
        exact ⟨rfl, B12.out⟩
      · simp only [List.getD_cons_zero, List.getD_cons_succ]
        go_wp2_with fail
        refine (RE.out _ B11.out).mono ?_
        rintro e w12 ⟨rfl, b12⟩
        have B12 : Hid (Below w.heap.size w w12) := B11.out.trans (b12.mono B11.out.size)
        replace k0 := cell_below b12 k0; replace k1 := cell_below b12 k1
        clear CV
        have CV := conv_bytes w12 bb oo c9 a.enc (fun j hj => cell_below b12 (HB.out j hj))
        rw [← HEL.out] at CV
        clear b12
        go_wp2_with fail
        refine ⟨⟨k0, k1⟩, ?_⟩
        refine wpP_do ?_
        simp only [List.getD_cons_zero, List.getD_cons_succ]
        go_wp2_with fail
        refine ⟨⟨k0, k1⟩, ?_⟩
        repeat (refine wpP_dry (fun K hK => ?_); simp only [List.getD_cons_zero, List.getD_cons_succ]; go_simp; refine hK _ ?_; clear hK K)
        refine wpP_done ?_
        go_wp2
        go_ret
        exact ⟨rfl, B12.out⟩
end Go.Proofs.Ythloinmnojlleaa
