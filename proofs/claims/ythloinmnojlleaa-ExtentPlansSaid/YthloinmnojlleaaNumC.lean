/- NumC: the walk of Encode (written by gen_num.py). -/
import Derived.Test.YthloinmnojlleaaNumB
set_option linter.unusedVariables false
set_option linter.unusedSimpArgs false
namespace Go.Proofs.Ythloinmnojlleaa
open Go.RowKit

theorem small_pow {n : Nat} (h : n ≤ 1048577) : n < 128 ^ 9 := by
  have : (1048577 : Nat) < 128 ^ 9 := by decide
  omega
set_option maxHeartbeats 1600000 in
set_option maxRecDepth 100000 in
theorem enc_any (w : World) (F : Nat → Prop) (g : Nat) (a : Ar) (v : Value) (h : IsAr w F g a v) :
    Calls Try.prog 17 #[.pointer (some ⟨g, 0, none⟩)] w fun e w' => ∃ v', e = .returned v' ∧ OwnB w' w.heap.size v' a.enc ∧ Below w.heap.size w w' := by
  obtain ⟨c0, c1, _⟩ := h.cells
  have H := Lib.hid h
  have OK := Lib.hid h.ok
  have few := h.ok.few
  have hp := h.ok.pos
  have hm := h.ok.most
  obtain ⟨A, c, rfl⟩ := own_slice h.own
  clear h
  obtain ⟨n, hn⟩ : ∃ n, n = a.holes.length := ⟨_, rfl⟩
  have C0 := Lib.hid c0
  have C1 := Lib.hid c1
  have s1 : (a.size : Int) % 18446744073709551616 = (a.size : Int) := by omega
  have s2 : IntKind.u64.wrap (a.size : Int) = (a.size : Int) := by rw [IntKind.wrap_u64]; omega
  have s3 : (a.holes.length : Int) % 18446744073709551616 = (a.holes.length : Int) := by omega
  have s4 : IntKind.u64.wrap (a.holes.length : Int) = (a.holes.length : Int) := by rw [IntKind.wrap_u64]; omega
  have HS1 : Hid (a.size < 128 ^ 9) := small_pow (by omega)
  have HS2 : Hid (a.holes.length < 128 ^ 9) := small_pow few
  have HP := Lib.hid hp
  have HM := Lib.hid hm
  clear hp hm
  have P1 := Lib.hid (put_any w.drew (.slice none 0 0) [] ⟨none, 0, rfl, Nat.le_refl _, (fun _ => rfl), (fun ad e => by cases e)⟩ a.size HS1.out (by simp))
  go_enter Try.func17, Try.ntmps17
  go_wp2_with fail
  refine wp_region_flag (fun w' => w'.cell? ⟨g, 0, none⟩ = some (.int .i64 (a.size : Nat)) ∧ w'.cell? ⟨g, 1, none⟩ = some (.slice A a.holes.length c)) [(0, 1), (1, 1), (2, 1), (6, 1), (7, 1), (8, 1), (3, 2), (4, 1), (9, 2), (10, 1), (11, 1), (5, 0), (12, 0), (13, 1)] (by kernel_rfl) (by kernel_rfl) ⟨c0, c1⟩ ?_
  simp only [ordered, List.map_cons, List.map_nil, List.getD_cons_zero, List.getD_cons_succ]
  repeat (refine wpF_dry (fun K hK => ?_); go_simp; refine hK _ ?_; clear hK K)
  refine wpF_read (.int .i64 (a.size : Nat)) rfl (fun w' hS => by obtain ⟨s1, s2⟩ := hS; go_simp) (fun K hK => ?_)
  go_simp
  refine hK _ ?_
  clear hK K
  repeat (refine wpF_dry (fun K hK => ?_); go_simp; refine hK _ ?_; clear hK K)
  refine wpF_read (.slice A a.holes.length c) rfl (fun w' hS => by obtain ⟨s1, s2⟩ := hS; go_simp) (fun K hK => ?_)
  go_simp
  refine hK _ ?_
  clear hK K
  repeat (refine wpF_dry (fun K hK => ?_); go_simp; refine hK _ ?_; clear hK K)
  refine wpF_do ?_
  go_wp2_with fail
  refine P1.out.mono ?_
  rintro e w1 ⟨v1, rfl, ho, b1⟩
  obtain ⟨N1, hN1⟩ : ∃ N1, N1 = [] ++ putN a.size := ⟨_, rfl⟩
  rw [← hN1] at ho
  have HN1 := Lib.hid hN1
  have hl1 : N1.length ≤ 9 := by have := putN_len 9 a.size HS1.out (by decide); rw [hN1]; simpa using this
  clear hN1
  have B1 : Hid (Below w.heap.size w w1) := (Below.refl _ w).drew.trans b1
  have P2 := Lib.hid (put_any w1 v1 N1 ho.rd a.holes.length HS2.out (by omega))
  obtain ⟨A1, cc1, rfl⟩ := ho.slice
  have c0 := cell_below B1.out c0; have c1 := cell_below B1.out c1
  clear ho b1 P1
  go_wp2_with fail
  refine ⟨⟨c0, c1⟩, ?_⟩
  refine wpF_do ?_
  go_wp2_with fail
  refine P2.out.mono ?_
  rintro e w2 ⟨v2, rfl, ho, b2⟩
  obtain ⟨N2, hN2⟩ : ∃ N2, N2 = N1 ++ putN a.holes.length := ⟨_, rfl⟩
  rw [← hN2] at ho
  have hl2 : N2.length ≤ 18 := by have := putN_len 9 a.holes.length HS2.out (by decide); rw [hN2, List.length_append]; omega
  have HN2 : Hid (a.enc = N2 ++ encH 0 a.holes) := by unfold Hid Ar.enc; rw [hN2, HN1.out]; simp [List.append_assoc]
  clear hN2
  have B2 : Hid (Below w.heap.size w w2) := B1.out.trans (b2.mono B1.out.size)
  have HO := Lib.hid (ho.base B1.out.size)
  obtain ⟨A2, cc2, rfl⟩ := ho.slice
  have c0 := cell_below b2 c0; have c1 := cell_below b2 c1
  clear ho b2 P2
  go_wp2_with fail
  refine ⟨⟨c0, c1⟩, ?_⟩
  repeat (refine wpF_dry (fun K hK => ?_); go_simp; refine hK _ ?_; clear hK K)
  refine wpF_nil ?_
  go_wp2_with fail
  go_loopw [3, 4, 27] (fun vv aa ii wr => ∃ (k e : Nat) (M : List UInt8), k ≤ a.holes.length ∧ ii = .int .i64 k ∧ aa = .int .i64 e ∧ e ≤ a.size ∧ M.length ≤ 20 + 18 * k ∧ Hid (a.enc = M ++ encH e (a.holes.drop k)) ∧ Hid (Lies a.size e (a.holes.drop k)) ∧ Hid (OwnB wr w.heap.size vv M) ∧ Hid (Below w.heap.size w wr)) (fun _ _ ii _ => a.holes.length - (intOf ii).toNat)
  case atStart => exact ⟨0, 0, N2, Nat.zero_le _, rfl, rfl, Nat.zero_le _, by omega, HN2, OK.out.lies, HO, B2⟩
  case round =>
    obtain ⟨k, e, M, hk, rfl, rfl, hes, hML, HE, HL, HV, BW⟩ := hrel
    clear HO B2 c0 c1
    obtain ⟨A3, c3, rfl⟩ := HV.out.slice
    by_cases hlt : k < a.holes.length
    · obtain ⟨g1, cc, e1, _, _, hc⟩ := row_at H.out.own (by omega)
      injection e1 with e1 e2 e3
      subst e1
      obtain ⟨z1, z2⟩ := hc k hlt
      have z1 := cell_below BW.out z1; have z2 := cell_below BW.out z2
      have hdrop : a.holes.drop k = a.holes[k] :: a.holes.drop (k + 1) := (List.getElem_cons_drop hlt).symm
      rw [hdrop] at HE HL
      generalize a.holes[k] = x at z1 z2 HE HL
      clear hc e2 e3 hdrop
      obtain ⟨l1, l2, l3, l4⟩ := HL.out
      have L4 := Lib.hid l4
      clear l4
      have HE2 : Hid (a.enc = (M ++ putN (x.1 - e)) ++ putN x.2 ++ encH (x.1 + x.2) (a.holes.drop (k + 1))) := by unfold Hid; rw [HE.out, encH]; simp [List.append_assoc]
      obtain ⟨d, hd⟩ : ∃ d, d = x.1 - e := ⟨_, rfl⟩
      rw [← hd] at HE2
      have hd1 : (x.1 : Int) - (e : Int) = (d : Int) := by omega
      have hd2 : IntKind.i64.wrap (d : Int) = (d : Int) := by have := HM.out; rw [IntKind.wrap_i64]; omega
      have hd3 : IntKind.u64.wrap (d : Int) = (d : Int) := by have := HM.out; rw [IntKind.wrap_u64]; omega
      have hd4 : (d : Int) % 18446744073709551616 = (d : Int) := by have := HM.out; omega
      have hx3 : IntKind.u64.wrap (x.2 : Int) = (x.2 : Int) := by have := HM.out; rw [IntKind.wrap_u64]; omega
      have hx4 : (x.2 : Int) % 18446744073709551616 = (x.2 : Int) := by have := HM.out; omega
      obtain ⟨r, hr⟩ : ∃ r, r = x.1 + x.2 := ⟨_, rfl⟩
      have hr1 : (x.1 : Int) + (x.2 : Int) = (r : Int) := by omega
      have hr2 : IntKind.i64.wrap (r : Int) = (r : Int) := by have := HM.out; rw [IntKind.wrap_i64]; omega
      have hs1 : d < 128 ^ 9 := small_pow (by have := HM.out; omega)
      have hs2 : x.2 < 128 ^ 9 := small_pow (by have := HM.out; omega)
      have l1' := putN_len 9 d hs1 (by decide)
      have l2' := putN_len 9 x.2 hs2 (by decide)
      have BB : Hid (Below w.heap.size w (wr.alloc (.cells #[.int .i64 (x.1 : Nat), .int .i64 (x.2 : Nat)] 30)).drew) := (BW.out.alloc BW.out.size _).drew
      have HVB := Lib.hid (HV.out.below ((Below.refl _ wr).alloc (Nat.le_refl _) (.cells #[.int .i64 (x.1 : Nat), .int .i64 (x.2 : Nat)] 30)).drew)
      have r0 := blk_new wr (.cells #[.int .i64 (x.1 : Nat), .int .i64 (x.2 : Nat)] 30)
      have k0 := blk_cell r0 0; have k1 := blk_cell r0 1
      simp only [List.getElem?_toArray, List.getElem?_cons_zero, List.getElem?_cons_succ] at k0 k1
      clear r0
      have P1 := Lib.hid (put_any _ _ M HVB.out.rd d hs1 (by omega))
      have HS := Lib.hid (And.intro hs2 (And.intro hd hr))
      have HL3 := Lib.hid (And.intro l1 (And.intro l2 l3))
      clear hs1 hs2 hd hr l1 l2 l3 HVB HE HL
      go_wp2_with fail
      refine wp_region_flag (fun w' => w'.cell? ⟨wr.heap.size, 0, none⟩ = some (.int .i64 (x.1 : Nat)) ∧ w'.cell? ⟨wr.heap.size, 1, none⟩ = some (.int .i64 (x.2 : Nat))) [(0, 1), (1, 1), (3, 1), (7, 1), (2, 2), (4, 1), (5, 1), (8, 2), (9, 1), (6, 0), (10, 0), (11, 1)] (by kernel_rfl) (by kernel_rfl) ⟨k0, k1⟩ ?_
      simp only [ordered, List.map_cons, List.map_nil, List.getD_cons_zero, List.getD_cons_succ]
      repeat (refine wpF_dry (fun K hK => ?_); go_simp; refine hK _ ?_; clear hK K)
      refine wpF_read (.int .i64 (x.1 : Nat)) rfl (fun w' hS => by obtain ⟨s1, s2⟩ := hS; go_simp) (fun K hK => ?_)
      go_simp
      refine hK _ ?_
      clear hK K
      repeat (refine wpF_dry (fun K hK => ?_); go_simp; refine hK _ ?_; clear hK K)
      refine wpF_read (.int .i64 (x.2 : Nat)) rfl (fun w' hS => by obtain ⟨s1, s2⟩ := hS; go_simp) (fun K hK => ?_)
      go_simp
      refine hK _ ?_
      clear hK K
      repeat (refine wpF_dry (fun K hK => ?_); go_simp; refine hK _ ?_; clear hK K)
      refine wpF_do ?_
      go_wp2_with fail
      refine P1.out.mono ?_
      rintro e2 w4 ⟨v4, rfl, ho, b4⟩
      obtain ⟨M4, hM4⟩ : ∃ M4, M4 = M ++ putN d := ⟨_, rfl⟩
      rw [← hM4] at ho HE2
      have hl4 : M4.length ≤ M.length + 9 := by rw [hM4, List.length_append]; omega
      clear hM4
      have B4 : Hid (Below w.heap.size w w4) := BB.out.trans (b4.mono BB.out.size)
      have k0 := cell_below b4 k0; have k1 := cell_below b4 k1
      have P2 := Lib.hid (put_any w4 v4 _ ho.rd x.2 HS.out.1 (by omega))
      obtain ⟨A4, c4, rfl⟩ := ho.slice
      clear ho b4 P1
      go_wp2_with fail
      refine ⟨⟨k0, k1⟩, ?_⟩
      refine wpF_do ?_
      go_wp2_with fail
      refine P2.out.mono ?_
      rintro e2 w5 ⟨v5, rfl, ho, b5⟩
      obtain ⟨M5, hM5⟩ : ∃ M5, M5 = M4 ++ putN x.2 := ⟨_, rfl⟩
      rw [← hM5] at ho HE2
      have hl5 : M5.length ≤ M.length + 18 := by rw [hM5, List.length_append]; omega
      clear hM5
      have B5 : Hid (Below w.heap.size w w5) := B4.out.trans (b5.mono B4.out.size)
      have k0 := cell_below b5 k0; have k1 := cell_below b5 k1
      have HO := Lib.hid (ho.base B4.out.size)
      obtain ⟨A5, c5, rfl⟩ := ho.slice
      clear ho b5 P2
      go_wp2_with fail
      refine ⟨⟨k0, k1⟩, ?_⟩
      repeat (refine wpF_dry (fun K hK => ?_); go_simp; refine hK _ ?_; clear hK K)
      refine wpF_nil ?_
      go_wp2
      go_roundw
      case rel => exact ⟨k + 1, r, M5, by omega, by go_num, rfl, by have := HL3.out; have := HS.out.2.2; omega, by omega, by rw [HS.out.2.2]; exact HE2, lies_weaken L4.out (by have := HS.out.2.2; omega), HO, B5⟩
      case measure => simp [intOf]; omega
    · obtain rfl : k = a.holes.length := by omega
      have HEN : Hid (a.enc = M) := by unfold Hid; rw [HE.out, List.drop_length, encH, List.append_nil]
      go_wp2
      go_ret
      exact ⟨_, rfl, by rw [HEN.out]; exact HV.out, BW.out⟩
end Go.Proofs.Ythloinmnojlleaa
