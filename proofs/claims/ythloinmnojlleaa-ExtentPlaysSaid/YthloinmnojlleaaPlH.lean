/- PlH: the walk of the document's Encode (written by gen_renc.py). -/
import Derived.Test.YthloinmnojlleaaPlG
import Derived.Test.YthloinmnojlleaaNumC
set_option linter.unusedVariables false
set_option linter.unusedSimpArgs false
namespace Go.Proofs.Ythloinmnojlleaa
open Go.RowKit

theorem bytes_append (a b : List UInt8) : (⟨a.toArray⟩ ++ ⟨b.toArray⟩ : ByteArray) = ⟨(a ++ b).toArray⟩ := by
  apply ByteArray.ext
  simp
set_option maxHeartbeats 1600000 in
set_option maxRecDepth 100000 in
theorem renc_any (w : World) (B : Nat) (s : Value) (bits : List Bool) (nx : Int) (hs : OwnL w B s bits) (hl : bits.length ≤ 1048576) (H : List (Nat × Nat)) (hH : runsA true bits = H) (hL : Lies bits.length 0 H) (few : H.length ≤ 1048577) :
    Calls Try.prog 40 #[.agg #[s, .int .i64 nx]] w fun e w' => e = .returned (.string ⟨(putN bits.length ++ (putN H.length ++ encH 0 H)).toArray⟩) ∧ Below w.heap.size w w' := by
  obtain ⟨A, c, rfl⟩ := hs.slice
  have RR := Lib.hid (rruns_any (w.alloc (.cells #[.slice A bits.length c, .int .i64 nx] 46)) B (.slice A bits.length c) bits nx (hs.below ((Below.refl _ w).alloc (Nat.le_refl _) _)) hl true)
  rw [hH] at RR
  have r0 := blk_new w (.cells #[.slice A bits.length c, .int .i64 nx] 46)
  have B0 : Hid (Below w.heap.size w (w.alloc (.cells #[.slice A bits.length c, .int .i64 nx] 46))) := (Below.refl _ w).alloc (Nat.le_refl _) _
  have k0 := blk_cell r0 0; have k1 := blk_cell r0 1
  simp only [List.getElem?_toArray, List.getElem?_cons_zero, List.getElem?_cons_succ] at k0 k1
  have HL := Lib.hid hL
  clear hs r0 hH hL
  obtain ⟨N, hN⟩ : ∃ N, N = bits.length := ⟨_, rfl⟩
  rw [← hN] at hl HL RR k0 B0 ⊢
  have s1 : (N : Int) % 18446744073709551616 = (N : Int) := by omega
  have s2 : IntKind.u64.wrap (N : Int) = (N : Int) := by rw [IntKind.wrap_u64]; omega
  have s3 : (H.length : Int) % 18446744073709551616 = (H.length : Int) := by omega
  have s4 : IntKind.u64.wrap (H.length : Int) = (H.length : Int) := by rw [IntKind.wrap_u64]; omega
  have HN1 : Hid (N < 128 ^ 9) := small_pow (by omega)
  have HN2 : Hid (H.length < 128 ^ 9) := small_pow few
  have hp1 : ¬ (9223372036854775807 < (putN N).length + (putN H.length).length) := by have := putN_len 9 N HN1.out (by decide); have := putN_len 9 H.length HN2.out (by decide); omega
  have hpn := putN_len 9 N HN1.out (by decide); have hph := putN_len 9 H.length HN2.out (by decide)
  clear hN
  go_enter Try.func40, Try.ntmps40
  go_wp2_with fail
  refine RR.out.mono ?_
  rintro e w1 ⟨v, rfl, ho, b1⟩
  have k0 := cell_below b1 k0
  have B1 : Hid (Below w.heap.size w w1) := B0.out.trans (b1.mono B0.out.size)
  have HO := Lib.hid ho
  obtain ⟨Av, cv, rfl⟩ := own_slice ho
  clear b1 RR ho k1
  go_wp2_with fail
  refine (rput_any 9 N w1 HN1.out (by decide) (by decide)).mono ?_
  rintro e w2 ⟨rfl, b2⟩
  have B2 := Lib.hid b2
  clear b2 k0
  go_wp2_with fail
  refine (rput_any 9 H.length w2 HN2.out (by decide) (by decide)).mono ?_
  rintro e w3 ⟨rfl, b3⟩
  have B3 : Hid (Below w1.heap.size w1 w3) := B2.out.trans (b3.mono B2.out.size)
  clear b3
  go_wp2_with fail
  go_loopw [4, 5, 6, 19] (fun ss aa ii i2 wr => ∃ (k e : Nat) (M : List UInt8), k ≤ H.length ∧ ii = .int .i64 k ∧ aa = .int .i64 e ∧ e ≤ N ∧ ss = .string ⟨M.toArray⟩ ∧ M.length ≤ 20 + 18 * k ∧ Hid (putN N ++ (putN H.length ++ encH 0 H) = M ++ encH e (H.drop k)) ∧ Hid (Lies N e (H.drop k)) ∧ Hid (Below w1.heap.size w1 wr)) (fun _ _ ii _ _ => H.length - (intOf ii).toNat)
  case atStart => exact ⟨0, 0, putN N ++ putN H.length, Nat.zero_le _, rfl, rfl, Nat.zero_le _, congrArg Value.string (bytes_append _ _), by rw [List.length_append]; omega, by unfold Hid; rw [List.append_assoc]; rfl, HL.out, B3⟩
  case round =>
    obtain ⟨k, e, M, hk, rfl, rfl, hes, rfl, hML, HE, HX, BW⟩ := hrel
    clear B3 B2
    by_cases hlt : k < H.length
    · obtain ⟨g1, cc, e1, _, _, hc⟩ := row_at HO.out (by omega)
      injection e1 with e1 e2 e3
      subst e1
      obtain ⟨z1, z2⟩ := hc k hlt
      have z1 := cell_below BW.out.drew z1; have z2 := cell_below BW.out.drew z2
      have hdrop : H.drop k = H[k] :: H.drop (k + 1) := (List.getElem_cons_drop hlt).symm
      rw [hdrop] at HE HX
      generalize H[k] = x at z1 z2 HE HX
      clear hc e2 e3 hdrop
      obtain ⟨l1, l2, l3, l4⟩ := HX.out
      have L4 := Lib.hid l4
      clear l4
      obtain ⟨d, hd⟩ : ∃ d, d = x.1 - e := ⟨_, rfl⟩
      have HE2 : Hid (putN N ++ (putN H.length ++ encH 0 H) = ((M ++ putN d) ++ putN x.2) ++ encH (x.1 + x.2) (H.drop (k + 1))) := by unfold Hid; rw [HE.out, encH, ← hd]; simp [List.append_assoc]
      have hd1 : (x.1 : Int) - (e : Int) = (d : Int) := by omega
      have hd2 : IntKind.i64.wrap (d : Int) = (d : Int) := by rw [IntKind.wrap_i64]; omega
      have hd3 : IntKind.u64.wrap (d : Int) = (d : Int) := by rw [IntKind.wrap_u64]; omega
      have hd4 : (d : Int) % 18446744073709551616 = (d : Int) := by omega
      have hx3 : IntKind.u64.wrap (x.2 : Int) = (x.2 : Int) := by rw [IntKind.wrap_u64]; omega
      have hx4 : (x.2 : Int) % 18446744073709551616 = (x.2 : Int) := by omega
      obtain ⟨r, hr⟩ : ∃ r, r = x.1 + x.2 := ⟨_, rfl⟩
      have hr1 : (x.1 : Int) + (x.2 : Int) = (r : Int) := by omega
      have hr2 : IntKind.i64.wrap (r : Int) = (r : Int) := by rw [IntKind.wrap_i64]; omega
      have HS1 : Hid (d < 128 ^ 9) := small_pow (by omega)
      have HS2 : Hid (x.2 < 128 ^ 9) := small_pow (by omega)
      have q1 := putN_len 9 d HS1.out (by decide)
      have q2 := putN_len 9 x.2 HS2.out (by decide)
      have p1 : ¬ (9223372036854775807 < M.length + (putN d).length) := by omega
      have p2 : ¬ (9223372036854775807 < M.length + (putN d).length + (putN x.2).length) := by omega
      have p3 : ¬ (9223372036854775807 < M.length + ((putN d).length + (putN x.2).length)) := by omega
      have HRR := Lib.hid (And.intro hr l3)
      rw [← hr] at HE2
      have L4' : Hid (Lies N r (H.drop (k + 1))) := lies_weaken L4.out (by omega)
      clear hd hr l1 l2 l3 HE HX
      go_wp2_with fail
      refine wp_region_flag (fun w' => w'.cell? ⟨g1, k * 2, none⟩ = some (.int .i64 (x.1 : Nat)) ∧ w'.cell? ⟨g1, k * 2 + 1, none⟩ = some (.int .i64 (x.2 : Nat))) [(0, 1), (1, 1), (2, 1), (3, 1), (4, 1), (6, 1), (11, 1), (12, 1), (13, 1), (14, 1), (5, 2), (7, 1), (8, 1), (15, 2), (16, 1), (9, 0), (10, 1), (17, 0), (18, 1), (19, 1)] (by kernel_rfl) (by kernel_rfl) ⟨z1, z2⟩ ?_
      simp only [ordered, List.map_cons, List.map_nil, List.getD_cons_zero, List.getD_cons_succ]
      repeat (refine wpF_dry (fun K hK => ?_); go_simp; refine hK _ ?_; clear hK K)
      refine wpF_read (.int .i64 (x.1 : Nat)) rfl (fun w' hS => by obtain ⟨s1, s2⟩ := hS; go_simp) (fun K hK => ?_)
      go_simp
      refine hK _ ?_
      clear hK K
      repeat (refine wpF_dry (fun K hK => ?_); go_simp; refine hK _ ?_; clear hK K)
      refine wpF_read (.int .i64 (x.2 : Nat)) rfl (fun w' hS => by obtain ⟨s1, s2⟩ := hS; go_simp) (fun K hK => ?_)
      go_simp
      refine hK _ ?_
      clear hK K
      repeat (refine wpF_dry (fun K hK => ?_); go_simp; refine hK _ ?_; clear hK K)
      refine wpF_do ?_
      go_wp2_with fail
      refine (rput_any 9 d _ HS1.out (by decide) (by decide)).mono ?_
      rintro e2 w4 ⟨rfl, b4⟩
      have B4 : Hid (Below w1.heap.size w1 w4) := BW.out.drew.trans (b4.mono BW.out.size)
      replace z1 := cell_below b4 z1; replace z2 := cell_below b4 z2
      clear b4
      go_wp2_with fail
      refine ⟨⟨z1, z2⟩, ?_⟩
      repeat (refine wpF_dry (fun K hK => ?_); go_simp; refine hK _ ?_; clear hK K)
      refine wpF_do ?_
      go_wp2_with fail
      refine (rput_any 9 x.2 _ HS2.out (by decide) (by decide)).mono ?_
      rintro e2 w5 ⟨rfl, b5⟩
      have B5 : Hid (Below w1.heap.size w1 w5) := B4.out.trans (b5.mono B4.out.size)
      replace z1 := cell_below b5 z1; replace z2 := cell_below b5 z2
      clear b5
      go_wp2_with fail
      refine ⟨⟨z1, z2⟩, ?_⟩
      repeat (refine wpF_dry (fun K hK => ?_); go_simp; refine hK _ ?_; clear hK K)
      refine wpF_nil ?_
      go_wp2_with fail
      replace z1 := cell_below (Below.refl _ w5).drew z1; replace z2 := cell_below (Below.refl _ w5).drew z2
      refine wp_region_flag (fun w' => w'.cell? ⟨g1, k * 2, none⟩ = some (.int .i64 (x.1 : Nat)) ∧ w'.cell? ⟨g1, k * 2 + 1, none⟩ = some (.int .i64 (x.2 : Nat))) [(0, 1), (1, 1), (2, 1), (3, 1), (5, 1), (6, 1), (7, 1), (8, 1), (4, 2), (9, 0), (10, 1), (11, 1)] (by kernel_rfl) (by kernel_rfl) ⟨z1, z2⟩ ?_
      simp only [ordered, List.map_cons, List.map_nil, List.getD_cons_zero, List.getD_cons_succ]
      repeat (refine wpF_dry (fun K hK => ?_); go_simp; refine hK _ ?_; clear hK K)
      refine wpF_read (.int .i64 (x.1 : Nat)) rfl (fun w' hS => by obtain ⟨s1, s2⟩ := hS; go_simp) (fun K hK => ?_)
      go_simp
      refine hK _ ?_
      clear hK K
      refine wpF_do ?_
      go_wp2_with fail
      refine ⟨⟨z1, z2⟩, ?_⟩
      repeat (refine wpF_dry (fun K hK => ?_); go_simp; refine hK _ ?_; clear hK K)
      refine wpF_nil ?_
      go_wp2
      go_roundw
      case rel => first | exact ⟨k + 1, r, (M ++ putN d) ++ putN x.2, hlt, by go_num, rfl, by have := HRR.out; omega, by rw [← bytes_append, ← bytes_append], by rw [List.length_append, List.length_append]; omega, HE2, L4', B5.out.drew⟩ | ((repeat apply Exists.intro); refine ⟨?_, rfl⟩; exact ⟨k + 1, r, (M ++ putN d) ++ putN x.2, hlt, by go_num, rfl, by have := HRR.out; omega, by rw [← bytes_append, ← bytes_append], by rw [List.length_append, List.length_append]; omega, HE2, L4', B5.out.drew⟩)
      case measure => simp [intOf]; omega
    · obtain rfl : k = H.length := by omega
      have HEN : Hid (putN N ++ (putN H.length ++ encH 0 H) = M) := by unfold Hid; rw [HE.out, List.drop_length, encH, List.append_nil]
      go_wp2
      go_ret
      exact ⟨by rw [HEN.out]; rfl, B1.out.trans (BW.out.mono B1.out.size)⟩
end Go.Proofs.Ythloinmnojlleaa
