/- PlG: a number's bytes as the document has them: the walk of its Put. -/
import Derived.Test.YthloinmnojlleaaPlC
import Derived.Laws.IdiomStrings
set_option linter.unusedVariables false
set_option linter.unusedSimpArgs false
namespace Go.Proofs.Ythloinmnojlleaa
open Go.RowKit

theorem conv_row (w : World) (v : Value) (L : List UInt8) (h : OwnB w 0 v L) (hp : 0 < L.length) : (convert 40 9 v).run Try.prog w = .ok (.string ⟨L.toArray⟩) w := by
  obtain ⟨b, o, c, rfl, _, hc⟩ := h.rd.at_ hp
  exact run_convert_bytes_back (P := Try.prog) w 40 9 5 ⟨b, o, none⟩ c L Try.underlying40 Try.underlying5 Try.underlying9 (fun j hj => by have := hc j hj; simpa [Addr.add_lit] using this)
theorem conv_one (w : World) (x : UInt8) (t : TypeId) : (convert 40 9 (.slice (some ⟨w.heap.size, 0, none⟩) 1 1)).run Try.prog (w.alloc (.cells #[.int .u8 (x.toNat : Int)] t)) = .ok (.string ⟨#[x]⟩) (w.alloc (.cells #[.int .u8 (x.toNat : Int)] t)) :=
  run_convert_bytes_back (P := Try.prog) _ 40 9 5 ⟨w.heap.size, 0, none⟩ 1 [x] Try.underlying40 Try.underlying5 Try.underlying9 (fun j hj => by
    have : j = 0 := by simpa using hj
    subst this
    simp [Addr.add])
theorem conv_at (w : World) (x : UInt8) (g : Nat) (h : w.cell? ⟨g, 0, none⟩ = some (.int .u8 (x.toNat : Int))) : (convert 40 9 (.slice (some ⟨g, 0, none⟩) 1 1)).run Try.prog w = .ok (.string ⟨#[x]⟩) w :=
  run_convert_bytes_back (P := Try.prog) _ 40 9 5 ⟨g, 0, none⟩ 1 [x] Try.underlying40 Try.underlying5 Try.underlying9 (fun j hj => by
    have : j = 0 := by simpa using hj
    subst this
    simpa [Addr.add] using h)
theorem bytes_cons (x : UInt8) (l : List UInt8) : (⟨#[x]⟩ ++ ⟨l.toArray⟩ : ByteArray) = ⟨(x :: l).toArray⟩ := by
  apply ByteArray.ext
  simp
set_option maxHeartbeats 800000 in
set_option maxRecDepth 100000 in
theorem rput_any : ∀ (k n : Nat) (w : World), n < 128 ^ k → 1 ≤ k → k ≤ 9 →
    Calls Try.prog 56 #[.int .u64 n] w fun e w' => e = .returned (.string ⟨(putN n).toArray⟩) ∧ Below w.heap.size w w'
  | 0, _, _, _, h, _ => by omega
  | k + 1, n, w, hn, _, hk => by
    have hnn : n < 128 ^ 9 := Nat.lt_of_lt_of_le hn (Nat.pow_le_pow_right (by decide) hk)
    by_cases hs : n < 128
    · have d1 : decide (n < 128) = true := by simpa using hs
      have d2 : decide ((n : Int) < 128) = true := by simp; omega
      have hw : (n : Int) % 256 = ((UInt8.ofNat n).toNat : Int) := by rw [ofNat_toNat (by omega)]; omega
      have hw2 : IntKind.u8.wrap (n : Int) = ((UInt8.ofNat n).toNat : Int) := by rw [IntKind.wrap_u8]; exact hw
      have HP : Hid (putN n = [UInt8.ofNat n]) := putN_small hs
      have CV := conv_one w (UInt8.ofNat n) 5
      generalize UInt8.ofNat n = x at hw hw2 HP CV
      have BA : Hid (Below w.heap.size w (w.alloc (.cells #[.int .u8 (x.toNat : Int)] 5))) := (Below.refl _ w).alloc (Nat.le_refl _) _
      clear hs hn
      go_enter Try.func56, Try.ntmps56
      go_wp2
      go_ret
      exact ⟨by rw [HP.out]; rfl, BA.out⟩
    · have d1 : decide (n < 128) = false := by simpa using hs
      have d2 : decide ((n : Int) < 128) = false := by simp; omega
      have hk1 : 1 ≤ k := by
        rcases k with _ | k
        · simp at hn; omega
        · omega
      have hn1 : n / 128 < 128 ^ k := by rw [Nat.div_lt_iff_lt_mul (by decide)]; rw [Nat.pow_succ] at hn; exact hn
      have IH : ∀ w, Calls Try.prog 56 #[.int .u64 ((n / 128 : Nat) : Int)] w fun e w' => e = .returned (.string ⟨(putN (n / 128)).toArray⟩) ∧ Below w.heap.size w w' := fun w => rput_any k (n / 128) w hn1 hk1 (by omega)
      obtain ⟨m, hm⟩ : ∃ m, m = n / 128 := ⟨_, rfl⟩
      rw [← hm] at IH
      have hq : (n : Int) / 128 = (m : Int) := by omega
      obtain ⟨z, hz⟩ : ∃ z, z = n % 128 := ⟨_, rfl⟩
      have hr : (n : Int) % 128 = (z : Int) := by omega
      obtain ⟨y, hy⟩ : ∃ y, y = z + 128 := ⟨_, rfl⟩
      have hy1 : (z : Int) + 128 = (y : Int) := by omega
      have hy2 : IntKind.u64.wrap (y : Int) = (y : Int) := by rw [IntKind.wrap_u64]; omega
      have hy3 : (y : Int) % 18446744073709551616 = (y : Int) := by omega
      have hm2 : IntKind.u64.wrap (m : Int) = (m : Int) := by rw [IntKind.wrap_u64]; omega
      have hm3 : (m : Int) % 18446744073709551616 = (m : Int) := by omega
      have hz2 : IntKind.u64.wrap (z : Int) = (z : Int) := by rw [IntKind.wrap_u64]; omega
      have hxy : (((UInt8.ofNat y).toNat : Nat) : Int) = (y : Int) := by rw [ofNat_toNat (by omega)]
      have hw : (y : Int) % 256 = (y : Int) := by omega
      have hw2 : IntKind.u8.wrap (y : Int) = (y : Int) := by rw [IntKind.wrap_u8]; exact hw
      have HP : Hid (putN n = UInt8.ofNat y :: putN m) := by unfold Hid; rw [putN_big hs, hy, hz, hm]
      generalize UInt8.ofNat y = x at HP hxy
      have CV := conv_at ((w.alloc (.cells #[.int .u8 (y : Nat)] 5)).drew) x w.heap.size (by rw [hxy]; simp)
      have HXY := Lib.hid hxy
      clear hxy
      have BA : Hid (Below w.heap.size w (w.alloc (.cells #[.int .u8 (y : Nat)] 5)).drew) := ((Below.refl _ w).alloc (Nat.le_refl _) _).drew
      have hpl : ¬ (9223372036854775807 < 1 + (putN m).length) := by have := putN_len k m (by rw [hm]; exact hn1) hk1; omega
      have HALL := Lib.hid (And.intro hm (And.intro hz hy))
      clear hs hn hn1 hm hz hy hnn
      go_enter Try.func56, Try.ntmps56
      go_wp2_with fail
      refine wp_region_plan (fun _ => True) (.op 0 1 (.op 1 1 (.op 2 1 (.op 3 1 (.op 6 1 (.op 7 1 (.two 4 (.two 5 (.op 8 0 (.op 9 0 (.op 10 1 .done))) 8 (.op 5 0 (.op 9 0 (.op 10 1 .done)))) 8 (.op 4 0 (.op 5 0 (.op 9 0 (.op 10 1 .done))))))))))) (by kernel_rfl) (by kernel_rfl) trivial ?_
      repeat (refine wpP_dry (fun K hK => ?_); simp only [List.getD_cons_zero, List.getD_cons_succ]; go_simp; refine hK _ ?_; clear hK K)
      refine wpP_two ?_ ?_
      · simp only [List.getD_cons_zero, List.getD_cons_succ]
        go_wp2_with fail
        refine ⟨trivial, ?_⟩
        refine wpP_two ?_ ?_
        · simp only [List.getD_cons_zero, List.getD_cons_succ]
          go_wp2_with fail
          refine ⟨trivial, ?_⟩
          refine wpP_do ?_
          simp only [List.getD_cons_zero, List.getD_cons_succ]
          go_wp2_with fail
          refine (IH ((w.alloc (.cells #[.int .u8 (y : Nat)] 5)).drew)).mono ?_
          rintro e w1 ⟨rfl, b1⟩
          have B1 : Hid (Below w.heap.size w w1) := BA.out.trans (b1.mono BA.out.size)
          clear b1
          go_wp2_with fail
          refine ⟨trivial, ?_⟩
          refine wpP_do ?_
          simp only [List.getD_cons_zero, List.getD_cons_succ]
          go_wp2_with fail
          refine ⟨trivial, ?_⟩
          repeat (refine wpP_dry (fun K hK => ?_); simp only [List.getD_cons_zero, List.getD_cons_succ]; go_simp; refine hK _ ?_; clear hK K)
          refine wpP_done ?_
          go_wp2
          go_ret
          exact ⟨by rw [HP.out]; exact congrArg (fun z => Ending.returned (Value.string z)) (bytes_cons x _), B1.out⟩
        · simp only [List.getD_cons_zero, List.getD_cons_succ]
          go_wp2_with fail
          refine (IH ((w.alloc (.cells #[.int .u8 (y : Nat)] 5)).drew)).mono ?_
          rintro e w1 ⟨rfl, b1⟩
          have B1 : Hid (Below w.heap.size w w1) := BA.out.trans (b1.mono BA.out.size)
          have CV1 := conv_at w1 x w.heap.size (cell_below b1 (by rw [HXY.out]; simp))
          clear b1
          go_wp2_with fail
          refine ⟨trivial, ?_⟩
          refine wpP_do ?_
          simp only [List.getD_cons_zero, List.getD_cons_succ]
          go_wp2_with fail
          refine ⟨trivial, ?_⟩
          refine wpP_do ?_
          simp only [List.getD_cons_zero, List.getD_cons_succ]
          go_wp2_with fail
          refine ⟨trivial, ?_⟩
          repeat (refine wpP_dry (fun K hK => ?_); simp only [List.getD_cons_zero, List.getD_cons_succ]; go_simp; refine hK _ ?_; clear hK K)
          refine wpP_done ?_
          go_wp2
          go_ret
          exact ⟨by rw [HP.out]; exact congrArg (fun z => Ending.returned (Value.string z)) (bytes_cons x _), B1.out⟩
      · simp only [List.getD_cons_zero, List.getD_cons_succ]
        go_wp2_with fail
        refine (IH w.drew).mono ?_
        rintro e w1 ⟨rfl, b1⟩
        have B1 : Hid (Below w.heap.size w w1) := (Below.refl _ w).drew.trans b1
        have CV1 := conv_at (w1.alloc (.cells #[.int .u8 (y : Nat)] 5)) x w1.heap.size (by rw [HXY.out]; simp)
        have B2 : Hid (Below w.heap.size w (w1.alloc (.cells #[.int .u8 (y : Nat)] 5))) := B1.out.alloc B1.out.size _
        clear b1
        go_wp2_with fail
        refine ⟨trivial, ?_⟩
        refine wpP_do ?_
        simp only [List.getD_cons_zero, List.getD_cons_succ]
        go_wp2_with fail
        refine ⟨trivial, ?_⟩
        refine wpP_do ?_
        simp only [List.getD_cons_zero, List.getD_cons_succ]
        go_wp2_with fail
        refine ⟨trivial, ?_⟩
        refine wpP_do ?_
        simp only [List.getD_cons_zero, List.getD_cons_succ]
        go_wp2_with fail
        refine ⟨trivial, ?_⟩
        repeat (refine wpP_dry (fun K hK => ?_); simp only [List.getD_cons_zero, List.getD_cons_succ]; go_simp; refine hK _ ?_; clear hK K)
        refine wpP_done ?_
        go_wp2
        go_ret
        exact ⟨by rw [HP.out]; exact congrArg (fun z => Ending.returned (Value.string z)) (bytes_cons x _), B2.out⟩
end Go.Proofs.Ythloinmnojlleaa
