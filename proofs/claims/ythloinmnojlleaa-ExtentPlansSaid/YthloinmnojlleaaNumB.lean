/- NumB: the walks of Put and Get. -/
import Derived.Test.YthloinmnojlleaaNumA
import Derived.Test.YthloinmnojlleaaExtN
set_option linter.unusedVariables false
set_option linter.unusedSimpArgs false
namespace Go.Proofs.Ythloinmnojlleaa
open Go.RowKit

theorem put_any (w : World) (v : Value) (L : List UInt8) (h : RdB w v L) (n : Nat) (hn : n < 128 ^ 9) (hl : L.length ≤ 1099511627000) :
    Calls Try.prog 36 #[v, .int .u64 n] w fun e w' => ∃ v', e = .returned v' ∧ OwnB w' w.heap.size v' (L ++ putN n) ∧ Below w.heap.size w w' := by
  have HO := Lib.hid (own_any w v L h hl)
  obtain ⟨A, c, rfl⟩ := h.slice
  have HN := Lib.hid hn
  clear h hn
  go_enter Try.func36, Try.ntmps36
  go_wp2_with fail
  refine HO.out.mono ?_
  rintro e w1 ⟨v1, rfl, ho, b1⟩
  have HL := Lib.hid (lay_any w1 w.heap.size b1.size v1 L ho n HN.out hl)
  obtain ⟨A1, c1, rfl⟩ := ho.slice
  have B1 := Lib.hid b1
  clear ho b1 HO
  go_wp2_with fail
  refine HL.out.mono ?_
  rintro e w2 ⟨v2, rfl, ho, b2⟩
  have B2 : Hid (Below w.heap.size w w2) := B1.out.trans b2
  have HO2 := Lib.hid ho
  clear ho b2 HL
  go_wp2
  go_ret
  exact ⟨_, rfl, HO2.out, B2.out⟩

theorem RdB.at_ {w : World} {v : Value} {L : List UInt8} (h : RdB w v L) (hp : 0 < L.length) : ∃ b o c, v = .slice (some ⟨b, o, none⟩) L.length c ∧ L.length ≤ c ∧ ∀ j (hj : j < L.length), w.cell? ⟨b, o + j, none⟩ = some (.int .u8 (L[j].toNat : Int)) := by
  obtain ⟨A, c, rfl, hc, hn, hr⟩ := h
  cases A with
  | none => have := hn rfl; omega
  | some ad =>
    have h0 := hr ad rfl 0 _ (u8s_get L 0 hp)
    have ha := plain_addr h0
    refine ⟨ad.block, ad.off, c, by rw [← ha], hc, fun j hj => ?_⟩
    have := hr ad rfl j _ (u8s_get L j hj)
    rw [ha] at this
    simpa [Addr.add_lit] using this
/-- What Get answers. -/
def GetTo (L : List UInt8) (k : Nat) (e : Ending) : Prop :=
  match getR 0 (L.drop k) with
  | some y => e = .returned (.tuple #[.int .u64 (y.1 : Nat), .int .i64 ((L.length - y.2.length : Nat) : Int), .int .i64 0])
  | none => ∃ x : Int, x ≠ 0 ∧ e = .returned (.tuple #[.int .u64 0, .int .i64 0, .int .i64 x])
theorem shl_or {acc X i t : Nat} (h : acc < 128 ^ i) (ht : t = 7 * i) (hi : i ≤ 9) (hX : X < 128) (h9 : i = 9 → X ≤ 1) : Go.bits .or .u64 (acc : Int) (IntKind.u64.wrap ((X : Int) * 2 ^ t)) = ((acc + 128 ^ i * X : Nat) : Int) ∧ acc + 128 ^ i * X < 128 ^ (i + 1) ∧ acc + 128 ^ i * X < 2 ^ 64 := by
  subst ht
  have hp : (128 : Nat) ^ i = 2 ^ (7 * i) := by rw [Nat.pow_mul]
  have hb : X * 2 ^ (7 * i) < 2 ^ 64 := by
    have h1 : i ≤ 8 ∨ i = 9 := by omega
    rcases h1 with h1 | h1
    · have : 2 ^ (7 * i) ≤ 2 ^ 56 := Nat.pow_le_pow_right (by decide) (by omega)
      have : X * 2 ^ (7 * i) ≤ 127 * 2 ^ 56 := Nat.mul_le_mul (by omega) this
      omega
    · subst h1
      have : X * 2 ^ (7 * 9) ≤ 1 * 2 ^ 63 := Nat.mul_le_mul (h9 rfl) (by decide)
      omega
  have ha : acc < 2 ^ 64 := by
    have : (2 : Nat) ^ (7 * i) ≤ 2 ^ 63 := Nat.pow_le_pow_right (by decide) (by omega)
    omega
  have e : acc ||| X * 2 ^ (7 * i) = acc + 128 ^ i * X := by
    rw [hp, Nat.or_comm, Nat.mul_comm X, ← Nat.two_pow_add_eq_or_of_lt (by rw [← hp]; exact h) X]
    omega
  refine ⟨?_, ?_, ?_⟩
  · rw [show ((X : Int) * 2 ^ (7 * i)) = ((X * 2 ^ (7 * i) : Nat) : Int) by simp, wraps_u64 _ (by omega) (by exact_mod_cast hb)]
    rw [(bits_nat .u64 64 (by decide) wraps_u64 acc (X * 2 ^ (7 * i)) ha hb).2, e]
  · rw [Nat.pow_succ]
    have : 128 ^ i * X ≤ 128 ^ i * 127 := Nat.mul_le_mul (Nat.le_refl _) (by omega)
    omega
  · rw [← e]
    exact Nat.or_lt_two_pow ha hb
theorem and127 {X : Nat} (h : 128 ≤ X) (h2 : X < 256) : Go.bits .and .u8 (X : Int) 127 = ((X - 128 : Nat) : Int) := by
  have := bits_mask .u8 8 (by decide) wraps_u8 7 (by decide) (X : Int) (by omega) (by omega)
  rw [show (127 : Int) = 2 ^ 7 - 1 by decide, this]
  omega
theorem or_some {acc b : Nat} (h : acc < 2 ^ 64) (h2 : b < 2 ^ 64) : ∃ x : Nat, x < 2 ^ 64 ∧ Go.bits .or .u64 (acc : Int) (b : Int) = (x : Int) :=
  ⟨acc ||| b, Nat.or_lt_two_pow h h2, (bits_nat .u64 64 (by decide) wraps_u64 acc b h h2).2⟩

theorem ret3 {V P V' P' : Int} (h1 : V = V') (h2 : P = P') : Ending.returned (.tuple #[.int .u64 V, .int .i64 P, .int .i64 0]) = Ending.returned (.tuple #[.int .u64 V', .int .i64 P', .int .i64 0]) := by subst h1 h2; rfl
set_option maxHeartbeats 1600000 in
set_option maxRecDepth 100000 in
theorem get_any (w : World) (v : Value) (L : List UInt8) (h : RdB w v L) (k : Nat) (hk : k ≤ L.length) (hl : L.length ≤ 1099511627776) :
    Calls Try.prog 35 #[v, .int .i64 k] w fun e w' => GetTo L k e ∧ w = w' := by
  have HR := Lib.hid h
  obtain ⟨A, c, rfl⟩ := h.slice
  clear h
  have hkk : decide (L.length < k) = false := by simp; omega
  go_enter Try.func35, Try.ntmps35
  go_wp2_with fail
  go_loopw [7, 18] (fun nn ii wr => ∃ (i acc : Nat), i ≤ 10 ∧ ii = .int .i64 i ∧ nn = .int .u64 acc ∧ acc < 2 ^ 64 ∧ k + i ≤ L.length ∧ Hid (i ≤ 9 → acc < 128 ^ i ∧ getR 0 (L.drop k) = (getR i (L.drop (k + i))).map (fun y => (acc + 128 ^ i * y.1, y.2))) ∧ Hid (i = 10 → getR 0 (L.drop k) = none) ∧ wr = w) (fun _ ii _ => 10 - (intOf ii).toNat)
  case atStart =>
    refine ⟨0, 0, by decide, rfl, rfl, by decide, by omega, fun _ => ⟨by decide, ?_⟩, fun h => (by cases h), rfl⟩
    rw [Nat.add_zero]
    cases getR 0 (L.drop k) with
    | none => rfl
    | some y => simp
  case round =>
    obtain ⟨i, acc, hi, rfl, rfl, hacc, hki, HI, HT, rfl⟩ := hrel
    by_cases h10 : i < 10
    · obtain ⟨h1, h2⟩ := HI.out (by omega)
      have H1 := Lib.hid h1
      have H2 := Lib.hid h2
      have d0 : decide ((i : Int) < 10) = true := by simp; omega
      have d0' : decide (i < 10) = true := by simp; omega
      obtain ⟨q, hq⟩ : ∃ q, q = k + i := ⟨_, rfl⟩
      have hq1 : (k : Int) + (i : Int) = (q : Int) := by omega
      have hq2 : IntKind.i64.wrap (q : Int) = (q : Int) := by rw [IntKind.wrap_i64]; omega
      have hqL : q ≤ L.length := by omega
      rw [← hq] at H2
      have HQ := Lib.hid hq
      clear h1 h2 HI HT hq hki
      by_cases hqe : q = L.length
      · have d1 : (q == L.length) = true := by simpa using hqe
        have hnone : getR 0 (L.drop k) = none := by
          rw [H2.out, hqe, List.drop_length]
          rfl
        have HN := Lib.hid hnone
        clear hqe hnone
        go_wp2
        go_ret3
        refine ⟨?_, rfl⟩
        unfold GetTo
        rw [HN.out]
        exact ⟨3, by decide, rfl⟩
      · have hql : q < L.length := by omega
        have d1 : (q == L.length) = false := by simpa using hqe
        obtain ⟨b, o, c1, e1, _, hc⟩ := HR.out.at_ (by omega)
        injection e1 with e1 e2 e3
        subst e1
        have z := hc q hql
        have hdrop : L.drop q = L[q] :: L.drop (q + 1) := (List.getElem_cons_drop hql).symm
        rw [hdrop] at H2
        have hx := L[q].toNat_lt
        obtain ⟨X, hX⟩ : ∃ X, X = L[q].toNat := ⟨_, rfl⟩
        rw [← hX] at z hx
        have HX := Lib.hid hX
        clear hc e2 hdrop hX hqe
        by_cases hX : X < 128
        · have d2 : decide ((X : Int) < 128) = true := by simp; omega
          have d2' : decide (X < 128) = true := by simp; omega
          obtain ⟨t, ht⟩ : ∃ t, t = 7 * i := ⟨_, rfl⟩
          have ht1 : (7 : Int) * (i : Int) = (t : Int) := by omega
          have ht2 : IntKind.i64.wrap (t : Int) = (t : Int) := by rw [IntKind.wrap_i64]; omega
          have hx1 : (X : Int) % 18446744073709551616 = (X : Int) := by omega
          have hx2 : IntKind.u64.wrap (X : Int) = (X : Int) := by rw [IntKind.wrap_u64]; omega
          have hq3 : IntKind.i64.wrap ((q : Int) + 1) = (q : Int) + 1 := by rw [IntKind.wrap_i64]; omega
          have HTT := Lib.hid ht
          have HXL := Lib.hid hX
          have HQL := Lib.hid hql
          clear ht hX
          have BAD : Hid ((X = 0 ∧ 0 < i) ∨ (i = 9 ∧ 1 < X) → getR 0 (L.drop k) = none) := fun hbad => by
            rw [H2.out, getR, ← HX.out, if_neg (by omega), if_pos HXL.out, if_pos hbad]
            rfl
          have GOOD : Hid (¬ ((X = 0 ∧ 0 < i) ∨ (i = 9 ∧ 1 < X)) → getR 0 (L.drop k) = some (acc + 128 ^ i * X, L.drop (q + 1)) ∧ Go.bits .or .u64 (acc : Int) (IntKind.u64.wrap ((X : Int) * 2 ^ t)) = ((acc + 128 ^ i * X : Nat) : Int)) := fun hbad => by
            refine ⟨?_, (shl_or H1.out HTT.out (by omega) HXL.out (fun e => by omega)).1⟩
            rw [H2.out, getR, ← HX.out, if_neg (by omega), if_pos HXL.out, if_neg hbad]
            rfl
          have H1' := H1.out
          go_wp2
          · go_ret3
            refine ⟨?_, rfl⟩
            obtain ⟨n1, n2⟩ := GOOD.out (by omega)
            unfold GetTo
            rw [n1]
            have hi0 : i = 0 := by assumption
            have hX0 : X = 0 := by assumption
            subst hi0 hX0
            have ha0 : acc = 0 := by simpa using H1'
            refine ret3 ?_ ?_
            · subst ha0
              show Go.bits .or .u64 ((0 : Nat) : Int) 0 = ((0 + 128 ^ 0 * 0 : Nat) : Int)
              decide
            · rw [List.length_drop]; have := HQ.out; have := HQL.out; omega
          · go_ret3
            refine ⟨?_, rfl⟩
            have n1 := BAD.out (by omega)
            unfold GetTo
            rw [n1]
            exact ⟨4, by decide, rfl⟩
          · go_ret3
            refine ⟨?_, rfl⟩
            have n1 := BAD.out (by omega)
            unfold GetTo
            rw [n1]
            exact ⟨4, by decide, rfl⟩
          · go_ret3
            refine ⟨?_, rfl⟩
            obtain ⟨n1, n2⟩ := GOOD.out (by omega)
            unfold GetTo
            rw [n1]
            have ht9 : t = 63 := by have := HTT.out; omega
            have hX1 : X = 0 ∨ X = 1 := by omega
            refine ret3 ?_ ?_
            · refine Eq.trans ?_ n2
              rw [ht9]
              congr 1
              rw [IntKind.wrap_u64]
              rcases hX1 with rfl | rfl <;> decide
            · rw [List.length_drop]; have := HQ.out; have := HQL.out; omega
          · go_ret3
            refine ⟨?_, rfl⟩
            obtain ⟨n1, n2⟩ := GOOD.out (by omega)
            unfold GetTo
            rw [n1]
            refine ret3 ?_ ?_
            · exact n2
            · rw [List.length_drop]; have := HQ.out; have := HQL.out; omega
        · have d2 : decide ((X : Int) < 128) = false := by simp; omega
          have d2' : decide (X < 128) = false := by simp; omega
          obtain ⟨y, hy⟩ : ∃ y, y = X - 128 := ⟨_, rfl⟩
          have ha := and127 (X := X) (by omega) hx
          rw [← hy] at ha
          obtain ⟨t, ht⟩ : ∃ t, t = 7 * i := ⟨_, rfl⟩
          have ht1 : (7 : Int) * (i : Int) = (t : Int) := by omega
          have ht2 : IntKind.i64.wrap (t : Int) = (t : Int) := by rw [IntKind.wrap_i64]; omega
          have hy1 : (y : Int) % 18446744073709551616 = (y : Int) := by omega
          have hy2 : IntKind.u64.wrap (y : Int) = (y : Int) := by rw [IntKind.wrap_u64]; omega
          have HY := Lib.hid hy
          have HTT := Lib.hid ht
          have HXB : Hid (128 ≤ X ∧ X < 256) := ⟨by omega, hx⟩
          clear hy ht hX
          have HQL := Lib.hid hql
          clear hx
          go_wp2
          go_roundw
          case rel =>
            obtain ⟨x1, x2⟩ := HXB.out
            have hy := HY.out
            have ht := HTT.out
            by_cases h9 : i = 9
            · obtain ⟨z, hz, hze⟩ := or_some (b := ((y : Int) * 2 ^ t % 18446744073709551616).toNat) hacc (by omega)
              refine ⟨i + 1, z, by omega, by go_num, ?_, hz, by have := HQ.out; have := HQL.out; omega, fun h => by omega, fun _ => ?_, trivial⟩
              · rw [← hze]
                congr 1
              · rw [H2.out, getR, ← HX.out, if_neg (by omega), if_neg (by omega), h9, getR_ten]
                rfl
            · obtain ⟨s1, s2, s3⟩ := shl_or (X := y) H1.out ht (by omega) (by omega) (fun e => by omega)
              refine ⟨i + 1, acc + 128 ^ i * y, by omega, by go_num, by rw [s1], s3, by have := HQ.out; have := HQL.out; omega, fun _ => ⟨s2, ?_⟩, fun h => by omega, trivial⟩
              rw [H2.out, getR, ← HX.out, if_neg (by omega), if_neg (by omega), ← Nat.add_assoc, ← HQ.out]
              cases getR (i + 1) (L.drop (q + 1)) with
              | none => rfl
              | some p =>
                simp only [Option.map_some, Option.some.injEq, Prod.mk.injEq, and_true]
                rw [← hy, Nat.pow_succ, Nat.mul_add]
                simp only [Nat.mul_assoc, Nat.add_assoc]
          case measure => simp [intOf]; omega
    · have hi10 : i = 10 := by omega
      have hn := HT.out hi10
      have HN := Lib.hid hn
      have d0 : decide ((i : Int) < 10) = false := by simp; omega
      have d0' : decide (i < 10) = false := by simp; omega
      clear hi10 hn HI HT
      go_wp2
      go_ret3
      refine ⟨?_, rfl⟩
      unfold GetTo
      rw [HN.out]
      exact ⟨4, by decide, rfl⟩
end Go.Proofs.Ythloinmnojlleaa
