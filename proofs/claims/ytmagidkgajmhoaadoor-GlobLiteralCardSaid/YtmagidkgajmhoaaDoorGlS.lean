/- GlS: the document's Literal; GlobLiteral's walk. -/
import Derived.Test.YtmagidkgajmhoaaDoorGlR
set_option linter.unusedVariables false
set_option linter.unusedSimpArgs false
namespace Go.Proofs.YtmagidkgajmhoaaDoor
open Go.RowKit

theorem esc_take {D : Bs} {k : Nat} (h : k < D.length) : esc (D.take (k + 1)) = esc (D.take k) ++ escC D[k] := by
  rw [List.take_succ_eq_append_getElem h, esc_app]
  simp [esc]
set_option maxHeartbeats 3200000 in
set_option maxRecDepth 100000 in
theorem literal_any (s : ByteArray) (w : World) (hs : s.size ≤ 1000000) :
    Calls Tryd.prog 8 #[.string s] w fun e w' => ∃ t, e = .returned (.string t) ∧ dat t = lit (dat s) ∧ Below w.heap.size w w' := by
  go_enter Tryd.func8, Tryd.ntmps8
  go_wp2_with fail
  go_loopw [3, 4] (fun v i wr => ∃ (k : Nat) (t : ByteArray), v = .string t ∧ i = .int .i64 k ∧ k ≤ s.size ∧ t.size ≤ 2 * k + 1 ∧ Hid (dat t = 47 :: esc ((dat s).take k)) ∧ Hid (Below w.heap.size w wr)) (fun _ i _ => s.size - (intOf i).toNat)
  case atStart => exact ⟨0, ⟨#[47]⟩, rfl, rfl, Nat.zero_le _, by decide, rfl, Below.refl _ _⟩
  case round =>
    obtain ⟨k, t, rfl, rfl, hk, hts, ht, hb⟩ := hrel
    by_cases hlt : k < s.size
    case neg =>
      have hki : ¬ (k : Int) < (s.size : Int) := by omega
      have QT : Hid (dat t = lit (dat s)) := by
        unfold Hid lit
        rw [ht.out, List.take_of_length_le (by rw [datsz]; omega)]
      go_wp2
      go_ret
      exact ⟨t, rfl, QT.out, hb.out⟩
    have hki : (k : Int) < (s.size : Int) := by omega
    have wk : IntKind.i64.wrap ((k : Int) + 1) = (k : Int) + 1 := by rw [IntKind.wrap_i64]; omega
    have EK : Hid (47 :: esc ((dat s).take (k + 1)) = dat t ++ escC s[k]) := by
      unfold Hid
      rw [esc_take (by rw [datsz]; exact hlt), ht.out, dat_get s k hlt]
      rfl
    have SX : Hid (dat (s.extract k (k + 1)) = [s[k]]) := by
      unfold Hid
      rw [dat_extract, seg_add _ _ _ _ (Nat.le_refl k), seg_self, dat_drop hlt]
      rfl
    obtain ⟨c, hc⟩ : ∃ c, c = s[k] := ⟨_, rfl⟩
    have h1i : (k : Int) ≤ (k : Int) + 1 := by omega
    have nb1 : ¬ 9223372036854775807 < t.size + (min (k + 1) s.size - k) := by omega
    have nb2 : ¬ 9223372036854775807 < t.size + 1 := by omega
    have nb3 : ¬ 9223372036854775807 < t.size + 1 + (min (k + 1) s.size - k) := by omega
    have SZ1 : Hid ((t ++ s.extract k (k + 1)).size ≤ 2 * (k + 1) + 1) := by
      unfold Hid
      rw [ByteArray.size_append, ByteArray.size_extract]
      omega
    have SZ2 : Hid ((t ++ ⟨#[92]⟩ ++ s.extract k (k + 1)).size ≤ 2 * (k + 1) + 1) := by
      unfold Hid
      rw [ByteArray.size_append, ByteArray.size_append, ByteArray.size_extract]
      show t.size + 1 + _ ≤ _
      omega
    have h2i : (k : Int) + 1 ≤ (s.size : Int) := by omega
    obtain ⟨pb, hpb⟩ : ∃ b, b = plainB s[k] := ⟨_, rfl⟩
    have HPB := Lib.hid hpb
    obtain ⟨wo, hwo⟩ : ∃ wo, wo = wr := ⟨_, rfl⟩
    subst hwo
    have E47 : ((((s[k]).toNat : Nat) : Int) == 47) = (s[k] == 47) := u8_lit _ 47
    clear ht hc hpb
    go_upto_region 6 with fail
    go_cut [32] from 15 to 32 (fun cv wx => cv = .bool pb ∧ wx = wo)
    case first =>
      unfold Hid plainB at HPB
      by_cases h47 : s[k] = 47
      · have e1 : (s[k] == 47) = true := beq_iff_eq.2 h47
        rw [e1] at E47 HPB
        simp only [Bool.true_or] at HPB
        subst HPB
        clear h47
        go_wp2_with fail
        go_meet
        exact ⟨rfl, rfl⟩
      · have e1 : (s[k] == 47) = false := beq_false_of_ne h47
        rw [e1] at E47 HPB
        clear h47
        by_cases a1 : 97 ≤ (s[k]).toNat
        · have i1 : (97 : Int) ≤ ((s[k]).toNat : Int) := by omega
          by_cases a2 : (s[k]).toNat ≤ 122
          · have i2 : ((s[k]).toNat : Int) ≤ (122 : Int) := by omega
            rw [decide_eq_true a1, decide_eq_true a2] at HPB
            simp only [Bool.false_or, Bool.true_and, Bool.true_or] at HPB
            subst HPB
            go_wp2_with fail
            go_meet
            exact ⟨rfl, rfl⟩
          · have i2 : ¬ ((s[k]).toNat : Int) ≤ (122 : Int) := by omega
            have i3 : (48 : Int) ≤ ((s[k]).toNat : Int) := by omega
            have i4 : ¬ ((s[k]).toNat : Int) ≤ (57 : Int) := by omega
            rw [decide_eq_true a1, decide_eq_false a2, decide_eq_false (show ¬ (s[k]).toNat ≤ 57 by omega)] at HPB
            simp only [Bool.and_false, Bool.or_false] at HPB
            subst HPB
            go_wp2_with fail
            go_meet
            exact ⟨rfl, rfl⟩
        · have i1 : ¬ (97 : Int) ≤ ((s[k]).toNat : Int) := by omega
          rw [decide_eq_false a1] at HPB
          by_cases a3 : 48 ≤ (s[k]).toNat
          · have i3 : (48 : Int) ≤ ((s[k]).toNat : Int) := by omega
            by_cases a4 : (s[k]).toNat ≤ 57
            · have i4 : ((s[k]).toNat : Int) ≤ (57 : Int) := by omega
              rw [decide_eq_true a3, decide_eq_true a4] at HPB
              simp only [Bool.false_or, Bool.false_and, Bool.true_and, Bool.or_true] at HPB
              subst HPB
              go_wp2_with fail
              go_meet
              exact ⟨rfl, rfl⟩
            · have i4 : ¬ ((s[k]).toNat : Int) ≤ (57 : Int) := by omega
              rw [decide_eq_true a3, decide_eq_false a4] at HPB
              simp only [Bool.false_or, Bool.false_and, Bool.and_false, Bool.or_false] at HPB
              subst HPB
              go_wp2_with fail
              go_meet
              exact ⟨rfl, rfl⟩
          · have i3 : ¬ (48 : Int) ≤ ((s[k]).toNat : Int) := by omega
            rw [decide_eq_false a3] at HPB
            simp only [Bool.false_or, Bool.false_and, Bool.and_false, Bool.or_false] at HPB
            subst HPB
            go_wp2_with fail
            go_meet
            exact ⟨rfl, rfl⟩
    case rest =>
      obtain ⟨rfl, rfl⟩ := hcut
      clear E47
      cases pb with
      | true =>
        have QN : Hid (dat (t ++ s.extract k (k + 1)) = 47 :: esc ((dat s).take (k + 1))) := by
          unfold Hid
          rw [dat_append, SX.out, EK.out]
          unfold escC
          rw [if_pos HPB.out.symm]
        go_wp2
        go_roundw
        case rel => first | exact ⟨k + 1, _, rfl, by go_num, hlt, SZ1.out, QN, hb⟩ | ((repeat apply Exists.intro); refine ⟨?_, rfl⟩; exact ⟨k + 1, _, rfl, by go_num, hlt, SZ1.out, QN, hb⟩)
        case measure => simp [intOf]; omega
      | false =>
        have QN : Hid (dat (t ++ ⟨#[92]⟩ ++ s.extract k (k + 1)) = 47 :: esc ((dat s).take (k + 1))) := by
          unfold Hid
          rw [dat_append, dat_append, SX.out, EK.out]
          unfold escC
          rw [if_neg (by rw [← HPB.out]; decide), List.append_assoc]
          rfl
        go_wp2
        go_roundw
        case rel => first | exact ⟨k + 1, _, rfl, by go_num, hlt, SZ2.out, QN, hb⟩ | ((repeat apply Exists.intro); refine ⟨?_, rfl⟩; exact ⟨k + 1, _, rfl, by go_num, hlt, SZ2.out, QN, hb⟩)
        case measure => simp [intOf]; omega
end Go.Proofs.YtmagidkgajmhoaaDoor
