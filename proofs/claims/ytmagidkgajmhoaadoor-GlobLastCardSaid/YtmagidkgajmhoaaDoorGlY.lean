/- GlY: GlobAll's walk. -/
import Derived.Test.YtmagidkgajmhoaaDoorGlX
set_option linter.unusedVariables false
set_option linter.unusedSimpArgs false
namespace Go.Proofs.YtmagidkgajmhoaaDoor
open Go.RowKit

theorem read_some (w : World) (s : ByteArray) (R : List (Bool × PPat)) (h : readP (dat s) = some R) :
    Calls Tryd.prog 16 #[.string s] w fun e w' => ∃ (gr : Nat) (L : List RlM), L.map RlM.rl = R ∧ e = .returned (.tuple #[.pointer (some ⟨gr, 0, none⟩), .int .i64 0, .int .i64 0]) ∧ RdRls w' gr L ∧ Below w.heap.size w w' := by
  refine (read_any w s).mono ?_
  rintro e w' (⟨h1, _⟩ | ⟨gr, L, h1, h2, h3, h4⟩)
  · rw [h] at h1; cases h1
  · rw [h] at h1
    exact ⟨gr, L, (Option.some.inj h1).symm, h2, h3, h4⟩
theorem lets_is (w : World) (gr : Nat) (L : List RlM) (q : ByteArray) (R : List (Bool × PPat)) (hR : L.map RlM.rl = R) (h : RdRls w gr L) (b : Bool) (hb : letsP R (dat q) = b) :
    Calls Tryd.prog 19 #[.pointer (some ⟨gr, 0, none⟩), .string q] w fun e w' => e = .returned (.bool b) ∧ Below w.heap.size w w' := by
  refine (lets_any w gr L q h).mono ?_
  rintro e w' ⟨rfl, h2⟩
  exact ⟨by rw [hR, hb], h2⟩
theorem len_is (w : World) (gr : Nat) (L : List RlM) (n : Nat) (hn : L.length = n) (h : RdRls w gr L) :
    Calls Tryd.prog 17 #[.pointer (some ⟨gr, 0, none⟩)] w fun e w' => e = .returned (.int .i64 (n : Int)) ∧ Below w.heap.size w w' := by
  have := len_any w gr L h
  rw [hn] at this
  exact this
theorem remT_len : ∀ (l : List Bs), (∀ r ∈ l, r.length ≤ 60) → (remT l).length ≤ 63 * l.length
  | [], _ => by simp [remT]
  | r :: l, h => by
    have h1 := h r (by simp)
    have h2 := remT_len l (fun x hx => h x (by simp [hx]))
    simp [remT]
    omega
set_option maxHeartbeats 6400000 in
set_option maxRecDepth 100000 in
theorem globAll_walk (w : World) (v : Value) (ls : List ByteArray) (hv : RdS w v ls) (q : ByteArray) (_hq : q.size ≤ 140737488351232) :
    Calls Tryd.prog 6 #[v, .string q] w fun e w' => e = .returned (.bool true) ∧ Below w.heap.size w w' := by
  clear _hq
  obtain ⟨A, c, rfl, hlc, hc, hcell⟩ := hv
  have HC := Lib.hid hcell
  have GL := Lib.hid (glives_any w)
  clear hcell
  by_cases h30 : 30 < ls.length
  · have hi : (30 : Int) < (ls.length : Int) := by omega
    go_enter Tryd.func6, Tryd.ntmps6
    go_wp2_with fail
    refine GL.out.mono ?_
    rintro e w2 ⟨rfl, b2⟩
    have B2 := Lib.hid b2
    clear b2
    go_wp2
    go_ret
    exact ⟨rfl, B2.out⟩
  have hi : ¬ (30 : Int) < (ls.length : Int) := by omega
  by_cases h200 : 200 < q.size
  · have hi2 : (200 : Int) < (q.size : Int) := by omega
    go_enter Tryd.func6, Tryd.ntmps6
    go_wp2_with fail
    refine GL.out.mono ?_
    rintro e w2 ⟨rfl, b2⟩
    have B2 := Lib.hid b2
    clear b2
    go_wp2
    go_ret
    exact ⟨rfl, B2.out⟩
  have hi2 : ¬ (200 : Int) < (q.size : Int) := by omega
  have LB : Hid ((bytes ls).length = ls.length) := by unfold Hid bytes; rw [List.length_map]
  go_enter Tryd.func6, Tryd.ntmps6
  go_wp2_with fail
  go_loopw [5, 6] (fun tv iv wr => ∃ (k : Nat) (t : ByteArray), tv = .string t ∧ iv = .int .i64 (k : Int) ∧ k ≤ ls.length ∧ t.size ≤ 63 * k ∧ wr = w ∧ Hid (dat t = remT ((bytes ls).take k)) ∧ Hid (∀ r ∈ (bytes ls).take k, (10 : UInt8) ∉ r)) (fun _ iv _ => ls.length - (intOf iv).toNat)
  case atStart => exact ⟨0, ⟨#[]⟩, rfl, rfl, Nat.zero_le _, Nat.le_refl _, rfl, rfl, fun r hr => by cases hr⟩
  case round =>
    obtain ⟨k, t, rfl, rfl, hk, hts, rfl, hdt, hno⟩ := hrel
    by_cases hlt : k < ls.length
    case neg =>
      have hki : ¬ (k : Int) < (ls.length : Int) := by omega
      have DT : Hid (dat t = remT (bytes ls)) := by
        have := hdt.out
        rw [List.take_of_length_le (by have := LB.out; omega)] at this
        exact this
      have NO : Hid (∀ r ∈ bytes ls, (10 : UInt8) ∉ r) := by
        have := hno.out
        rw [List.take_of_length_le (by have := LB.out; omega)] at this
        exact this
      have LT : Hid ((remT (bytes ls)).length ≤ 4000) := by unfold Hid; rw [← DT.out, datsz]; omega
      have R1 : Hid (readP (dat t) = some []) := by unfold Hid; rw [DT.out]; exact read_rem NO.out LT.out
      have R2 : Hid (readP (dat (t ++ ⟨#[45, 32, 42, 42]⟩)) = some [(false, allP)]) := by unfold Hid; rw [dat_append, DT.out]; exact read_rem_all NO.out LT.out
      have nb : ¬ 9223372036854775807 < t.size + 4 := by omega
      clear hdt hno
      go_wp2_with fail
      refine (read_some _ t _ R1.out).mono ?_
      rintro e w2 ⟨g1, L1, hL1, rfl, r1, b2⟩
      have Q1 := Lib.hid r1
      have hl1 : L1.length = 0 := by have := congrArg List.length hL1; rw [List.length_map] at this; exact this
      have HL1 := Lib.hid hL1; have HN1 := Lib.hid hl1
      have B2 := Lib.hid b2
      clear r1 b2 hL1 hl1
      go_wp2_with fail
      refine (read_some _ _ _ R2.out).mono ?_
      rintro e w3 ⟨g2, L2, hL2, rfl, r2, b3⟩
      have Q2 := Lib.hid r2
      have Q1 := Lib.hid (Q1.out.under b3)
      have hl2 : L2.length = 1 := by have := congrArg List.length hL2; rw [List.length_map] at this; exact this
      have HL2 := Lib.hid hL2; have HN2 := Lib.hid hl2
      have B3 : Hid (Below wr.heap.size wr w3) := B2.out.trans (b3.mono B2.out.size)
      clear r2 b3 hL2 hl2
      go_wp2_with fail
      refine (refgood_any q _).mono ?_
      rintro e w4 ⟨rfl, b4⟩
      have Q1 := Lib.hid (Q1.out.under b4)
      have Q2 := Lib.hid (Q2.out.under b4)
      have B4 : Hid (Below wr.heap.size wr w4) := B3.out.trans (b4.mono B3.out.size)
      clear b4
      obtain ⟨gq, hgq⟩ : ∃ b, b = goodB (dat q) := ⟨_, rfl⟩
      rw [← hgq]
      have E1 : Hid (letsP [] (dat q) = gq) := by unfold Hid; rw [lets_none, hgq]
      have E2 : Hid (letsP [(false, allP)] (dat q) = false) := lets_all _
      clear hgq
      go_wp2_with fail
      refine (lets_is _ _ _ _ _ HL1.out Q1.out _ E1.out).mono ?_
      rintro e w5 ⟨rfl, b5⟩
      have Q1 := Lib.hid (Q1.out.under b5)
      have Q2 := Lib.hid (Q2.out.under b5)
      have B5 : Hid (Below wr.heap.size wr w5) := B4.out.trans (b5.mono B4.out.size)
      clear b5
      go_wp2_with fail
      refine (lets_is _ _ _ _ _ HL2.out Q2.out _ E2.out).mono ?_
      rintro e w6 ⟨rfl, b6⟩
      have Q1 := Lib.hid (Q1.out.under b6)
      have Q2 := Lib.hid (Q2.out.under b6)
      have B6 : Hid (Below wr.heap.size wr w6) := B5.out.trans (b6.mono B5.out.size)
      clear b6
      go_wp2_with fail
      refine (len_is _ _ _ _ HN1.out Q1.out).mono ?_
      rintro e w7 ⟨rfl, b7⟩
      have Q2 := Lib.hid (Q2.out.under b7)
      have B7 : Hid (Below wr.heap.size wr w7) := B6.out.trans (b7.mono B6.out.size)
      clear b7
      go_wp2_with fail
      refine (len_is _ _ _ _ HN2.out Q2.out).mono ?_
      rintro e w8 ⟨rfl, b8⟩
      have B8 : Hid (Below wr.heap.size wr w8) := B7.out.trans (b8.mono B7.out.size)
      clear b8
      go_wp2_with fail
      refine (lets_nil _ q).mono ?_
      rintro e w9 ⟨rfl, b9⟩
      have B9 : Hid (Below wr.heap.size wr w9) := B8.out.trans (b9.mono B8.out.size)
      clear b9
      go_wp2_with fail
      refine (len_nil _).mono ?_
      rintro e w10 ⟨rfl, b10⟩
      have B10 : Hid (Below wr.heap.size wr w10) := B9.out.trans (b10.mono B9.out.size)
      clear b10
      have PK := Lib.hid (pick_nil (w10.alloc (.cells #[.string q] 9)) (some ⟨w10.heap.size, 0, none⟩) 1 [q] (fun _ => ⟨w10.heap.size, 0, _, rfl, blk_new w10 _, fun j u hj => by rw [Nat.zero_add, List.getElem?_toArray]; exact hj⟩) (by show 1 ≤ 1000000; decide))
      have B11 : Hid (Below wr.heap.size wr (w10.alloc (.cells #[.string q] 9))) := B10.out.alloc B10.out.size _
      go_wp2_with fail
      refine PK.out.mono ?_
      rintro e w11 ⟨rfl, b11⟩
      have B12 : Hid (Below wr.heap.size wr w11) := B11.out.trans (b11.mono B11.out.size)
      clear b11
      go_wp2_with fail
      refine (glives_any _).mono ?_
      rintro e w12 ⟨rfl, b12⟩
      have B13 : Hid (Below wr.heap.size wr w12) := B12.out.trans (b12.mono B12.out.size)
      clear b12
      go_wp2
      go_ret
      exact ⟨rfl, B13.out⟩
    have hki : (k : Int) < (ls.length : Int) := by omega
    obtain ⟨b, o, rfl, hcc⟩ := HC.out (by omega)
    have cx := hcc k hlt
    have TK : Hid ((bytes ls).take (k + 1) = (bytes ls).take k ++ [dat ls[k]]) := by
      unfold Hid
      rw [List.take_succ_eq_append_getElem (by have := LB.out; omega)]
      unfold bytes
      rw [List.getElem_map]
    generalize ls[k] = x at cx TK
    clear hcc
    by_cases h60 : 60 < x.size
    · have hi3 : (60 : Int) < (x.size : Int) := by omega
      go_wp2_with fail
      refine GL.out.mono ?_
      rintro e w2 ⟨rfl, b2⟩
      have B2 := Lib.hid b2
      clear b2
      go_wp2
      go_ret
      exact ⟨rfl, B2.out⟩
    have hi3 : ¬ (60 : Int) < (x.size : Int) := by omega
    obtain ⟨wo, hwo⟩ : ∃ wo, wo = wr := ⟨_, rfl⟩
    subst hwo
    go_wp2_with fail
    go_loopw [7] (fun jv wr => ∃ j : Nat, jv = .int .i64 (j : Int) ∧ j ≤ x.size ∧ wr = wo ∧ Hid (∀ i (h : i < j) (hx : i < x.size), x[i] ≠ 10)) (fun jv _ => x.size - (intOf jv).toNat)
    case atStart => exact ⟨0, rfl, Nat.zero_le _, rfl, fun i h _ => by omega⟩
    case round =>
      obtain ⟨j, rfl, hj, rfl, hall⟩ := hrel
      have wkj : IntKind.i64.wrap ((j : Int) + 1) = (j : Int) + 1 := by rw [IntKind.wrap_i64]; omega
      have wkk : IntKind.i64.wrap ((k : Int) + 1) = (k : Int) + 1 := by rw [IntKind.wrap_i64]; omega
      by_cases hjl : j < x.size
      case neg =>
        have hji : ¬ (j : Int) < (x.size : Int) := by omega
        have NX : (10 : UInt8) ∉ dat x := fun hm => by
          obtain ⟨i, hi, e⟩ := List.mem_iff_getElem.1 hm
          rw [datsz] at hi
          rw [dat_get x i hi] at e
          exact hall.out i (by omega) hi e
        have NN : Hid (∀ r ∈ (bytes ls).take (k + 1), (10 : UInt8) ∉ r) := fun r hr => by
          rw [TK.out] at hr
          rcases List.mem_append.1 hr with hr | hr
          · exact hno.out r hr
          · rw [List.mem_singleton] at hr
            subst hr
            exact NX
        have DN : Hid (dat (t ++ ⟨#[35]⟩ ++ x ++ ⟨#[10, 10]⟩) = remT ((bytes ls).take (k + 1))) := by
          unfold Hid
          rw [TK.out, remT_snoc, dat_append, dat_append, dat_append, hdt.out]
          simp [dat]
        have SN : Hid ((t ++ ⟨#[35]⟩ ++ x ++ ⟨#[10, 10]⟩).size ≤ 63 * (k + 1)) := by
          unfold Hid
          rw [ByteArray.size_append, ByteArray.size_append, ByteArray.size_append]
          show t.size + 1 + x.size + 2 ≤ _
          omega
        have nb1 : ¬ 9223372036854775807 < t.size + 1 := by omega
        have nb2 : ¬ 9223372036854775807 < t.size + 1 + x.size := by omega
        have nb3 : ¬ 9223372036854775807 < t.size + 1 + x.size + 2 := by omega
        clear hall NX hno hdt TK
        go_wp2
        go_roundw
        case rel => first | exact ⟨k + 1, _, rfl, by go_num, hlt, SN.out, by trivial, DN, NN⟩ | ((repeat apply Exists.intro); refine ⟨?_, rfl⟩; exact ⟨k + 1, _, rfl, by go_num, hlt, SN.out, by trivial, DN, NN⟩)
        case measure => simp [intOf]; omega
      have hji : (j : Int) < (x.size : Int) := by omega
      have E10 : ((((x[j]).toNat : Nat) : Int) == 10) = (x[j] == 10) := u8_lit _ 10
      by_cases h10 : x[j] = 10
      · rw [show (x[j] == 10) = true from beq_iff_eq.2 h10] at E10
        clear h10
        go_wp2_with fail
        refine GL.out.mono ?_
        rintro e w2 ⟨rfl, b2⟩
        have B2 := Lib.hid b2
        clear b2
        go_wp2
        go_ret
        exact ⟨rfl, B2.out⟩
      · rw [show (x[j] == 10) = false from beq_false_of_ne h10] at E10
        have NN : Hid (∀ i (h : i < j + 1) (hx : i < x.size), x[i] ≠ 10) := fun i h hx => by
          by_cases e : i = j
          · subst e; exact h10
          · exact hall.out i (by omega) hx
        clear h10 hall
        go_wp2
        go_roundw
        case rel => first | exact ⟨j + 1, by go_num, hjl, by trivial, NN⟩ | ((repeat apply Exists.intro); refine ⟨?_, rfl⟩; exact ⟨j + 1, by go_num, hjl, by trivial, NN⟩)
        case measure => simp [intOf]; omega
end Go.Proofs.YtmagidkgajmhoaaDoor
