/- JnS: the walk of the law JournalOpens (written by gen_jopens.py). -/
import Derived.Test.YtpaabfadniakoaaJnR
set_option linter.unusedVariables false
set_option linter.unusedSimpArgs false
namespace Go.Proofs.Ytpaabfadniakoaa
open Go.RowKit

theorem rneed_any (w : World) (p : Int) : Calls Try.prog 9 #[.int .i64 p] w fun e w' => e = .returned (.int .i64 (needN p)) ∧ w = w' := by
  unfold needN
  by_cases h1 : p < 1
  · have d1 : decide (p < 1) = true := by simpa using h1
    rw [if_pos (.inl h1)]
    go_enter Try.func9, Try.ntmps9
    go_wp2
    go_ret
    exact ⟨rfl, rfl⟩
  · by_cases h2 : 128 < p
    · have d1 : decide (p < 1) = false := by simpa using h1
      have d2 : decide (128 < p) = true := by simpa using h2
      rw [if_pos (.inr h2)]
      go_enter Try.func9, Try.ntmps9
      go_wp2
      go_ret
      exact ⟨rfl, rfl⟩
    · have d1 : decide (p < 1) = false := by simpa using h1
      have d2 : decide (128 < p) = false := by simpa using h2
      rw [if_neg (by omega)]
      go_enter Try.func9, Try.ntmps9
      go_wp2
      go_ret
      exact ⟨rfl, rfl⟩
theorem jopen_nil (w : World) (p : Int) : Calls Try.prog 11 #[.pointer none, .int .i64 p] w fun e w' => e = .returned (.tuple #[.pointer none, .int .i64 1]) ∧ Below w.heap.size w w' := by
  by_cases hb : needN p = 0
  · exact open_zero w _ p hb
  · exact open_nil w p hb
set_option maxHeartbeats 3200000 in
set_option maxRecDepth 100000 in
theorem journalOpens_walk (w : World) (n : Int) (_w : (Lit.int .i64 n).wf = true) (p : Int) (_w2 : (Lit.int .i64 p).wf = true) : Calls Try.prog 3 #[.int .i64 n, .int .i64 p] w fun e w' => e = .returned (.bool true) ∧ Below w.heap.size w w' := by
  clear _w _w2
  have NEED := fun W => Lib.hid (need_any W p)
  have RNEED := fun W => Lib.hid (rneed_any W p)
  by_cases hn : n < 1 ∨ 2048 < n
  · have HN := Lib.hid hn
    obtain ⟨nn, hnn⟩ : ∃ nn, nn = needN p := ⟨_, rfl⟩
    rw [← hnn] at NEED RNEED
    clear hnn hn
    go_enter Try.func3, Try.ntmps3
    go_wp2_with fail
    refine (NEED _).out.mono ?_
    rintro e w' ⟨rfl, rfl⟩
    go_wp2_with fail
    refine (RNEED _).out.mono ?_
    rintro e w' ⟨rfl, rfl⟩
    have dnn : (nn != nn) = false := by simp
    go_wp2_with fail
    refine (read_nil _ 0).mono ?_
    rintro e w' ⟨rfl, rfl⟩
    go_wp2_with fail
    refine (jopen_nil w p).mono ?_
    rintro e w1 ⟨rfl, b1⟩
    have B1 := Lib.hid b1
    clear b1
    go_wp2_with fail
    refine (pages_nil _).mono ?_
    rintro e w' ⟨rfl, rfl⟩
    go_wp2_with fail
    refine (commit_nil _ _ _ _).mono ?_
    rintro e w' ⟨rfl, rfl⟩
    go_wp2_with fail
    refine (new_no _ n HN.out).mono ?_
    rintro e w' ⟨rfl, rfl⟩
    go_wp2_with fail
    refine (jlives_any _).mono ?_
    rintro e w9 ⟨rfl, b9⟩
    have B9 : Hid (Below w.heap.size w w9) := B1.out.trans (b9.mono B1.out.size)
    clear b9
    go_wp2
    go_ret
    exact ⟨rfl, B9.out⟩
  · obtain ⟨m, rfl⟩ := Int.eq_ofNat_of_zero_le (show 0 ≤ n by omega)
    have HN : Hid (1 ≤ m ∧ m ≤ 2048) := by unfold Hid; omega
    clear hn
    by_cases h0 : needN p = 0
    · obtain ⟨nn, hnn⟩ : ∃ nn, nn = needN p := ⟨_, rfl⟩
      rw [← hnn] at NEED RNEED
      have HZ : Hid (needN p = 0) := h0
      rw [h0] at hnn
      have e0 : (nn == 0) = true := by simp [hnn]
      clear hnn h0
      go_enter Try.func3, Try.ntmps3
      go_wp2_with fail
      refine (NEED _).out.mono ?_
      rintro e w' ⟨rfl, rfl⟩
      go_wp2_with fail
      refine (RNEED _).out.mono ?_
      rintro e w' ⟨rfl, rfl⟩
      have dnn : (nn != nn) = false := by simp
      go_wp2_with fail
      refine (read_nil _ 0).mono ?_
      rintro e w' ⟨rfl, rfl⟩
      go_wp2_with fail
      refine (jopen_nil w p).mono ?_
      rintro e w1 ⟨rfl, b1⟩
      have B1 := Lib.hid b1
      clear b1
      go_wp2_with fail
      refine (pages_nil _).mono ?_
      rintro e w' ⟨rfl, rfl⟩
      go_wp2_with fail
      refine (commit_nil _ _ _ _).mono ?_
      rintro e w' ⟨rfl, rfl⟩
      go_wp2_with fail
      refine (new_h _ m (by have := HN.out; omega) (by have := HN.out; omega)).mono ?_
      rintro e w2 ⟨g, F, rfl, hd, hF, b2⟩
      have HD := Lib.hid hd; have HF : Hid (∀ k, F k → w.heap.size ≤ k) := fun k hk => Nat.le_trans B1.out.size (hF k hk)
      have B2 : Hid (Below w.heap.size w w2) := B1.out.trans (b2.mono B1.out.size)
      clear hd hF b2
      go_wp2_with fail
      refine (open_zero _ _ p HZ.out).mono ?_
      rintro e w3 ⟨rfl, b3⟩
      have B3 : Hid (Below w.heap.size w w3) := B2.out.trans (b3.mono B2.out.size)
      clear b3
      go_wp2_with fail
      refine (RNEED _).out.mono ?_
      rintro e w' ⟨rfl, rfl⟩
      go_wp2_with fail
      refine (jlives_any _).mono ?_
      rintro e w9 ⟨rfl, b9⟩
      have B9 : Hid (Below w.heap.size w w9) := B3.out.trans (b9.mono B3.out.size)
      clear b9
      go_wp2
      go_ret
      exact ⟨rfl, B9.out⟩
    · by_cases h1 : (m : Int) < needN p
      · obtain ⟨nn, hnn⟩ : ∃ nn, nn = needN p := ⟨_, rfl⟩
        rw [← hnn] at NEED RNEED
        have HZ := Lib.hid h0; have HL : Hid (((Dk.new m).l.length : Int) < needN p) := by unfold Hid; simpa [Dk.new] using h1
        have e0 : (nn == 0) = false := by rw [beq_eq_false_iff_ne, hnn]; exact h0
        have e1 : decide ((m : Int) < nn) = true := by rw [hnn]; simpa using h1
        clear hnn h0 h1
        go_enter Try.func3, Try.ntmps3
        go_wp2_with fail
        refine (NEED _).out.mono ?_
        rintro e w' ⟨rfl, rfl⟩
        go_wp2_with fail
        refine (RNEED _).out.mono ?_
        rintro e w' ⟨rfl, rfl⟩
        have dnn : (nn != nn) = false := by simp
        go_wp2_with fail
        refine (read_nil _ 0).mono ?_
        rintro e w' ⟨rfl, rfl⟩
        go_wp2_with fail
        refine (jopen_nil w p).mono ?_
        rintro e w1 ⟨rfl, b1⟩
        have B1 := Lib.hid b1
        clear b1
        go_wp2_with fail
        refine (pages_nil _).mono ?_
        rintro e w' ⟨rfl, rfl⟩
        go_wp2_with fail
        refine (commit_nil _ _ _ _).mono ?_
        rintro e w' ⟨rfl, rfl⟩
        go_wp2_with fail
        refine (new_h _ m (by have := HN.out; omega) (by have := HN.out; omega)).mono ?_
        rintro e w2 ⟨g, F, rfl, hd, hF, b2⟩
        have HD := Lib.hid hd; have HF : Hid (∀ k, F k → w.heap.size ≤ k) := fun k hk => Nat.le_trans B1.out.size (hF k hk)
        have B2 : Hid (Below w.heap.size w w2) := B1.out.trans (b2.mono B1.out.size)
        clear hd hF b2
        go_wp2_with fail
        refine (open_few _ F g _ HD.out p HZ.out HL.out).mono ?_
        rintro e w3 ⟨rfl, b3⟩
        have B3 : Hid (Below w.heap.size w w3) := B2.out.trans (b3.mono B2.out.size)
        clear b3
        go_wp2_with fail
        refine (RNEED _).out.mono ?_
        rintro e w' ⟨rfl, rfl⟩
        go_wp2_with fail
        refine (jlives_any _).mono ?_
        rintro e w9 ⟨rfl, b9⟩
        have B9 : Hid (Below w.heap.size w w9) := B3.out.trans (b9.mono B3.out.size)
        clear b9
        go_wp2
        go_ret
        exact ⟨rfl, B9.out⟩
      · have hp : 1 ≤ p ∧ p ≤ 128 ∧ needN p = 8 * p + 1 := by
          unfold needN at h0 ⊢
          by_cases h : p < 1 ∨ 128 < p
          · rw [if_pos h] at h0; exact absurd rfl h0
          · rw [if_neg h]; omega
        obtain ⟨P, rfl⟩ := Int.eq_ofNat_of_zero_le (show 0 ≤ p by omega)
        have h1P : Hid (1 ≤ P ∧ P ≤ 128 ∧ 8 * P + 1 ≤ m) := by unfold Hid; omega
        obtain ⟨nn, hnn⟩ : ∃ nn, nn = needN (P : Int) := ⟨_, rfl⟩
        rw [← hnn] at NEED RNEED
        have e0 : (nn == 0) = false := by rw [beq_eq_false_iff_ne, hnn]; exact h0
        have e1 : decide ((m : Int) < nn) = false := by rw [hnn]; simpa using h1
        have HNW := HN
        have SN := Lib.hid (sto_new (P := P) (n := m) (by have := HN.out; omega) (by have := HN.out; omega) h1P.out.2.2)
        have FN : Hid (Fw 600 (Dk.new m)) := ⟨by simp [Dk.new], by simp [Dk.new]⟩
        have OK : Hid (run (Dk.new m) (openK P (Dk.new m) ((Dk.new m).read 0).1) = (Dk.new m, 0)) := by unfold Hid; rw [read_new (by decide) (by have := HN.out; omega), openK_zero]; rfl
        clear hnn h0 h1 hp
        go_enter Try.func3, Try.ntmps3
        go_wp2_with fail
        refine (NEED _).out.mono ?_
        rintro e w' ⟨rfl, rfl⟩
        go_wp2_with fail
        refine (RNEED _).out.mono ?_
        rintro e w' ⟨rfl, rfl⟩
        have dnn : (nn != nn) = false := by simp
        go_wp2_with fail
        refine (read_nil _ 0).mono ?_
        rintro e w' ⟨rfl, rfl⟩
        go_wp2_with fail
        refine (jopen_nil w (P : Int)).mono ?_
        rintro e w1 ⟨rfl, b1⟩
        have B1 := Lib.hid b1
        clear b1
        go_wp2_with fail
        refine (pages_nil _).mono ?_
        rintro e w' ⟨rfl, rfl⟩
        go_wp2_with fail
        refine (commit_nil _ _ _ _).mono ?_
        rintro e w' ⟨rfl, rfl⟩
        go_wp2_with fail
        refine (new_h _ m (by have := HN.out; omega) (by have := HN.out; omega)).mono ?_
        rintro e w2 ⟨g, F, rfl, hd, hF, b2⟩
        have HD := Lib.hid hd; have HF : Hid (∀ k, F k → w.heap.size ≤ k) := fun k hk => Nat.le_trans B1.out.size (hF k hk)
        have B2 : Hid (Below w.heap.size w w2) := B1.out.trans (b2.mono B1.out.size)
        clear hd hF b2
        go_wp2_with fail
        have OP := Lib.hid (open_any w2 F g P (Dk.new m) HD.out SN.out h1P.out.1 h1P.out.2.1 FN.out)
        unfold OpenTo at OP
        rw [OK.out] at OP
        refine OP.out.mono ?_
        rintro e w3 ⟨v, F3, rfl, ht, hv⟩
        rw [if_pos (by trivial)] at hv
        obtain ⟨gj, rfl, hj, hnj, hgj⟩ := hv
        have HT := Lib.hid ht; have HJ := Lib.hid hj
        have B3 : Hid (Below w.heap.size w w3) := B2.out.trans (HT.out.touch.below B2.out.size HF.out)
        clear ht hj hnj hgj OP
        go_wp2_with fail
        refine (RNEED _).out.mono ?_
        rintro e w' ⟨rfl, rfl⟩
        go_wp2_with fail
        refine (pages_any _ gj g P HJ.out).mono ?_
        rintro e w' ⟨rfl, rfl⟩
        have epp : ((P : Int) == (P : Int)) = true := by simp
        have epp2 : (P == P) = true := by simp
        go_wp2_with fail
        have WR := Lib.hid (writes_h HT.out.has)
        rw [show (Dk.new m).writes = 0 from rfl] at WR
        refine WR.out.mono ?_
        rintro e w' ⟨rfl, rfl⟩
        clear WR
        go_wp2_with fail
        refine (jlives_any _).mono ?_
        rintro e w9 ⟨rfl, b9⟩
        have B9 : Hid (Below w.heap.size w w9) := B3.out.trans (b9.mono B3.out.size)
        clear b9
        go_wp2
        go_ret
        exact ⟨rfl, B9.out⟩
end Go.Proofs.Ytpaabfadniakoaa
