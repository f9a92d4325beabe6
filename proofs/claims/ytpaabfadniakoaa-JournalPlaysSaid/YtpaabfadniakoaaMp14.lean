/- JnS: the walk of the law JournalOpens (written by gen_jopens.py). -/
import Derived.Test.YtpaabfadniakoaaMp13
set_option linter.unusedVariables false
set_option linter.unusedSimpArgs false
namespace Go.Proofs.Ytpaabfadniakoaa
open Go.RowKit

theorem rneed_any (w : World) (p : Int) : Calls Try.prog 9 #[.int .i64 p] w fun e w' => e = .returned (.int .i64 (needN p)) ∧ w = w' := by
  unfold needN
  by_cases h1 : p < 1
  · have d1 : decide (p < 1) = true := by simpa using h1
    rw [if_pos (.inl h1)]
    go_enter Try.func9, Try.ntmps9
    go_wp2
    go_ret
    exact ⟨rfl, rfl⟩
  · by_cases h2 : 128 < p
    · have d1 : decide (p < 1) = false := by simpa using h1
      have d2 : decide (128 < p) = true := by simpa using h2
      rw [if_pos (.inr h2)]
      go_enter Try.func9, Try.ntmps9
      go_wp2
      go_ret
      exact ⟨rfl, rfl⟩
    · have d1 : decide (p < 1) = false := by simpa using h1
      have d2 : decide (128 < p) = false := by simpa using h2
      rw [if_neg (by omega)]
      go_enter Try.func9, Try.ntmps9
      go_wp2
      go_ret
      exact ⟨rfl, rfl⟩
theorem jopen_nil (w : World) (p : Int) : Calls Try.prog 11 #[.pointer none, .int .i64 p] w fun e w' => e = .returned (.tuple #[.pointer none, .int .i64 1]) ∧ Below w.heap.size w w' := by
  by_cases hb : needN p = 0
  · exact open_zero w _ p hb
  · exact open_nil w p hb
set_option maxHeartbeats 3200000 in
set_option maxRecDepth 100000 in
theorem journalOpens_walk (w : World) (n : Int) (_w : (Lit.int .i64 n).wf = true) (p : Int) (_w2 : (Lit.int .i64 p).wf = true) : Calls Try.prog 3 #[.int .i64 n, .int .i64 p] w fun e w' => e = .returned (.bool true) ∧ Below w.heap.size w w' := by
  clear _w _w2
  have NEED := fun W => Lib.hid (need_any W p)
  have RNEED := fun W => Lib.hid (rneed_any W p)
  by_cases hn : n < 1 ∨ 2048 < n
  · have HN := Lib.hid hn
    obtain ⟨nn, hnn⟩ : ∃ nn, nn = needN p := ⟨_, rfl⟩
    rw [← hnn] at NEED RNEED
    clear hnn hn
    go_enter Try.func3, Try.ntmps3
    go_wp2_with fail
    refine (NEED _).out.mono ?_
    rintro e w' ⟨rfl, rfl⟩
    go_wp2_with fail
    refine (RNEED _).out.mono ?_
    rintro e w' ⟨rfl, rfl⟩
    have dnn : (nn != nn) = false := by simp
    go_wp2_with fail
    refine (read_nil _ 0).mono ?_
    rintro e w' ⟨rfl, rfl⟩
    go_wp2_with fail
    refine (jopen_nil w p).mono ?_
    rintro e w1 ⟨rfl, b1⟩
    have B1 := Lib.hid b1
    clear b1
    go_wp2_with fail
    refine (pages_nil _).mono ?_
    rintro e w' ⟨rfl, rfl⟩
    go_wp2_with fail
    refine (commit_nil _ _ _ _).mono ?_
    rintro e w' ⟨rfl, rfl⟩
    go_wp2_with fail
    refine (new_no _ n HN.out).mono ?_
    rintro e w' ⟨rfl, rfl⟩
    go_wp2_with fail
    refine (jlives_any _).mono ?_
    rintro e w9 ⟨rfl, b9⟩
    have B9 : Hid (Below w.heap.size w w9) := B1.out.trans (b9.mono B1.out.size)
    clear b9
    go_wp2
    go_ret
    exact ⟨rfl, B9.out⟩
  · obtain ⟨m, rfl⟩ := Int.eq_ofNat_of_zero_le (show 0 ≤ n by omega)
    have HN : Hid (1 ≤ m ∧ m ≤ 2048) := by unfold Hid; omega
    clear hn
    by_cases h0 : needN p = 0
    · obtain ⟨nn, hnn⟩ : ∃ nn, nn = needN p := ⟨_, rfl⟩
      rw [← hnn] at NEED RNEED
      have HZ : Hid (needN p = 0) := h0
      rw [h0] at hnn
      have e0 : (nn == 0) = true := by simp [hnn]
      clear hnn h0
      go_enter Try.func3, Try.ntmps3
      go_wp2_with fail
      refine (NEED _).out.mono ?_
      rintro e w' ⟨rfl, rfl⟩
      go_wp2_with fail
      refine (RNEED _).out.mono ?_
      rintro e w' ⟨rfl, rfl⟩
      have dnn : (nn != nn) = false := by simp
      go_wp2_with fail
      refine (read_nil _ 0).mono ?_
      rintro e w' ⟨rfl, rfl⟩
      go_wp2_with fail
      refine (jopen_nil w p).mono ?_
      rintro e w1 ⟨rfl, b1⟩
      have B1 := Lib.hid b1
      clear b1
      go_wp2_with fail
      refine (pages_nil _).mono ?_
      rintro e w' ⟨rfl, rfl⟩
      go_wp2_with fail
      refine (commit_nil _ _ _ _).mono ?_
      rintro e w' ⟨rfl, rfl⟩
      go_wp2_with fail
      refine (new_h _ m (by have := HN.out; omega) (by have := HN.out; omega)).mono ?_
      rintro e w2 ⟨g, F, rfl, hd, hF, b2⟩
      have HD := Lib.hid hd; have HF : Hid (∀ k, F k → w.heap.size ≤ k) := fun k hk => Nat.le_trans B1.out.size (hF k hk)
      have B2 : Hid (Below w.heap.size w w2) := B1.out.trans (b2.mono B1.out.size)
      clear hd hF b2
      go_wp2_with fail
      refine (open_zero _ _ p HZ.out).mono ?_
      rintro e w3 ⟨rfl, b3⟩
      have B3 : Hid (Below w.heap.size w w3) := B2.out.trans (b3.mono B2.out.size)
      clear b3
      go_wp2_with fail
      refine (RNEED _).out.mono ?_
      rintro e w' ⟨rfl, rfl⟩
      go_wp2_with fail
      refine (jlives_any _).mono ?_
      rintro e w9 ⟨rfl, b9⟩
      have B9 : Hid (Below w.heap.size w w9) := B3.out.trans (b9.mono B3.out.size)
      clear b9
      go_wp2
      go_ret
      exact ⟨rfl, B9.out⟩
    · by_cases h1 : (m : Int) < needN p
      · obtain ⟨nn, hnn⟩ : ∃ nn, nn = needN p := ⟨_, rfl⟩
        rw [← hnn] at NEED RNEED
        have HZ := Lib.hid h0; have HL : Hid (((Dk.new m).l.length : Int) < needN p) := by unfold Hid; simpa [Dk.new] using h1
        have e0 : (nn == 0) = false := by rw [beq_eq_false_iff_ne, hnn]; exact h0
        have e1 : decide ((m : Int) < nn) = true := by rw [hnn]; simpa using h1
        clear hnn h0 h1
        go_enter Try.func3, Try.ntmps3
        go_wp2_with fail
        refine (NEED _).out.mono ?_
        rintro e w' ⟨rfl, rfl⟩
        go_wp2_with fail
        refine (RNEED _).out.mono ?_
        rintro e w' ⟨rfl, rfl⟩
        have dnn : (nn != nn) = false := by simp
        go_wp2_with fail
        refine (read_nil _ 0).mono ?_
        rintro e w' ⟨rfl, rfl⟩
        go_wp2_with fail
        refine (jopen_nil w p).mono ?_
        rintro e w1 ⟨rfl, b1⟩
        have B1 := Lib.hid b1
        clear b1
        go_wp2_with fail
        refine (pages_nil _).mono ?_
        rintro e w' ⟨rfl, rfl⟩
        go_wp2_with fail
        refine (commit_nil _ _ _ _).mono ?_
        rintro e w' ⟨rfl, rfl⟩
        go_wp2_with fail
        refine (new_h _ m (by have := HN.out; omega) (by have := HN.out; omega)).mono ?_
        rintro e w2 ⟨g, F, rfl, hd, hF, b2⟩
        have HD := Lib.hid hd; have HF : Hid (∀ k, F k → w.heap.size ≤ k) := fun k hk => Nat.le_trans B1.out.size (hF k hk)
        have B2 : Hid (Below w.heap.size w w2) := B1.out.trans (b2.mono B1.out.size)
        clear hd hF b2
        go_wp2_with fail
        refine (open_few _ F g _ HD.out p HZ.out HL.out).mono ?_
        rintro e w3 ⟨rfl, b3⟩
        have B3 : Hid (Below w.heap.size w w3) := B2.out.trans (b3.mono B2.out.size)
        clear b3
        go_wp2_with fail
        refine (RNEED _).out.mono ?_
        rintro e w' ⟨rfl, rfl⟩
        go_wp2_with fail
        refine (jlives_any _).mono ?_
        rintro e w9 ⟨rfl, b9⟩
        have B9 : Hid (Below w.heap.size w w9) := B3.out.trans (b9.mono B3.out.size)
        clear b9
        go_wp2
        go_ret
        exact ⟨rfl, B9.out⟩
      · have hp : 1 ≤ p ∧ p ≤ 128 ∧ needN p = 8 * p + 1 := by
          unfold needN at h0 ⊢
          by_cases h : p < 1 ∨ 128 < p
          · rw [if_pos h] at h0; exact absurd rfl h0
          · rw [if_neg h]; omega
        obtain ⟨P, rfl⟩ := Int.eq_ofNat_of_zero_le (show 0 ≤ p by omega)
        have h1P : Hid (1 ≤ P ∧ P ≤ 128 ∧ 8 * P + 1 ≤ m) := by unfold Hid; omega
        obtain ⟨nn, hnn⟩ : ∃ nn, nn = needN (P : Int) := ⟨_, rfl⟩
        rw [← hnn] at NEED RNEED
        have e0 : (nn == 0) = false := by rw [beq_eq_false_iff_ne, hnn]; exact h0
        have e1 : decide ((m : Int) < nn) = false := by rw [hnn]; simpa using h1
        have HNW := HN
        have SN := Lib.hid (sto_new (P := P) (n := m) (by have := HN.out; omega) (by have := HN.out; omega) h1P.out.2.2)
        have FN : Hid (Fw 600 (Dk.new m)) := ⟨by simp [Dk.new], by simp [Dk.new]⟩
        have OK : Hid (run (Dk.new m) (openK P (Dk.new m) ((Dk.new m).read 0).1) = (Dk.new m, 0)) := by unfold Hid; rw [read_new (by decide) (by have := HN.out; omega), openK_zero]; rfl
        clear hnn h0 h1 hp
        go_enter Try.func3, Try.ntmps3
        go_wp2_with fail
        refine (NEED _).out.mono ?_
        rintro e w' ⟨rfl, rfl⟩
        go_wp2_with fail
        refine (RNEED _).out.mono ?_
        rintro e w' ⟨rfl, rfl⟩
        have dnn : (nn != nn) = false := by simp
        go_wp2_with fail
        refine (read_nil _ 0).mono ?_
        rintro e w' ⟨rfl, rfl⟩
        go_wp2_with fail
        refine (jopen_nil w (P : Int)).mono ?_
        rintro e w1 ⟨rfl, b1⟩
        have B1 := Lib.hid b1
        clear b1
        go_wp2_with fail
        refine (pages_nil _).mono ?_
        rintro e w' ⟨rfl, rfl⟩
        go_wp2_with fail
        refine (commit_nil _ _ _ _).mono ?_
        rintro e w' ⟨rfl, rfl⟩
        go_wp2_with fail
        refine (new_h _ m (by have := HN.out; omega) (by have := HN.out; omega)).mono ?_
        rintro e w2 ⟨g, F, rfl, hd, hF, b2⟩
        have HD := Lib.hid hd; have HF : Hid (∀ k, F k → w.heap.size ≤ k) := fun k hk => Nat.le_trans B1.out.size (hF k hk)
        have B2 : Hid (Below w.heap.size w w2) := B1.out.trans (b2.mono B1.out.size)
        clear hd hF b2
        go_wp2_with fail
        have OP := Lib.hid (open_any w2 F g P (Dk.new m) HD.out SN.out h1P.out.1 h1P.out.2.1 FN.out)
        unfold OpenTo at OP
        rw [OK.out] at OP
        refine OP.out.mono ?_
        rintro e w3 ⟨v, F3, rfl, ht, hv⟩
        rw [if_pos (by trivial)] at hv
        obtain ⟨gj, rfl, hj, hnj, hgj⟩ := hv
        have HT := Lib.hid ht; have HJ := Lib.hid hj
        have B3 : Hid (Below w.heap.size w w3) := B2.out.trans (HT.out.touch.below B2.out.size HF.out)
        clear ht hj hnj hgj OP
        go_wp2_with fail
        refine (RNEED _).out.mono ?_
        rintro e w' ⟨rfl, rfl⟩
        go_wp2_with fail
        refine (pages_any _ gj g P HJ.out).mono ?_
        rintro e w' ⟨rfl, rfl⟩
        have epp : ((P : Int) == (P : Int)) = true := by simp
        have epp2 : (P == P) = true := by simp
        go_wp2_with fail
        have WR := Lib.hid (writes_h HT.out.has)
        rw [show (Dk.new m).writes = 0 from rfl] at WR
        refine WR.out.mono ?_
        rintro e w' ⟨rfl, rfl⟩
        clear WR
        go_wp2_with fail
        refine (jlives_any _).mono ?_
        rintro e w9 ⟨rfl, b9⟩
        have B9 : Hid (Below w.heap.size w w9) := B3.out.trans (b9.mono B3.out.size)
        clear b9
        go_wp2
        go_ret
        exact ⟨rfl, B9.out⟩
end Go.Proofs.Ytpaabfadniakoaa
/- JnV: the walk of opened. -/
set_option linter.unusedVariables false
set_option linter.unusedSimpArgs false
namespace Go.Proofs.Ytpaabfadniakoaa
open Go.RowKit

/-- A store that opened hands out. -/
def StoreAt (w0 : World) (P : Nat) (g gj : Nat) (n : Int) (w : World) : Prop :=
  ∃ F d, HasDisk w F g d ∧ (∀ k, F k → w0.heap.size ≤ k) ∧ Jb w gj g P ∧ ¬ F gj ∧ w0.heap.size ≤ gj ∧ Rest P d ∧ d.writes ≤ n ∧ Below w0.heap.size w0 w
theorem chK_size {l : List PutM} {k : Nat} : ∀ x ∈ chK l k, x.2.size ≤ 3000 := fun x hx => by
  unfold chK at hx
  obtain ⟨y, _, rfl⟩ := List.mem_map.1 hx
  unfold chP
  simp only [Dk.rep_size]
  exact filledN_le _
theorem opened_no (w : World) (A : Option Addr) (n c : Nat) (p : Int) (hp : p < 1 ∨ 6 < p) : Calls Try.prog 17 #[.int .i64 p, .slice A n c] w fun e w' => e = .returned (.tuple #[.pointer none, .pointer none]) ∧ w = w' := by
  have hex : decide (p < 1) = true ∨ (decide (p < 1) = false ∧ decide (6 < p) = true) := by
    by_cases h0 : p < 1
    · exact .inl (by simpa using h0)
    · exact .inr ⟨by simpa using h0, by simp; omega⟩
  clear hp
  rcases hex with d1 | ⟨d1, d2⟩
  all_goals
    go_enter Try.func17, Try.ntmps17
    go_wp2
    go_ret2
    exact ⟨rfl, rfl⟩
set_option maxHeartbeats 1600000 in
set_option maxRecDepth 100000 in
theorem opened_any (w : World) (A : Option Addr) (c : Nat) (l : List PutM) (hl : RdPut w A l) (hn : l.length ≤ 9223372036854775807) (hc : l.length ≤ c) (hc2 : c ≤ 9223372036854775807) (P : Nat) (hP1 : 1 ≤ P) (hP : P ≤ 6) :
    Calls Try.prog 17 #[.int .i64 (P : Int), .slice A l.length c] w fun e w' => ∃ g gj, e = .returned (.tuple #[.pointer (some ⟨g, 0, none⟩), .pointer (some ⟨gj, 0, none⟩)]) ∧ StoreAt w P g gj 784 w' := by
  have HL := Lib.hid hl
  have d1 : decide ((P : Int) < 1) = false := by simp; omega
  have d2 : decide (6 < (P : Int)) = false := by simp; omega
  have d2' : decide (6 < P) = false := by simp; omega
  have RN := Lib.hid (rneed_any w (P : Int))
  obtain ⟨n, hnn⟩ : ∃ n : Nat, n = 8 * P + 1 := ⟨_, rfl⟩
  rw [show needN (P : Int) = (n : Int) by unfold needN; rw [if_neg (by omega)]; omega] at RN
  have NEW := Lib.hid (new_h w n (by omega) (by omega))
  have R0 : Hid (Rest P (Dk.new n)) := by rw [hnn]; exact rest_new (by omega)
  have F0 : Hid (Fw 600 (Dk.new n)) := ⟨by simp [Dk.new], by simp [Dk.new]⟩
  have W0 : Hid ((Dk.new n).writes = 0) := rfl
  generalize Dk.new n = d0 at NEW R0 F0 W0
  clear hl hnn
  go_enter Try.func17, Try.ntmps17
  go_wp2_with fail
  refine RN.out.mono ?_
  rintro e w' ⟨rfl, rfl⟩
  go_wp2_with fail
  refine NEW.out.mono ?_
  rintro e w1 ⟨g, F, rfl, hd, hF, b1⟩
  have OP := Lib.hid (open_any w1 F g P d0 hd R0.out.sto hP1 (by omega) F0.out)
  unfold OpenTo at OP
  rw [rest_open R0.out] at OP
  have HF := Lib.hid hF; have B1 := Lib.hid b1
  clear hd hF b1 NEW
  go_wp2_with fail
  refine OP.out.mono ?_
  rintro e w2 ⟨v, F2, rfl, ht, hv⟩
  rw [if_pos (by trivial)] at hv
  obtain ⟨gj, rfl, hj, hnj, hgj⟩ := hv
  have B2 : Hid (Below w.heap.size w w2) := B1.out.trans (ht.touch.below B1.out.size HF.out)
  have HF2 : Hid (∀ k, F2 k → w.heap.size ≤ k) := fun k hk => (ht.new k hk).elim (HF.out k) (fun h => Nat.le_trans B1.out.size h)
  have S0 : Hid (StoreAt w P g gj ((0 : Nat) : Int) w2) := ⟨F2, d0, ht.has, HF2.out, hj, hnj, Nat.le_trans B1.out.size hgj, R0.out, by rw [W0.out]; exact Int.le_refl _, B2.out⟩
  clear ht hj hnj hgj OP B2 HF2
  go_wp2_with fail
  go_loopw [10] (fun i wr => ∃ k : Nat, k ≤ 8 ∧ k ≤ l.length ∧ i = .int .i64 k ∧ Hid (StoreAt w P g gj ((98 * k : Nat) : Int) wr)) (fun i _ => 8 - (intOf i).toNat)
  case atStart => exact ⟨0, by decide, Nat.zero_le _, rfl, S0⟩
  case round =>
    obtain ⟨k, hk, hkl, rfl, hS⟩ := hrel
    have BB : Hid (Below w.heap.size w wr) := by obtain ⟨F, d, _, _, _, _, _, _, _, h⟩ := hS.out; exact h
    by_cases hlt : k < l.length
    · by_cases h8 : k < 8
      · obtain ⟨b, off, hA, hcs⟩ := HL.out (by omega)
        subst hA
        have hck := hcs k hlt
        have d8 : decide ((k : Int) < 8) = true := by simp; omega
        have RP : Hid (RdPut wr (some ⟨b, off + k * 3, none⟩) [l[k]]) := fun _ => ⟨b, off + k * 3, rfl, fun j hj => by
          obtain rfl : j = 0 := by simpa using hj
          exact ⟨cell_below BB.out hck.1, cell_below BB.out hck.2.1, cell_below BB.out hck.2.2⟩⟩
        clear hcs hck
        go_wp2_with fail
        refine (changes_any wr (some ⟨b, off + k * 3, none⟩) (c - k) [l[k]] RP.out (by simp)).mono ?_
        rintro e w3 ⟨va, vb, rfl, ha, hb, b3⟩
        obtain ⟨A2, c2, rfl⟩ := own_slice ha
        have S3 : Hid (StoreAt w P g gj ((98 * k : Nat) : Int) w3) := by
          obtain ⟨F, d, h1, h2, h3, h4, h5, h6, h7, h8⟩ := hS.out
          exact ⟨F, d, h1.below b3, h2, h3.below b3, h4, h5, h6, h7, h8.trans (b3.mono h8.size)⟩
        have RC := Lib.hid (rdC_own ha)
        have LC : (chK [l[k]] 12).length ≤ 1 := by unfold chK; rw [List.length_map, List.length_take]; simp
        have CZ := Lib.hid (chK_size (l := [l[k]]) (k := 12))
        generalize chK [l[k]] 12 = ch at RC LC CZ ⊢
        clear ha hb b3 hS RP BB
        obtain ⟨F3, d3, h1, h2, h3, h4, h5, h6, h7, h8⟩ := S3.out
        have CO := Lib.hid (commit_any w3 F3 gj g P d3 h1 h3 h4 (by omega) A2 c2 ch RC.out (by omega) (fun x hx => by have := CZ.out x hx; omega) ⟨by rw [h6.waits]; simp; omega, by omega⟩)
        have H2 := Lib.hid h2; have H5 := Lib.hid h5; have H6 := Lib.hid h6; have H7 := Lib.hid h7; have H8 := Lib.hid h8; have H3 := Lib.hid h3; have H4 := Lib.hid h4; have H1 := Lib.hid h1
        clear h1 h2 h3 h4 h5 h6 h7 h8 S3
        go_wp2_with fail
        refine CO.out.mono ?_
        rintro e w4 ⟨x, d4, F4, rfl, hco, ht⟩
        obtain ⟨k1, k2⟩ := rest_coto H6.out hco
        have S4 : Hid (StoreAt w P g gj ((98 * (k + 1) : Nat) : Int) w4) := by
          refine ⟨F4, d4, ht.has, fun j hj => (ht.new j hj).elim (H2.out j) (fun h => Nat.le_trans H8.out.size h), H3.out.touch ht.touch H4.out, fun h => ?_, H5.out, k1, ?_, H8.out.trans (ht.touch.below H8.out.size H2.out)⟩
          · rcases ht.new _ h with h | h
            · exact H4.out h
            · have := lt_of_block H3.out; omega
          · have := H7.out; omega
        clear hco ht k1 k2 CO
        go_wp2
        go_roundw
        case rel => first | exact ⟨k + 1, h8, hlt, by go_num, S4⟩ | ((repeat apply Exists.intro); refine ⟨?_, rfl⟩; exact ⟨k + 1, h8, hlt, by go_num, S4⟩)
        case measure => simp [intOf]; omega
      · have d8 : decide ((k : Int) < 8) = false := by simp; omega
        go_wp2
        go_ret2
        obtain ⟨F, d, h1, h2, h3, h4, h5, h6, h7, h8⟩ := hS.out
        exact ⟨g, gj, rfl, F, d, h1, h2, h3, h4, h5, h6, by omega, h8⟩
    · have hk2 : k = l.length := by omega
      subst hk2
      go_wp2
      go_ret2
      obtain ⟨F, d, h1, h2, h3, h4, h5, h6, h7, h8⟩ := hS.out
      exact ⟨g, gj, rfl, F, d, h1, h2, h3, h4, h5, h6, by omega, h8⟩
end Go.Proofs.Ytpaabfadniakoaa
/- JnW: the walks of pagesOf and sameTexts. -/
set_option linter.unusedVariables false
set_option linter.unusedSimpArgs false
namespace Go.Proofs.Ytpaabfadniakoaa
open Go.RowKit

def pgK (d : Dk) (P : Nat) (k : Nat) : List ByteArray := (List.range k).map (fun i => (jrd d P (i : Nat)).1)
theorem pgK_succ (d : Dk) (P k : Nat) : pgK d P (k + 1) = pgK d P k ++ [(jrd d P (k : Nat)).1] := by unfold pgK; rw [List.range_succ, List.map_append]; rfl
theorem pgK_len (d : Dk) (P k : Nat) : (pgK d P k).length = k := by unfold pgK; rw [List.length_map, List.length_range]
def svs (l : List ByteArray) : List Value := l.map Value.string
theorem svs_append (a b : List ByteArray) : svs (a ++ b) = svs a ++ svs b := List.map_append ..
theorem one_new (w : World) (a : Value) (t : TypeId) : ∀ j u, [a][j]? = some u → (w.alloc (.cells #[a] t)).cell? ((⟨w.heap.size, 0, none⟩ : Addr).add j) = some u := by
  intro j u hj
  have h := blk_new w (.cells #[a] t)
  match j, hj with
  | 0, hj => rw [show (⟨w.heap.size, 0, none⟩ : Addr).add 0 = ⟨w.heap.size, 0, none⟩ from rfl, blk_cell h 0]; simpa using hj
  | j + 1, hj => simp at hj
theorem infoSt : (Try.prog.info? 9).map (fun i => (i.zero, i.size, i.bytes)) = some (some (.string ByteArray.empty), 1, 16) := by kernel_rfl
set_option maxHeartbeats 1600000 in
set_option maxRecDepth 100000 in
theorem pagesOf_any (w : World) (F : Nat → Prop) (gj g P : Nat) (d : Dk) (h : HasDisk w F g d) (hj : Jb w gj g P) (hz : Sz d) (hw : d.waits.length < 9223372036854775807) (hP : P ≤ 128) (hs : 8 * P + 1 ≤ d.l.length) :
    Calls Try.prog 21 #[.pointer (some ⟨gj, 0, none⟩)] w fun e w' => ∃ v, e = .returned v ∧ w'.ownsRow w.heap.size 9 1 v P (svs (pgK d P P)) ∧ Below w.heap.size w w' := by
  obtain ⟨i0, hi, hz0, hz1, hz2⟩ := info_parts infoSt
  have H := Lib.hid h; have HJ := Lib.hid hj; have HZ := Lib.hid hz; have HW := Lib.hid hw; have HS := Lib.hid hs
  clear h hj hz hw hs
  go_enter Try.func21, Try.ntmps21
  go_wp2_with fail
  go_loopw [3, 4] (fun v i wr => ∃ k : Nat, k ≤ P ∧ i = .int .i64 k ∧ Hid (wr.ownsRow w.heap.size 9 1 v k (svs (pgK d P k))) ∧ Hid (Below w.heap.size w wr)) (fun _ i _ => P - (intOf i).toNat)
  case atStart => exact ⟨0, Nat.zero_le _, rfl, World.ownsRow_nil _ _ _ _, Below.refl _ _⟩
  case round =>
    obtain ⟨k, hk, rfl, ho, hb⟩ := hrel
    have PG := Lib.hid (pages_any wr gj g P (HJ.out.below hb.out))
    by_cases hlt : k < P
    · have RD := Lib.hid (jread_any wr F gj g P d (H.out.below hb.out) (HJ.out.below hb.out) HZ.out HW.out hP HS.out (k : Int))
      have PS := Lib.hid (pgK_succ d P k)
      generalize jrd d P (k : Int) = r at RD PS
      obtain ⟨t, x⟩ := r
      simp only at PS
      go_wp2_with fail
      refine PG.out.mono ?_
      rintro e w' ⟨rfl, rfl⟩
      go_wp2_with fail
      refine RD.out.mono ?_
      rintro e w1 ⟨rfl, b1⟩
      have B1 : Hid (Below w.heap.size w w1) := hb.out.trans (b1.mono hb.out.size)
      have O1 := Lib.hid (own_touch ho.out (Touch.of_below b1 : Touch (fun _ => False) wr w1) (fun _ _ x => x))
      clear b1 RD PG
      go_wp2_with (at_builtin; refine wpList_append_own_at _ rfl (.tmp 19) (.tmp 21) 47 rfl w.heap.size 9 i0 _ 1 16 Try.underlying47 hi hz0 hz1 hz2 rfl (by decide) _ k (svs (pgK d P k)) rfl (O1.out.alloc _) ⟨w1.heap.size, 0, none⟩ 1 1 [.string t] rfl rfl (one_new _ _ _) (by simp [Value.oneCell']) (by unfold maxLen; omega) (by omega) (by have := B1.out.size; simp; omega) ?_)
      intro v2 w2 ho2 hg2 _ _
      have O2 : Hid (w2.ownsRow w.heap.size 9 1 v2 (k + 1) (svs (pgK d P (k + 1)))) := by unfold Hid; rw [PS.out, svs_append]; exact ho2
      have B2 : Hid (Below w.heap.size w w2) := (B1.out.alloc B1.out.size (.cells #[.string t] 9)).grown hg2 (B1.out.alloc B1.out.size (.cells #[.string t] 9)).size (fun j hj => ((O1.out.alloc (.cells #[.string t] 9)).lt j hj).1)
      clear ho2 hg2
      go_wp2
      go_roundw
      case rel => first | exact ⟨k + 1, hlt, by go_num, O2, B2⟩ | ((repeat apply Exists.intro); refine ⟨?_, rfl⟩; exact ⟨k + 1, hlt, by go_num, O2, B2⟩)
      case measure => simp [intOf]; omega
    · have hkP : k = P := by omega
      subst hkP
      go_wp2_with fail
      refine PG.out.mono ?_
      rintro e w' ⟨rfl, rfl⟩
      go_wp2
      go_ret
      exact ⟨_, rfl, ho.out, hb.out⟩
end Go.Proofs.Ytpaabfadniakoaa
