/- JnY: the walk of the law JournalStays. -/
import Derived.Test.YtpaabfadniakoaaJnX
set_option linter.unusedVariables false
set_option linter.unusedSimpArgs false
namespace Go.Proofs.Ytpaabfadniakoaa
open Go.RowKit

/-- Puts, as a law's argument. -/
def RdPutV (w : World) (v : Value) (l : List PutM) : Prop := ∃ A c, v = .slice A l.length c ∧ l.length ≤ c ∧ c ≤ 9223372036854775807 ∧ RdPut w A l
theorem pg_same {P : Nat} {d e : Dk} (hd : Rest P d) (he : Rest P e) (hl : d.l = e.l) : pgK d P P = pgK e P P := by
  unfold pgK
  congr 1
  funext i
  unfold jrd
  rw [hd.calm.up, he.calm.up, page_same hl (hd.waits.trans he.waits.symm) (hd.calm.up.trans he.calm.up.symm)]
set_option maxHeartbeats 3200000 in
set_option maxRecDepth 100000 in
theorem journalStays_walk (w : World) (p : Int) (_w : (Lit.int .i64 p).wf = true) (v : Value) (l : List PutM) (hv : RdPutV w v l) (pv : Value) (picks : List Bool) (hr : RdB w pv picks) :
    Calls Try.prog 5 #[.int .i64 p, v, pv] w fun e w' => e = .returned (.bool true) ∧ Below w.heap.size w w' := by
  clear _w
  obtain ⟨A, c, rfl, hc1, hc2, hrd⟩ := hv
  by_cases hp : p < 1 ∨ 6 < p
  · have OP := Lib.hid (opened_no w A l.length c p hp)
    clear hp
    go_enter Try.func5, Try.ntmps5
    go_wp2_with fail
    refine OP.out.mono ?_
    rintro e w' ⟨rfl, rfl⟩
    go_wp2_with fail
    refine (jlives_any _).mono ?_
    rintro e w9 ⟨rfl, b9⟩
    have B9 := Lib.hid b9
    clear b9
    go_wp2
    go_ret
    exact ⟨rfl, B9.out⟩
  · obtain ⟨P, rfl⟩ := Int.eq_ofNat_of_zero_le (show 0 ≤ p by omega)
    have OP := Lib.hid (opened_any w A c l hrd (by omega) hc1 hc2 P (by omega) (by omega))
    have HP : Hid (1 ≤ P ∧ P ≤ 6) := by unfold Hid; omega
    obtain ⟨r0, Ap, cp, rfl, rp1, rp2, rp3⟩ := hr
    have HR : Hid (RdB w (.slice Ap picks.length cp) picks) := ⟨r0, Ap, cp, rfl, rp1, rp2, rp3⟩
    clear hp hrd
    go_enter Try.func5, Try.ntmps5
    go_wp2_with fail
    refine OP.out.mono ?_
    rintro e w1 ⟨g, gj, rfl, hS⟩
    have HS := Lib.hid hS
    clear hS OP
    by_cases h300 : 300 < picks.length
    · have d3 : decide (300 < picks.length) = true := by simpa using h300
      have d3' : decide ((300 : Int) < (picks.length : Int)) = true := by simp; omega
      go_wp2_with fail
      refine (jlives_any _).mono ?_
      rintro e w9 ⟨rfl, b9⟩
      have B9 : Hid (Below w.heap.size w w9) := by
        obtain ⟨F, d, _, _, _, _, _, _, _, h⟩ := HS.out
        exact h.trans (b9.mono h.size)
      clear b9
      go_wp2
      go_ret
      exact ⟨rfl, B9.out⟩
    · have d3 : decide (300 < picks.length) = false := by simpa using h300
      have d3' : decide ((300 : Int) < (picks.length : Int)) = false := by simp; omega
      obtain ⟨F, d, h1, h2, h3, h4, h5, h6, h7, h8⟩ := HS.out
      have PO := Lib.hid (pagesOf_any w1 F gj g P d h1 h3 h6.sz (by rw [h6.waits]; decide) (by have := HP.out; omega) (by rw [h6.len]; exact Nat.le_refl _))
      have H1 := Lib.hid h1; have H2 := Lib.hid h2; have H6 := Lib.hid h6; have H7 := Lib.hid h7; have H8 := Lib.hid h8
      clear h1 h2 h3 h4 h5 h6 h7 h8 HS
      go_wp2_with fail
      refine PO.out.mono ?_
      rintro e w2 ⟨v2, rfl, ho, b2⟩
      have H8b : Hid (Below w.heap.size w w2) := H8.out.trans (b2.mono H8.out.size)
      obtain ⟨Aw, cw, rfl⟩ := own_slice ho
      have HO := Lib.hid ho
      have H12 := Lib.hid (H1.out.below b2)
      have NV : Hid (∀ k, (Value.slice Aw P cw).ownBlock = some k → ¬ F k) := fun k hk hF => by
        have a := (ho.lt k hk).1
        have b := H1.out.lt k hF
        omega
      clear ho b2 PO
      go_wp2_with fail
      go_loopw [10] (fun i wr => ∃ (k : Nat) (F' : Nat → Prop) (D : Dk), k ≤ 3 ∧ i = .int .i64 k ∧ Hid (HasDisk wr F' g D) ∧ Hid (Rest P D) ∧ Hid (D.l = d.l) ∧ Hid (∀ j, F' j → F j ∨ w2.heap.size ≤ j) ∧ Hid (Touch F w2 wr) ∧ Hid (D.writes ≤ 784)) (fun i _ => 3 - (intOf i).toNat)
      case atStart => exact ⟨0, F, d, by decide, rfl, H12, H6, rfl, fun j hj => .inl hj, Touch.refl _ _, H7⟩
      case round =>
        obtain ⟨k, F', D, hk, rfl, a1, a2, a3, a4, a5, a6⟩ := hrel
        by_cases hlt : k < 3
        · have BW : Hid (Below w.heap.size w wr) := H8b.out.trans (a5.out.below H8b.out.size H2.out)
          have HFp : Hid (∀ j, F' j → w.heap.size ≤ j) := fun j hj => (a4.out j hj).elim (H2.out j) (fun h => Nat.le_trans H8b.out.size h)
          have RP : RdB wr (.slice Ap picks.length cp) picks := HR.out.touch (Touch.of_below BW.out : Touch (fun _ => False) w wr) (fun _ _ _ x => x)
          have FH := Lib.hid (fail_h a1.out (by rw [a2.out.waits]; decide) (.slice Ap picks.length cp) picks RP (HR.out.far (Nat.le_refl _) HFp.out))
          obtain ⟨e0, rk, rl⟩ := rest_again a2.out picks
          have E0 := Lib.hid e0; have RK := Lib.hid rk; have RL := Lib.hid rl
          have RW : Hid ((D.fail picks).start.writes = D.writes) := by unfold Hid Dk.start; split <;> rfl
          clear RP e0 rk rl
          go_wp2_with fail
          refine FH.out.mono ?_
          rintro e w3 ⟨rfl, F3, t3⟩
          have ST := Lib.hid (start_h t3.has)
          rw [E0.out] at ST
          have T3 := Lib.hid t3
          clear t3 FH
          go_wp2_with fail
          refine ST.out.mono ?_
          rintro e w4 ⟨rfl, F4, t4⟩
          have T4 := Lib.hid (T3.out.then t4)
          clear t4 ST T3
          generalize (D.fail picks).start = D4 at T4 RK RL RW
          have OP := Lib.hid (open_any w4 F4 g P D4 T4.out.has RK.out.sto HP.out.1 (by have := HP.out; omega) ⟨by rw [RK.out.waits]; simp, by rw [RW.out]; have := a6.out; omega⟩)
          unfold OpenTo at OP
          rw [rest_open RK.out] at OP
          go_wp2_with fail
          refine OP.out.mono ?_
          rintro e w5 ⟨v5, F5, rfl, t5, hv5⟩
          rw [if_pos (by trivial)] at hv5
          obtain ⟨gk, rfl, hj5, _, _⟩ := hv5
          have T5 := Lib.hid (T4.out.then t5)
          have J5 := Lib.hid hj5
          clear t5 hj5 OP T4
          have PO := Lib.hid (pagesOf_any w5 F5 gk g P D4 T5.out.has J5.out RK.out.sz (by rw [RK.out.waits]; decide) (by have := HP.out; omega) (by rw [RK.out.len]; exact Nat.le_refl _))
          have T5w : Hid (Touch F w2 w5) := a5.out.trans T5.out.touch (fun j hj h => (a4.out j h).elim id (fun x => absurd hj (by omega)))
          have N5 : Hid (∀ j, F5 j → F j ∨ w2.heap.size ≤ j) := fun j hj => (T5.out.new j hj).elim (a4.out j) (fun h => .inr (Nat.le_trans a5.out.size h))
          have A5 := Lib.hid T5.out.has
          clear T5
          go_wp2_with fail
          refine PO.out.mono ?_
          rintro e w6 ⟨v6, rfl, ho6, b6⟩
          obtain ⟨A6, c6, rfl⟩ := own_slice ho6
          have T6w : Hid (Touch F w2 w6) := T5w.out.trans (Touch.of_below b6 : Touch (fun _ => False) w5 w6) (fun _ _ x => x.elim)
          have HW6 := own_touch HO.out T6w.out NV.out
          have SM := Lib.hid (sameTexts_any w6 A6 Aw c6 cw (pgK D4 P P) (pgK d P P) (rdT_own (by rw [pgK_len]; exact ho6)) (rdT_own (by rw [pgK_len]; exact HW6)) (by rw [pgK_len]; have := HP.out; omega) (by rw [pgK_len]; have := HP.out; omega))
          rw [pgK_len, pgK_len, decide_eq_true (pg_same RK.out H6.out (RL.out.trans a3.out))] at SM
          have A6' := Lib.hid (A5.out.below b6)
          clear ho6 b6 HW6 PO A5
          go_wp2_with fail
          refine SM.out.mono ?_
          rintro e w7 ⟨rfl, b7⟩
          have T7w : Hid (Touch F w2 w7) := T6w.out.trans (Touch.of_below b7 : Touch (fun _ => False) w6 w7) (fun _ _ x => x.elim)
          have A7 := Lib.hid (A6'.out.below b7)
          have L7 : Hid (D4.l = d.l) := RL.out.trans a3.out
          have W7 : Hid (D4.writes ≤ 784) := by unfold Hid; rw [RW.out]; exact a6.out
          clear b7 SM A6'
          go_wp2
          go_roundw
          case rel => first | exact ⟨k + 1, F5, D4, hlt, by go_num, A7, RK, L7, N5, T7w, W7⟩ | ((repeat apply Exists.intro); refine ⟨?_, rfl⟩; exact ⟨k + 1, F5, D4, hlt, by go_num, A7, RK, L7, N5, T7w, W7⟩)
          case measure => simp [intOf]; omega
        · have hk3 : k = 3 := by omega
          subst hk3
          go_wp2_with fail
          refine (jlives_any _).mono ?_
          rintro e w9 ⟨rfl, b9⟩
          have B9 : Hid (Below w.heap.size w w9) := by
            have := H8b.out.trans (a5.out.below H8b.out.size H2.out)
            exact this.trans (b9.mono this.size)
          clear b9
          go_wp2
          go_ret
          exact ⟨rfl, B9.out⟩
end Go.Proofs.Ytpaabfadniakoaa
