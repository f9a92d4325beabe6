/- JnX: the walk of sameTexts (written by gen_same.py). -/
import Derived.Test.YtpaabfadniakoaaMp14
set_option linter.unusedVariables false
set_option linter.unusedSimpArgs false
namespace Go.Proofs.Ytpaabfadniakoaa
open Go.RowKit

theorem toListB_inj {a b : ByteArray} (h : a.toList = b.toList) : a = b := by
  rw [Lib.toList_data, Lib.toList_data] at h
  cases a; cases b
  simp only [ByteArray.mk.injEq]
  exact Array.toList_inj.1 h
theorem beqS (a b : ByteArray) : (a.toList == b.toList) = decide (a = b) := by
  rw [Bool.eq_iff_iff]
  simp only [beq_iff_eq, decide_eq_true_eq]
  exact ⟨toListB_inj, fun h => by rw [h]⟩
/-- Texts that are read. -/
def RdT (w : World) (A : Option Addr) (l : List ByteArray) : Prop := 0 < l.length → ∃ b off, A = some ⟨b, off, none⟩ ∧ ∀ j (h : j < l.length), w.cell? ⟨b, off + j, none⟩ = some (.string l[j])
theorem rdT_own {w : World} {base : Nat} {A : Option Addr} {c : Nat} {l : List ByteArray} (h : w.ownsRow base 9 1 (.slice A l.length c) l.length (svs l)) : RdT w A l := fun hp => by
  rcases h.2 with ⟨_, h0⟩ | ⟨g, cap, cur, e, _, hk, h1, _, h3, h4⟩
  · omega
  · injection e with e _ _
    subst e
    refine ⟨g, 0, rfl, fun j hj => ?_⟩
    have g1 : (svs l)[j]? = some (.string l[j]) := by simp [svs, hj]
    rw [← h4, List.getElem?_take_of_lt (by omega), Array.getElem?_toList] at g1
    rw [Nat.zero_add, blk_cell hk]
    exact g1
set_option maxHeartbeats 3200000 in
set_option maxRecDepth 100000 in
theorem sameTexts_any (w : World) (A1 A2 : Option Addr) (c1 c2 : Nat) (l1 l2 : List ByteArray) (h1 : RdT w A1 l1) (h2 : RdT w A2 l2) (hn : l1.length ≤ 1000000) (hn2 : l2.length ≤ 1000000) :
    Calls Try.prog 20 #[.slice A1 l1.length c1, .slice A2 l2.length c2] w fun e w' => e = .returned (.bool (decide (l1 = l2))) ∧ Below w.heap.size w w' := by
  have H1 := Lib.hid h1; have H2 := Lib.hid h2
  clear h1 h2
  by_cases hlen : l1.length = l2.length
  rotate_left
  · have d0 : (l1.length != l2.length) = true := by simpa using hlen
    have d0' : ((l1.length : Int) != (l2.length : Int)) = true := by simp; omega
    have E : Hid (decide (l1 = l2) = false) := by unfold Hid; rw [decide_eq_false_iff_not]; intro e; rw [e] at hlen; exact hlen rfl
    clear hlen
    go_enter Try.func20, Try.ntmps20
    go_wp2
    go_ret
    exact ⟨by rw [E.out]; rfl, Below.refl _ _⟩
  have d0 : (l1.length != l2.length) = false := by simpa using hlen
  have d0' : ((l1.length : Int) != (l2.length : Int)) = false := by simp; omega
  have HLEN := Lib.hid hlen
  clear hlen
  go_enter Try.func20, Try.ntmps20
  go_wp2_with fail
  go_loopw [5] (fun i wr => ∃ k : Nat, k ≤ l1.length ∧ i = .int .i64 k ∧ Hid (∀ j (hj : j < l1.length) (hj2 : j < l2.length), j < k → l1[j] = l2[j]) ∧ Hid (Below w.heap.size w wr)) (fun i _ => l1.length - (intOf i).toNat)
  case atStart => exact ⟨0, Nat.zero_le _, rfl, fun j _ _ h => absurd h (Nat.not_lt_zero _), Below.refl _ _⟩
  case round =>
    obtain ⟨k, hk, rfl, he, hb⟩ := hrel
    by_cases hlt : k < l1.length
    · have hlt2 : k < l2.length := by have := HLEN.out; omega
      obtain ⟨b1, o1, e1, hc1⟩ := H1.out (by omega)
      obtain ⟨b2, o2, e2, hc2⟩ := H2.out (by omega)
      subst e1 e2
      have z1 := cell_below hb.out.drew (hc1 k hlt)
      have z2 := cell_below hb.out.drew (hc2 k hlt2)
      have kl2 : (k : Int) < (l2.length : Int) := by omega
      obtain ⟨x, hx⟩ : ∃ x, x = l1[k] := ⟨_, rfl⟩
      obtain ⟨y, hy⟩ : ∃ y, y = l2[k] := ⟨_, rfl⟩
      rw [← hx] at z1
      rw [← hy] at z2
      have HX := Lib.hid hx; have HY := Lib.hid hy
      clear hx hy hc1 hc2
      by_cases hxy : x = y
      · have NX : Hid (∀ j (hj : j < l1.length) (hj2 : j < l2.length), j < k + 1 → l1[j] = l2[j]) := fun j hj hj2 h => by
          by_cases e : j = k
          · subst e; rw [← HX.out, ← HY.out]; exact hxy
          · exact he.out j hj hj2 (by omega)
        subst hxy
        go_wp2_with fail
        refine wp_region_flag (fun w' => w'.cell? ⟨b1, o1 + k, none⟩ = some (.string x) ∧ w'.cell? ⟨b2, o2 + k, none⟩ = some (.string x)) [(0, 1), (1, 1), (2, 1), (4, 1), (5, 1), (6, 1), (3, 2), (7, 0), (8, 1)] (by kernel_rfl) (by kernel_rfl) ⟨z1, z2⟩ ?_
        simp only [ordered, List.map_cons, List.map_nil, List.getD_cons_zero, List.getD_cons_succ]
        repeat (refine wpF_dry (fun K hK => ?_); go_simp; refine hK _ ?_; clear hK K)
        refine wpF_read (.string x) rfl (fun w' hS => by obtain ⟨s1, s2⟩ := hS; go_simp) (fun K hK => ?_)
        go_simp
        refine hK _ ?_
        clear hK K
        refine wpF_do ?_
        go_wp2_with fail
        refine ⟨⟨z1, z2⟩, ?_⟩
        repeat (refine wpF_dry (fun K hK => ?_); go_simp; refine hK _ ?_; clear hK K)
        refine wpF_nil ?_
        go_wp2
        go_roundw
        case rel => first | exact ⟨k + 1, hlt, by go_num, NX, hb.out.drew⟩ | ((repeat apply Exists.intro); refine ⟨?_, rfl⟩; exact ⟨k + 1, hlt, by go_num, NX, hb.out.drew⟩)
        case measure => simp [intOf]; omega
      · have E : Hid (decide (l1 = l2) = false) := by unfold Hid; rw [decide_eq_false_iff_not]; intro e; subst e; exact hxy (HX.out.trans HY.out.symm)
        have dxy : (x.toList == y.toList) = false := by rw [beqS]; simpa using hxy
        clear hxy
        go_wp2_with fail
        refine wp_region_flag (fun w' => w'.cell? ⟨b1, o1 + k, none⟩ = some (.string x) ∧ w'.cell? ⟨b2, o2 + k, none⟩ = some (.string y)) [(0, 1), (1, 1), (2, 1), (4, 1), (5, 1), (6, 1), (3, 2), (7, 0), (8, 1)] (by kernel_rfl) (by kernel_rfl) ⟨z1, z2⟩ ?_
        simp only [ordered, List.map_cons, List.map_nil, List.getD_cons_zero, List.getD_cons_succ]
        repeat (refine wpF_dry (fun K hK => ?_); go_simp; refine hK _ ?_; clear hK K)
        refine wpF_read (.string x) rfl (fun w' hS => by obtain ⟨s1, s2⟩ := hS; go_simp) (fun K hK => ?_)
        go_simp
        refine hK _ ?_
        clear hK K
        refine wpF_do ?_
        go_wp2_with fail
        refine ⟨⟨z1, z2⟩, ?_⟩
        repeat (refine wpF_dry (fun K hK => ?_); go_simp; refine hK _ ?_; clear hK K)
        refine wpF_nil ?_
        go_wp2
        go_ret
        exact ⟨by rw [E.out]; rfl, hb.out.drew⟩
    · have E : Hid (decide (l1 = l2) = true) := by
        unfold Hid
        rw [decide_eq_true_eq]
        exact List.ext_getElem HLEN.out (fun j h1 h2 => he.out j h1 h2 (by omega))
      have hkl : k = l1.length := by omega
      subst hkl
      go_wp2
      go_ret
      exact ⟨by rw [E.out]; rfl, hb.out⟩
end Go.Proofs.Ytpaabfadniakoaa
/- JnY: the walk of the law JournalStays. -/
set_option linter.unusedVariables false
set_option linter.unusedSimpArgs false
namespace Go.Proofs.Ytpaabfadniakoaa
open Go.RowKit

/-- Puts, as a law's argument. -/
def RdPutV (w : World) (v : Value) (l : List PutM) : Prop := ∃ A c, v = .slice A l.length c ∧ l.length ≤ c ∧ c ≤ 9223372036854775807 ∧ RdPut w A l
theorem pg_same {P : Nat} {d e : Dk} (hd : Rest P d) (he : Rest P e) (hl : d.l = e.l) : pgK d P P = pgK e P P := by
  unfold pgK
  congr 1
  funext i
  unfold jrd
  rw [hd.calm.up, he.calm.up, page_same hl (hd.waits.trans he.waits.symm) (hd.calm.up.trans he.calm.up.symm)]
set_option maxHeartbeats 3200000 in
set_option maxRecDepth 100000 in
theorem journalStays_walk (w : World) (p : Int) (_w : (Lit.int .i64 p).wf = true) (v : Value) (l : List PutM) (hv : RdPutV w v l) (pv : Value) (picks : List Bool) (hr : RdB w pv picks) :
    Calls Try.prog 5 #[.int .i64 p, v, pv] w fun e w' => e = .returned (.bool true) ∧ Below w.heap.size w w' := by
  clear _w
  obtain ⟨A, c, rfl, hc1, hc2, hrd⟩ := hv
  by_cases hp : p < 1 ∨ 6 < p
  · have OP := Lib.hid (opened_no w A l.length c p hp)
    clear hp
    go_enter Try.func5, Try.ntmps5
    go_wp2_with fail
    refine OP.out.mono ?_
    rintro e w' ⟨rfl, rfl⟩
    go_wp2_with fail
    refine (jlives_any _).mono ?_
    rintro e w9 ⟨rfl, b9⟩
    have B9 := Lib.hid b9
    clear b9
    go_wp2
    go_ret
    exact ⟨rfl, B9.out⟩
  · obtain ⟨P, rfl⟩ := Int.eq_ofNat_of_zero_le (show 0 ≤ p by omega)
    have OP := Lib.hid (opened_any w A c l hrd (by omega) hc1 hc2 P (by omega) (by omega))
    have HP : Hid (1 ≤ P ∧ P ≤ 6) := by unfold Hid; omega
    obtain ⟨r0, Ap, cp, rfl, rp1, rp2, rp3⟩ := hr
    have HR : Hid (RdB w (.slice Ap picks.length cp) picks) := ⟨r0, Ap, cp, rfl, rp1, rp2, rp3⟩
    clear hp hrd
    go_enter Try.func5, Try.ntmps5
    go_wp2_with fail
    refine OP.out.mono ?_
    rintro e w1 ⟨g, gj, rfl, hS⟩
    have HS := Lib.hid hS
    clear hS OP
    by_cases h300 : 300 < picks.length
    · have d3 : decide (300 < picks.length) = true := by simpa using h300
      have d3' : decide ((300 : Int) < (picks.length : Int)) = true := by simp; omega
      go_wp2_with fail
      refine (jlives_any _).mono ?_
      rintro e w9 ⟨rfl, b9⟩
      have B9 : Hid (Below w.heap.size w w9) := by
        obtain ⟨F, d, _, _, _, _, _, _, _, h⟩ := HS.out
        exact h.trans (b9.mono h.size)
      clear b9
      go_wp2
      go_ret
      exact ⟨rfl, B9.out⟩
    · have d3 : decide (300 < picks.length) = false := by simpa using h300
      have d3' : decide ((300 : Int) < (picks.length : Int)) = false := by simp; omega
      obtain ⟨F, d, h1, h2, h3, h4, h5, h6, h7, h8⟩ := HS.out
      have PO := Lib.hid (pagesOf_any w1 F gj g P d h1 h3 h6.sz (by rw [h6.waits]; decide) (by have := HP.out; omega) (by rw [h6.len]; exact Nat.le_refl _))
      have H1 := Lib.hid h1; have H2 := Lib.hid h2; have H6 := Lib.hid h6; have H7 := Lib.hid h7; have H8 := Lib.hid h8
      clear h1 h2 h3 h4 h5 h6 h7 h8 HS
      go_wp2_with fail
      refine PO.out.mono ?_
      rintro e w2 ⟨v2, rfl, ho, b2⟩
      have H8b : Hid (Below w.heap.size w w2) := H8.out.trans (b2.mono H8.out.size)
      obtain ⟨Aw, cw, rfl⟩ := own_slice ho
      have HO := Lib.hid ho
      have H12 := Lib.hid (H1.out.below b2)
      have NV : Hid (∀ k, (Value.slice Aw P cw).ownBlock = some k → ¬ F k) := fun k hk hF => by
        have a := (ho.lt k hk).1
        have b := H1.out.lt k hF
        omega
      clear ho b2 PO
      go_wp2_with fail
      go_loopw [10] (fun i wr => ∃ (k : Nat) (F' : Nat → Prop) (D : Dk), k ≤ 3 ∧ i = .int .i64 k ∧ Hid (HasDisk wr F' g D) ∧ Hid (Rest P D) ∧ Hid (D.l = d.l) ∧ Hid (∀ j, F' j → F j ∨ w2.heap.size ≤ j) ∧ Hid (Touch F w2 wr) ∧ Hid (D.writes ≤ 784)) (fun i _ => 3 - (intOf i).toNat)
      case atStart => exact ⟨0, F, d, by decide, rfl, H12, H6, rfl, fun j hj => .inl hj, Touch.refl _ _, H7⟩
      case round =>
        obtain ⟨k, F', D, hk, rfl, a1, a2, a3, a4, a5, a6⟩ := hrel
        by_cases hlt : k < 3
        · have BW : Hid (Below w.heap.size w wr) := H8b.out.trans (a5.out.below H8b.out.size H2.out)
          have HFp : Hid (∀ j, F' j → w.heap.size ≤ j) := fun j hj => (a4.out j hj).elim (H2.out j) (fun h => Nat.le_trans H8b.out.size h)
          have RP : RdB wr (.slice Ap picks.length cp) picks := HR.out.touch (Touch.of_below BW.out : Touch (fun _ => False) w wr) (fun _ _ _ x => x)
          have FH := Lib.hid (fail_h a1.out (by rw [a2.out.waits]; decide) (.slice Ap picks.length cp) picks RP (HR.out.far (Nat.le_refl _) HFp.out))
          obtain ⟨e0, rk, rl⟩ := rest_again a2.out picks
          have E0 := Lib.hid e0; have RK := Lib.hid rk; have RL := Lib.hid rl
          have RW : Hid ((D.fail picks).start.writes = D.writes) := by unfold Hid Dk.start; split <;> rfl
          clear RP e0 rk rl
          go_wp2_with fail
          refine FH.out.mono ?_
          rintro e w3 ⟨rfl, F3, t3⟩
          have ST := Lib.hid (start_h t3.has)
          rw [E0.out] at ST
          have T3 := Lib.hid t3
          clear t3 FH
          go_wp2_with fail
          refine ST.out.mono ?_
          rintro e w4 ⟨rfl, F4, t4⟩
          have T4 := Lib.hid (T3.out.then t4)
          clear t4 ST T3
          generalize (D.fail picks).start = D4 at T4 RK RL RW
          have OP := Lib.hid (open_any w4 F4 g P D4 T4.out.has RK.out.sto HP.out.1 (by have := HP.out; omega) ⟨by rw [RK.out.waits]; simp, by rw [RW.out]; have := a6.out; omega⟩)
          unfold OpenTo at OP
          rw [rest_open RK.out] at OP
          go_wp2_with fail
          refine OP.out.mono ?_
          rintro e w5 ⟨v5, F5, rfl, t5, hv5⟩
          rw [if_pos (by trivial)] at hv5
          obtain ⟨gk, rfl, hj5, _, _⟩ := hv5
          have T5 := Lib.hid (T4.out.then t5)
          have J5 := Lib.hid hj5
          clear t5 hj5 OP T4
          have PO := Lib.hid (pagesOf_any w5 F5 gk g P D4 T5.out.has J5.out RK.out.sz (by rw [RK.out.waits]; decide) (by have := HP.out; omega) (by rw [RK.out.len]; exact Nat.le_refl _))
          have T5w : Hid (Touch F w2 w5) := a5.out.trans T5.out.touch (fun j hj h => (a4.out j h).elim id (fun x => absurd hj (by omega)))
          have N5 : Hid (∀ j, F5 j → F j ∨ w2.heap.size ≤ j) := fun j hj => (T5.out.new j hj).elim (a4.out j) (fun h => .inr (Nat.le_trans a5.out.size h))
          have A5 := Lib.hid T5.out.has
          clear T5
          go_wp2_with fail
          refine PO.out.mono ?_
          rintro e w6 ⟨v6, rfl, ho6, b6⟩
          obtain ⟨A6, c6, rfl⟩ := own_slice ho6
          have T6w : Hid (Touch F w2 w6) := T5w.out.trans (Touch.of_below b6 : Touch (fun _ => False) w5 w6) (fun _ _ x => x.elim)
          have HW6 := own_touch HO.out T6w.out NV.out
          have SM := Lib.hid (sameTexts_any w6 A6 Aw c6 cw (pgK D4 P P) (pgK d P P) (rdT_own (by rw [pgK_len]; exact ho6)) (rdT_own (by rw [pgK_len]; exact HW6)) (by rw [pgK_len]; have := HP.out; omega) (by rw [pgK_len]; have := HP.out; omega))
          rw [pgK_len, pgK_len, decide_eq_true (pg_same RK.out H6.out (RL.out.trans a3.out))] at SM
          have A6' := Lib.hid (A5.out.below b6)
          clear ho6 b6 HW6 PO A5
          go_wp2_with fail
          refine SM.out.mono ?_
          rintro e w7 ⟨rfl, b7⟩
          have T7w : Hid (Touch F w2 w7) := T6w.out.trans (Touch.of_below b7 : Touch (fun _ => False) w6 w7) (fun _ _ x => x.elim)
          have A7 := Lib.hid (A6'.out.below b7)
          have L7 : Hid (D4.l = d.l) := RL.out.trans a3.out
          have W7 : Hid (D4.writes ≤ 784) := by unfold Hid; rw [RW.out]; exact a6.out
          clear b7 SM A6'
          go_wp2
          go_roundw
          case rel => first | exact ⟨k + 1, F5, D4, hlt, by go_num, A7, RK, L7, N5, T7w, W7⟩ | ((repeat apply Exists.intro); refine ⟨?_, rfl⟩; exact ⟨k + 1, F5, D4, hlt, by go_num, A7, RK, L7, N5, T7w, W7⟩)
          case measure => simp [intOf]; omega
        · have hk3 : k = 3 := by omega
          subst hk3
          go_wp2_with fail
          refine (jlives_any _).mono ?_
          rintro e w9 ⟨rfl, b9⟩
          have B9 : Hid (Below w.heap.size w w9) := by
            have := H8b.out.trans (a5.out.below H8b.out.size H2.out)
            exact this.trans (b9.mono this.size)
          clear b9
          go_wp2
          go_ret
          exact ⟨rfl, B9.out⟩
end Go.Proofs.Ytpaabfadniakoaa
/- JwA: the walk of the document's Why (written by gen_why.py). -/
set_option linter.unusedVariables false
set_option linter.unusedSimpArgs false
namespace Go.Proofs.Ytpaabfadniakoaa
open Go.RowKit

theorem dup_at {l : List (Int × ByteArray)} {k j : Nat} (hk : k < l.length) (hj : j < k) (h : l[j].1 = l[k].1) : dupK l (k + 1) = true := by
  have hg : l.getD k (0, ByteArray.empty) = l[k] := by rw [List.getD_eq_getElem?_getD, List.getElem?_eq_getElem hk]; rfl
  rw [dupK, hg]
  have : (l.take k).any (fun c => decide (c.1 = l[k].1)) = true := by
    rw [List.any_eq_true]
    exact ⟨l[j], by rw [List.mem_take_iff_getElem]; exact ⟨j, by omega, rfl⟩, by simpa using h⟩
  rw [this, Bool.or_true]
theorem dup_no {l : List (Int × ByteArray)} {k : Nat} (hk : k < l.length) (hd : dupK l k = false) (h : ∀ j (hj : j < k), l[j].1 ≠ l[k].1) : dupK l (k + 1) = false := by
  have hg : l.getD k (0, ByteArray.empty) = l[k] := by rw [List.getD_eq_getElem?_getD, List.getElem?_eq_getElem hk]; rfl
  rw [dupK, hg, hd, Bool.false_or, List.any_eq_false]
  intro x hx
  rw [List.mem_take_iff_getElem] at hx
  obtain ⟨j, hj, rfl⟩ := hx
  have := h j (by omega)
  simpa using this
set_option maxHeartbeats 3200000 in
set_option maxRecDepth 100000 in
theorem rwhy_any (w : World) (P : Nat) (hP : P ≤ 128) (A : Option Addr) (c : Nat) (l : List (Int × ByteArray)) (hl : RdC w A l) (hn : l.length ≤ 1000000) (hs : ∀ x ∈ l, x.2.size ≤ 9223372036854775807) :
    Calls Try.prog 19 #[.int .i64 (P : Int), .slice A l.length c] w fun e w' => e = .returned (.int .i64 (whyE P l)) ∧ Below w.heap.size w w' := by
  have HL := Lib.hid hl
  have HS := Lib.hid hs
  clear hl hs
  go_enter Try.func19, Try.ntmps19
  go_wp2_with fail
  go_loopw [5] (fun i wr => ∃ k : Nat, k ≤ l.length ∧ i = .int .i64 k ∧ Hid (Below w.heap.size w wr) ∧ Hid (∀ j (hj : j < l.length), j < k → 0 ≤ l[j].1 ∧ l[j].1 < (P : Int))) (fun i _ => l.length - (intOf i).toNat)
  case atStart => exact ⟨0, Nat.zero_le _, rfl, Below.refl _ _, fun j _ h => absurd h (Nat.not_lt_zero _)⟩
  case round =>
    obtain ⟨k, hk, rfl, hb, hin⟩ := hrel
    by_cases hlt : k < l.length
    · obtain ⟨b, off, hA, hcs⟩ := HL.out (by omega)
      subst hA
      obtain ⟨z0, z1⟩ := hcs k hlt
      replace z0 := cell_below hb.out z0
      have OUT := fun h => Lib.hid (out_at (P := P) hlt h)
      have INX : Hid (0 ≤ l[k].1 ∧ l[k].1 < (P : Int) → ∀ j (hj : j < l.length), j < k + 1 → 0 ≤ l[j].1 ∧ l[j].1 < (P : Int)) := fun h j hj hjk => by
        by_cases e : j = k
        · subst e; exact h
        · exact hin.out j hj (by omega)
      generalize l[k] = x at z0 z1 OUT INX
      clear hcs
      by_cases h0 : x.1 < 0
      · have E := OUT (.inl h0)
        have d1 : decide (x.1 < 0) = true := by simpa using h0
        clear OUT INX h0
        go_wp2
        go_ret
        exact ⟨by unfold whyE; rw [E.out]; rfl, hb.out⟩
      · by_cases h1 : (P : Int) ≤ x.1
        · have E := OUT (.inr h1)
          have d1 : decide (x.1 < 0) = false := by simpa using h0
          have d2 : decide ((P : Int) ≤ x.1) = true := by simpa using h1
          clear OUT INX h0 h1
          go_wp2
          go_ret
          exact ⟨by unfold whyE; rw [E.out]; rfl, hb.out⟩
        · have INX2 := Lib.hid (INX.out ⟨by omega, by omega⟩)
          have d1 : decide (x.1 < 0) = false := by simpa using h0
          have d2 : decide ((P : Int) ≤ x.1) = false := by simpa using h1
          clear OUT INX h0 h1
          go_wp2
          go_roundw
          case rel => first | exact ⟨k + 1, hlt, by go_num, hb, INX2⟩ | ((repeat apply Exists.intro); refine ⟨?_, rfl⟩; exact ⟨k + 1, hlt, by go_num, hb, INX2⟩)
          case measure => simp [intOf]; omega
    · have hkl : k = l.length := by omega
      have OK := Lib.hid (out_no (P := P) (l := l) (fun j hj => hin.out j hj (by omega)))
      subst hkl
      clear hk hlt hin
      go_wp2_with fail
      go_loopw [6] (fun i wz => ∃ k : Nat, k ≤ l.length ∧ i = .int .i64 k ∧ Hid (dupK l k = false) ∧ Hid (Below w.heap.size w wz)) (fun i _ => l.length - (intOf i).toNat)
      case atStart => exact ⟨0, Nat.zero_le _, rfl, rfl, hb⟩
      case round =>
        obtain ⟨k, hk, rfl, hd, BZ⟩ := hrel
        clear hb
        by_cases hlt : k < l.length
        · go_wp2_with fail
          go_loopw [7] (fun i wy => ∃ j : Nat, j ≤ k ∧ i = .int .i64 j ∧ Hid (∀ i (hi : i < j) (h1 : i < l.length), l[i].1 ≠ l[k].1) ∧ Hid (Below w.heap.size w wy)) (fun i _ => k - (intOf i).toNat)
          case atStart => exact ⟨0, Nat.zero_le _, rfl, fun i hi _ => absurd hi (Nat.not_lt_zero _), BZ⟩
          case round =>
            obtain ⟨j, hj, rfl, hne, BY⟩ := hrel
            clear BZ
            by_cases hjk : j < k
            · obtain ⟨b, off, hA, hcs⟩ := HL.out (by omega)
              subst hA
              have hjl : j < l.length := by omega
              obtain ⟨z0, _⟩ := hcs j hjl
              obtain ⟨y0, _⟩ := hcs k hlt
              replace z0 := cell_below BY.out.drew z0
              replace y0 := cell_below BY.out.drew y0
              have DA := fun h => Lib.hid (dup_at hlt hjk h)
              have NX : Hid (l[j].1 ≠ l[k].1 → ∀ i (hi : i < j + 1) (h1 : i < l.length), l[i].1 ≠ l[k].1) := fun h i hi h1 => by
                by_cases e : i = j
                · subst e; exact h
                · exact hne.out i (by omega) h1
              clear hcs
              obtain ⟨x, hx⟩ : ∃ x, x = l[j] := ⟨_, rfl⟩
              obtain ⟨y, hy⟩ : ∃ y, y = l[k] := ⟨_, rfl⟩
              rw [← hx] at z0 DA NX
              rw [← hy] at y0 DA NX
              have HY := Lib.hid hy
              clear hx hy
              by_cases hxy : x.1 = y.1
              · have E := DA hxy
                have EE : Hid (dupK l l.length = true) := dupK_mono hlt E.out
                have dxy : (y.1 == x.1) = true := by rw [beq_iff_eq]; exact hxy.symm
                clear DA NX E hxy
                go_wp2_with fail
                refine wp_region_flag (fun w' => w'.cell? ⟨b, off + j * 2, none⟩ = some (.int .i64 x.1) ∧ w'.cell? ⟨b, off + k * 2, none⟩ = some (.int .i64 y.1)) [(0, 1), (1, 1), (2, 1), (3, 1), (5, 1), (6, 1), (7, 1), (8, 1), (4, 2), (9, 0), (10, 1)] (by kernel_rfl) (by kernel_rfl) ⟨z0, y0⟩ ?_
                simp only [ordered, List.map_cons, List.map_nil, List.getD_cons_zero, List.getD_cons_succ]
                repeat (refine wpF_dry (fun K hK => ?_); go_simp; refine hK _ ?_; clear hK K)
                refine wpF_read (.int .i64 y.1) rfl (fun w' hS => by obtain ⟨s1, s2⟩ := hS; go_simp) (fun K hK => ?_)
                go_simp
                refine hK _ ?_
                clear hK K
                refine wpF_do ?_
                go_wp2_with fail
                refine ⟨⟨z0, y0⟩, ?_⟩
                repeat (refine wpF_dry (fun K hK => ?_); go_simp; refine hK _ ?_; clear hK K)
                refine wpF_nil ?_
                go_wp2
                go_ret
                exact ⟨by unfold whyE; rw [OK.out, EE.out]; rfl, BY.out.drew⟩
              · have NX2 : Hid (∀ i (hi : i < j + 1) (h1 : i < l.length), l[i].1 ≠ l[k].1) := by have h := NX.out hxy; rw [HY.out] at h; exact h
                have dxy : (y.1 == x.1) = false := by rw [beq_eq_false_iff_ne]; exact fun h => hxy h.symm
                clear DA NX hxy
                go_wp2_with fail
                refine wp_region_flag (fun w' => w'.cell? ⟨b, off + j * 2, none⟩ = some (.int .i64 x.1) ∧ w'.cell? ⟨b, off + k * 2, none⟩ = some (.int .i64 y.1)) [(0, 1), (1, 1), (2, 1), (3, 1), (5, 1), (6, 1), (7, 1), (8, 1), (4, 2), (9, 0), (10, 1)] (by kernel_rfl) (by kernel_rfl) ⟨z0, y0⟩ ?_
                simp only [ordered, List.map_cons, List.map_nil, List.getD_cons_zero, List.getD_cons_succ]
                repeat (refine wpF_dry (fun K hK => ?_); go_simp; refine hK _ ?_; clear hK K)
                refine wpF_read (.int .i64 y.1) rfl (fun w' hS => by obtain ⟨s1, s2⟩ := hS; go_simp) (fun K hK => ?_)
                go_simp
                refine hK _ ?_
                clear hK K
                refine wpF_do ?_
                go_wp2_with fail
                refine ⟨⟨z0, y0⟩, ?_⟩
                repeat (refine wpF_dry (fun K hK => ?_); go_simp; refine hK _ ?_; clear hK K)
                refine wpF_nil ?_
                go_wp2
                go_roundw
                case rel => first | exact ⟨j + 1, by omega, by go_num, NX2, BY.out.drew⟩ | ((repeat apply Exists.intro); refine ⟨?_, rfl⟩; exact ⟨j + 1, by omega, by go_num, NX2, BY.out.drew⟩)
                case measure => simp [intOf]; omega
            · have hjk2 : j = k := by omega
              subst hjk2
              have HD2 := Lib.hid (dup_no hlt hd.out (fun i hi => hne.out i hi (by omega)))
              go_wp2
              go_roundw
              case rel => first | exact ⟨j + 1, hlt, by go_num, HD2, BY⟩ | ((repeat apply Exists.intro); refine ⟨?_, rfl⟩; exact ⟨j + 1, hlt, by go_num, HD2, BY⟩)
              case measure => simp [intOf]; omega
        · have hkl : k = l.length := by omega
          subst hkl
          clear hk hlt
          go_wp2_with fail
          go_loopw [8] (fun i wz => ∃ k : Nat, k ≤ l.length ∧ i = .int .i64 k ∧ Hid (∀ j (hj : j < l.length), j < k → l[j].2.size = 1024) ∧ Hid (Below w.heap.size w wz)) (fun i _ => l.length - (intOf i).toNat)
          case atStart => exact ⟨0, Nat.zero_le _, rfl, fun j _ h => absurd h (Nat.not_lt_zero _), BZ⟩
          case round =>
            obtain ⟨k, hk, rfl, hz, BQ⟩ := hrel
            clear BZ
            by_cases hlt : k < l.length
            · obtain ⟨b, off, hA, hcs⟩ := HL.out (by omega)
              subst hA
              obtain ⟨z0, z1⟩ := hcs k hlt
              replace z1 := cell_below BQ.out z1
              have LG := fun h => Lib.hid (long_at hlt h)
              have LN : Hid (l[k].2.size = 1024 → ∀ j (hj : j < l.length), j < k + 1 → l[j].2.size = 1024) := fun h j hj hjk => by
                by_cases e : j = k
                · subst e; exact h
                · exact hz.out j hj (by omega)
              have hsz := HS.out l[k] (List.getElem_mem hlt)
              generalize l[k] = x at z0 z1 LG LN hsz
              clear hcs z0
              by_cases h4 : x.2.size = 1024
              · have LN2 := Lib.hid (LN.out h4)
                have d1 : (x.2.size != 1024) = false := by simp [h4]
                have d1' : ((x.2.size : Int) != 1024) = false := by simp; omega
                clear LG LN h4
                go_wp2
                go_roundw
                case rel => first | exact ⟨k + 1, hlt, by go_num, LN2, BQ⟩ | ((repeat apply Exists.intro); refine ⟨?_, rfl⟩; exact ⟨k + 1, hlt, by go_num, LN2, BQ⟩)
                case measure => simp [intOf]; omega
              · have E := LG h4
                have d1 : (x.2.size != 1024) = true := by simp [h4]
                have d1' : ((x.2.size : Int) != 1024) = true := by simp; omega
                clear LG LN h4
                go_wp2
                go_ret
                exact ⟨by unfold whyE; rw [OK.out, hd.out, E.out]; rfl, BQ.out⟩
            · have hkl : k = l.length := by omega
              subst hkl
              have E := Lib.hid (long_no (fun j hj => hz.out j hj hj))
              go_wp2
              go_ret
              exact ⟨by unfold whyE; rw [OK.out, hd.out, E.out]; rfl, BQ.out⟩
end Go.Proofs.Ytpaabfadniakoaa
