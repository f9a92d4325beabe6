/- LawFlushed: the walk of DiskFlushed. -/
import Derived.Test.YtfkonndbgmmckaaFlushP
import Derived.Test.YtfkonndbgmmckaaLawOneA
import Derived.Lib.Strings
set_option linter.unusedVariables false
set_option linter.unusedSimpArgs false
namespace Go.Proofs.Ytfkonndbgmmckaa
open Go.RowKit

set_option maxHeartbeats 3200000 in
set_option maxRecDepth 100000 in
theorem flushed_yes (w : World) (n : Nat) (v v2 : Value) (l more : List OpV) (h1 : 1 ≤ n) (h2 : n ≤ 40) (hv : RdOps w v l) (hv2 : RdOps w v2 more) (A : Option Addr) (pc : Nat) (picks : List Bool) (hp : RdB w (.slice A picks.length pc) picks) (hp3 : picks.length ≤ 300) :
    Calls Try.prog 4 #[.int .i64 n, .agg #[v, v2], .slice A picks.length pc] w fun e w' => e = .returned (.bool true) ∧ Below w.heap.size w w' := by
  have hv' := Lib.hid hv
  have hp' := Lib.hid hp
  obtain ⟨OA, oc, rfl, hlc, hoc, hops0⟩ := hv
  obtain ⟨MA, mc, rfl, mlc, moc, hops⟩ := hv2
  have HOPS := Lib.hid hops
  have q3 : decide (300 < picks.length) = false := by simpa using hp3
  clear hops hops0 hp
  go_enter Try.func4, Try.ntmps4
  go_wp2_with fail
  have B0 : ∀ b, Hid (Below w.heap.size w (w.alloc b)) := fun b => (Below.refl _ w).alloc (Nat.le_refl _) b
  refine wp_region_flag (fun w' => w'.cell? ⟨w.heap.size, 0, none⟩ = some (.slice OA l.length oc) ∧ w'.cell? ⟨w.heap.size, 1, none⟩ = some (.slice MA more.length mc)) [(0, 1), (2, 1), (1, 2), (4, 1), (3, 0), (5, 1)] (by kernel_rfl) (by kernel_rfl) (by go_simp) ?_
  simp only [ordered, List.map_cons, List.map_nil, List.getD_cons_zero, List.getD_cons_succ]
  repeat (refine wpF_dry (fun K hK => ?_); go_simp; refine hK _ ?_; clear hK K)
  refine wpF_read (.slice OA l.length oc) rfl (fun w' hS => by obtain ⟨s1, s2⟩ := hS; go_simp) (fun K hK => ?_)
  go_simp
  refine hK _ ?_
  clear hK K
  repeat (refine wpF_dry (fun K hK => ?_); go_simp; refine hK _ ?_; clear hK K)
  refine wpF_do ?_
  go_wp2_with fail
  refine ⟨by go_simp, ?_⟩
  repeat (refine wpF_dry (fun K hK => ?_); go_simp; refine hK _ ?_; clear hK K)
  refine wpF_nil ?_
  go_wp2_with fail
  refine (made_yes _ n _ l h1 h2 (hv'.out.below (B0 _).out.drew)).mono ?_
  rintro e w1 ⟨g1, F1, rfl, hd, hF, b0⟩
  have M : Hid (Mine w w1 [dk F1 g1 (madeD n (l.take 60))]) := ((Mine.start w).below (B0 _).out.drew).newDk b0 hd hF
  have few : Hid (Few 60 (madeD n (l.take 60))) := (Few.made n (l.take 60)).mono (by simp; omega)
  have up := Lib.hid (made_up n (l.take 60)).1
  have OK := Lib.hid hd.ok
  obtain ⟨D, hD⟩ : ∃ D, D = madeD n (l.take 60) := ⟨_, rfl⟩
  rw [← hD] at M few up OK
  clear hD hd hF b0 B0
  have fl := flush_up up.out OK.out
  have FL := Lib.hid fl.2
  have hu0 := fl.1
  clear fl
  go_wp2_with fail
  refine (flush_h (M.out.get (l1 := [])) (by have := few.out.waits; omega)).mono ?_
  rintro e w2 ⟨rfl, F2, h4⟩
  rw [hu0]
  have M2 : Hid (Mine w w2 [dk F2 g1 D.flush]) := M.out.dk (l1 := []) h4
  have few0 : Hid (Few 60 D.flush) := few.out.flush
  have up0 : Hid (Upp D.flush) := up.out.flush
  have ok0 : Hid (D.flush.Ok) := OK.out.flush
  have wt0 : Hid (D.flush.waits = []) := FL.out.1
  obtain ⟨D0, hD0⟩ : ∃ D0, D0 = D.flush := ⟨_, rfl⟩
  rw [← hD0] at M2 few0 up0 ok0 wt0
  clear h4 M few up OK FL hu0 hD0
  go_wp2_with fail
  refine (all_any (M2.out.get (l1 := [])) (by have := few0.out.waits; omega)).mono ?_
  rintro e w3 ⟨vl, rfl, ho, b⟩
  have M3 : Hid (Mine w w3 [rw_ vl D0.all, dk F2 g1 D0]) := M2.out.newRow b (by rw [all_length]; exact ho)
  clear ho b M2
  have dpos : 0 < D0.l.length := ok0.out.pos
  have dmost := ok0.out.most
  obtain ⟨r1, ro⟩ := M3.out.row (l1 := [])
  obtain ⟨gl, cl, rfl, al⟩ := row_at ro (by rw [all_length]; exact dpos)
  rw [all_length] at M3 ⊢
  clear al ro
  obtain ⟨N, hN⟩ : ∃ N, N = D0.l.length := ⟨_, rfl⟩
  rw [← hN] at M3 dpos dmost ⊢
  have HN := Lib.hid hN
  clear hN
  have hmk : ∀ W : World, (Instr.makeSlice 23 (.int .i64 (N : Int)) (.int .i64 (N : Int))).run Try.prog W = .ok (.slice (some ⟨W.heap.size, 0, none⟩) N N) (W.alloc (.cells (madeCells #[.bool false] N) 4)) := by
    intro W
    exact run_make_row' 23 4 (.bool false) 1 Try.underlying23 infoBool rfl .i64 .i64 N (by omega) (by omega) W
  go_wp2_with fail
  have hown : Hid (Mine w (w3.alloc (.cells (madeCells #[.bool false] N) 4)) [bl_ (.slice (some ⟨w3.heap.size, 0, none⟩) N N) (List.replicate N false), rw_ (.slice (some ⟨gl, 0, none⟩) N cl) D0.all, dk F2 g1 D0]) := by
    refine M3.out.newBools ((Below.refl _ w3).alloc (Nat.le_refl _) _) (fun k hk => by simp [Value.ownBlock] at hk; omega) (b := 0) ?_
    have := own_bools0 w3 N (by unfold maxLen; omega)
    simpa [trues] using this
  have hsz : Hid (w.heap.size ≤ w3.heap.size) := M3.out.bel.size
  clear hmk M3
  go_loopw [12, 38] (fun i i2 wr => ∃ (k : Nat) (F : Nat → Prop), k ≤ more.length ∧ k ≤ 40 ∧ i = .int .i64 k ∧ Hid (Mine w wr [bl_ (.slice (some ⟨w3.heap.size, 0, none⟩) N N) (flD D0 (more.take k)).2, rw_ (.slice (some ⟨gl, 0, none⟩) N cl) D0.all, dk F g1 (flD D0 (more.take k)).1])) (fun i _ _ => more.length - (intOf i).toNat)
  case atStart => exact ⟨0, F2, Nat.zero_le _, by decide, rfl, by have := hown.out; rw [HN.out] at this ⊢; exact this⟩
  case round =>
    obtain ⟨k, F, hk, hk4, rfl, Mk⟩ := hrel
    clear hown
    have FK := Lib.hid (flD_ok up0.out wt0.out few0.out ok0.out (more.take k))
    by_cases hlt : k < more.length ∧ k < 40
    · obtain ⟨hl1, hl2⟩ := hlt
      obtain ⟨b, off, rfl, ho⟩ := HOPS.out (by omega)
      obtain ⟨c0, c1, c2, c3, c4, c5⟩ := (ho.below Mk.out.bel) k hl1
      have HO : Hid (∀ W, Below w.heap.size w W → _) := fun W hW => (ho.below hW) k hl1
      have hsn := Lib.hid (flD_snoc D0 more k hl1)
      have hl40 : (k : Int) < 40 := by omega
      have fw : Hid (Few 100 (flD D0 (more.take k)).1) := FK.out.few.mono (by rw [List.length_take]; omega)
      have fll : Hid ((flD D0 (more.take k)).2.length = N) := by have := FK.out.len; rw [← HN.out] at this; exact this
      have fl1 : Hid ((flD D0 (more.take k)).1.l.length = N) := by unfold Hid; rw [FK.out.l, HN.out]
      clear c5 ho
      obtain ⟨D, ws, hs⟩ : ∃ D ws, (D, ws) = flD D0 (more.take k) := ⟨_, _, rfl⟩
      rw [← hs] at hsn Mk fw fll fl1
      clear hs FK
      obtain ⟨o, hoo⟩ : ∃ o, o = more[k] := ⟨_, rfl⟩
      rw [← hoo] at c0 c1 c2 c3 c4 hsn HO
      clear hoo
      unfold OpV.pv at c4 HO
      by_cases k0 : o.kind = 0
      · rw [k0] at c0
        by_cases hE : D.writeE o.at_ o.text = 0
        · have hst : Hid (flStep (D, ws) o = (D.write o.at_ o.text, ws.set o.at_.toNat true)) := by unfold Hid flStep; rw [if_pos ⟨k0, hE⟩]
          obtain ⟨_, i0, i1⟩ := Dk.use_zero (writeE_zero hE)
          rw [fl1.out] at i1
          obtain ⟨j, hj⟩ := Int.eq_ofNat_of_zero_le i0
          rw [hj] at c1 hE i1 hst HO
          have hjN : j < N := by omega
          have hE2 : (D.writeE (j : Int) (Dk.rep (filledN o.long) o.fill) == 0) = true := by rw [show Dk.rep (filledN o.long) o.fill = o.text from rfl, hE]; rfl
          clear k0 hE i0 i1 hj
          go_wp2_with fail
          refine wp_region_flag (fun w' => w'.cell? ⟨b, off + k * 5 + 1, none⟩ = some (.int .i64 (j : Int))) [(0, 1), (1, 1), (2, 1), (3, 1), (4, 0), (5, 1), (6, 1), (7, 1), (8, 1), (9, 1), (10, 1), (11, 1), (13, 1), (14, 1), (15, 1), (12, 2), (16, 0), (17, 0), (18, 0), (19, 1), (20, 1)] (by kernel_rfl) (by kernel_rfl) c1 ?_
          simp only [ordered, List.map_cons, List.map_nil, List.getD_cons_zero, List.getD_cons_succ]
          repeat (refine wpF_dry (fun K hK => ?_); go_simp; refine hK _ ?_; clear hK K)
          refine wpF_do ?_
          go_wp2_with fail
          refine ⟨c1, ?_⟩
          repeat (refine wpF_dry (fun K hK => ?_); go_simp; refine hK _ ?_; clear hK K)
          refine wpF_read (.int .i64 (j : Int)) rfl (fun w' hS => by go_simp) (fun K hK => ?_)
          go_simp
          refine hK _ ?_
          clear hK K
          refine wpF_do ?_
          go_wp2_with fail
          refine ⟨c1, ?_⟩
          refine wpF_do ?_
          go_wp2_with fail
          refine (filled_any wr.drew _ _ o.long o.fill _ _ _).mono ?_
          rintro e w4 ⟨rfl, b4⟩
          have M4 : Hid (Mine w w4 [bl_ (.slice (some ⟨w3.heap.size, 0, none⟩) N N) ws, rw_ (.slice (some ⟨gl, 0, none⟩) N cl) D0.all, dk F g1 D]) := Mk.out.drew.below b4
          have q1 : w4.cell? ⟨b, off + k * 5 + 1, none⟩ = some (.int .i64 (j : Int)) := (HO.out _ M4.out.bel).2.1
          clear b4
          go_wp2_with fail
          refine ⟨q1, ?_⟩
          refine wpF_do ?_
          go_wp2_with fail
          refine (write_h (M4.out.get (l1 := [_, _])) _ _ (by rw [Dk.rep_size]; have := filledN_le o.long; omega) (by have := fw.out.waits; omega) (by have := fw.out.writes; omega)).mono ?_
          rintro e w5 ⟨rfl, F5, h5⟩
          have M5 : Hid (Mine w w5 [bl_ (.slice (some ⟨w3.heap.size, 0, none⟩) N N) ws, rw_ (.slice (some ⟨gl, 0, none⟩) N cl) D0.all, dk F5 g1 (D.write (j : Int) o.text)]) := M4.out.dk (l1 := [_, _]) h5
          obtain ⟨p0, p1, p2, p3, p4, _⟩ := HO.out _ M5.out.bel
          obtain ⟨bb, hbo⟩ := M5.out.bools (l1 := [])
          have hx := bool_at hbo fll.out j (by rw [fll.out]; exact hjN)
          have hfz := (fll.out ▸ hbo : w5.ownsRow bb 4 1 (.slice (some ⟨w3.heap.size, 0, none⟩) N N) N _).frozenAt (g := w3.heap.size) j
          clear h5 q1 c0 c1 c2 c3 c4 M4 hbo
          go_wp2_with fail
          refine ⟨p1, ?_⟩
          repeat (refine wpF_dry (fun K hK => ?_); go_simp; refine hK _ ?_; clear hK K)
          refine wpF_nil ?_
          go_wp2
          go_roundw
          case rel =>
            refine ⟨k + 1, F5, by omega, by omega, by go_num, ?_⟩
            rw [hsn.out, hst.out]
            exact M5.out.setBool fll.out j true
          case measure => simp [intOf]; omega
        · have hst : Hid (flStep (D, ws) o = (D, ws)) := by unfold Hid flStep; rw [if_neg (fun h => hE h.2)]
          have hwr : Hid (D.write o.at_ o.text = D) := by unfold Hid Dk.write; rw [if_neg hE]
          have hE2 : (D.writeE o.at_ (Dk.rep (filledN o.long) o.fill) == 0) = false := by rw [show Dk.rep (filledN o.long) o.fill = o.text from rfl]; simpa using hE
          clear k0 hE
          go_wp2_with fail
          refine wp_region_flag (fun w' => w'.cell? ⟨b, off + k * 5 + 1, none⟩ = some (.int .i64 o.at_)) [(0, 1), (1, 1), (2, 1), (3, 1), (4, 0), (5, 1), (6, 1), (7, 1), (8, 1), (9, 1), (10, 1), (11, 1), (13, 1), (14, 1), (15, 1), (12, 2), (16, 0), (17, 0), (18, 0), (19, 1), (20, 1)] (by kernel_rfl) (by kernel_rfl) c1 ?_
          simp only [ordered, List.map_cons, List.map_nil, List.getD_cons_zero, List.getD_cons_succ]
          repeat (refine wpF_dry (fun K hK => ?_); go_simp; refine hK _ ?_; clear hK K)
          refine wpF_do ?_
          go_wp2_with fail
          refine ⟨c1, ?_⟩
          repeat (refine wpF_dry (fun K hK => ?_); go_simp; refine hK _ ?_; clear hK K)
          refine wpF_read (.int .i64 o.at_) rfl (fun w' hS => by go_simp) (fun K hK => ?_)
          go_simp
          refine hK _ ?_
          clear hK K
          refine wpF_do ?_
          go_wp2_with fail
          refine ⟨c1, ?_⟩
          refine wpF_do ?_
          go_wp2_with fail
          refine (filled_any wr.drew _ _ o.long o.fill _ _ _).mono ?_
          rintro e w4 ⟨rfl, b4⟩
          have M4 : Hid (Mine w w4 [bl_ (.slice (some ⟨w3.heap.size, 0, none⟩) N N) ws, rw_ (.slice (some ⟨gl, 0, none⟩) N cl) D0.all, dk F g1 D]) := Mk.out.drew.below b4
          have q1 : w4.cell? ⟨b, off + k * 5 + 1, none⟩ = some (.int .i64 o.at_) := (HO.out _ M4.out.bel).2.1
          clear b4
          go_wp2_with fail
          refine ⟨q1, ?_⟩
          refine wpF_do ?_
          go_wp2_with fail
          refine (write_h (M4.out.get (l1 := [_, _])) _ _ (by rw [Dk.rep_size]; have := filledN_le o.long; omega) (by have := fw.out.waits; omega) (by have := fw.out.writes; omega)).mono ?_
          rintro e w5 ⟨rfl, F5, h5⟩
          have M5 : Hid (Mine w w5 [bl_ (.slice (some ⟨w3.heap.size, 0, none⟩) N N) ws, rw_ (.slice (some ⟨gl, 0, none⟩) N cl) D0.all, dk F5 g1 D]) := by
            have := M4.out.dk (l1 := [_, _]) h5
            rw [show Dk.rep (filledN o.long) o.fill = o.text from rfl, hwr.out] at this
            exact this
          have p1 := (HO.out _ M5.out.bel).2.1
          clear h5 q1 c0 c1 c2 c3 c4 M4
          go_wp2_with fail
          refine ⟨p1, ?_⟩
          repeat (refine wpF_dry (fun K hK => ?_); go_simp; refine hK _ ?_; clear hK K)
          refine wpF_nil ?_
          go_wp2
          go_roundw
          case rel =>
            refine ⟨k + 1, F5, by omega, by omega, by go_num, ?_⟩
            rw [hsn.out, hst.out]
            exact M5.out
          case measure => simp [intOf]; omega
      · have z0 : (o.kind == 0) = false := by simpa using k0
        have hst : Hid (flStep (D, ws) o = (D, ws)) := by unfold Hid flStep; rw [if_neg (fun h => k0 h.1)]
        clear k0
        go_wp2_with fail
        refine wp_region_flag (fun _ => True) [(0, 1), (1, 1), (2, 1), (3, 1), (4, 0), (5, 1), (6, 1), (7, 1), (8, 1), (9, 1), (10, 1), (11, 1), (13, 1), (14, 1), (15, 1), (12, 2), (16, 0), (17, 0), (18, 0), (19, 1), (20, 1)] (by kernel_rfl) (by kernel_rfl) trivial ?_
        simp only [ordered, List.map_cons, List.map_nil, List.getD_cons_zero, List.getD_cons_succ]
        repeat (refine wpF_dry (fun K hK => ?_); go_simp; refine hK _ ?_; clear hK K)
        refine wpF_do ?_
        go_wp2_with fail
        refine ⟨trivial, ?_⟩
        repeat (refine wpF_dry (fun K hK => ?_); go_simp; refine hK _ ?_; clear hK K)
        refine wpF_skip (fun K hK => ?_)
        go_simp
        refine hK _ ?_
        clear hK K
        refine wpF_do ?_
        go_wp2_with fail
        refine ⟨trivial, ?_⟩
        refine wpF_do ?_
        go_wp2_with fail
        refine ⟨trivial, ?_⟩
        refine wpF_do ?_
        go_wp2_with fail
        refine ⟨trivial, ?_⟩
        repeat (refine wpF_dry (fun K hK => ?_); go_simp; refine hK _ ?_; clear hK K)
        refine wpF_nil ?_
        go_wp2
        go_roundw
        case rel =>
          refine ⟨k + 1, F, by omega, by omega, by go_num, ?_⟩
          rw [hsn.out, hst.out]
          exact Mk.out.drew
        case measure => simp [intOf]; omega
    · have hex : (decide (k < more.length) = true ∧ decide ((k : Int) < 40) = false) ∨ decide (k < more.length) = false := by
        by_cases h : k < more.length
        · exact .inl ⟨by simpa using h, by simp; omega⟩
        · exact .inr (by simpa using h)
      have fw : Hid (Few 100 (flD D0 (more.take k)).1) := FK.out.few.mono (by rw [List.length_take]; omega)
      have fll : Hid ((flD D0 (more.take k)).2.length = N) := by have := FK.out.len; rw [← HN.out] at this; exact this
      have fl1 : Hid ((flD D0 (more.take k)).1.l.length = N) := by unfold Hid; rw [FK.out.l, HN.out]
      have SAME : Hid (∀ i, i < N → (flD D0 (more.take k)).2.getD i false = false → ((flD D0 (more.take k)).1.fail picks).start.all.getD i ByteArray.empty = D0.all.getD i ByteArray.empty) := fun i hi hf => flushed_ok up0.out wt0.out FK.out picks i (by rw [← HN.out]; exact hi) hf
      obtain ⟨D, ws, hs⟩ : ∃ D ws, (D, ws) = flD D0 (more.take k) := ⟨_, _, rfl⟩
      rw [← hs] at Mk fw fll fl1 SAME
      clear hs FK hlt
      rcases hex with ⟨hexa, hexb⟩ | hex
      all_goals
        go_wp2_with fail
        have hfar : Hid (0 < picks.length → ∀ j, (Value.slice A picks.length pc).ownBlock = some j → ¬ F j) := hp'.out.far (Nat.le_refl _) (Mk.out.abv (dk F g1 D) (by simp))
        have hpk : Hid (RdB wr (.slice A picks.length pc) picks) := Rd.below hp'.out Mk.out.bel
        refine (fail_h (Mk.out.get (l1 := [_, _])) (by have := fw.out.waits; omega) _ picks hpk.out hfar.out).mono ?_
        rintro e w7 ⟨rfl, F7, h7⟩
        have M7 : Hid (Mine w w7 [bl_ (.slice (some ⟨w3.heap.size, 0, none⟩) N N) ws, rw_ (.slice (some ⟨gl, 0, none⟩) N cl) D0.all, dk F7 g1 (D.fail picks)]) := Mk.out.dk (l1 := [_, _]) h7
        clear h7 Mk hpk hfar
        go_wp2_with fail
        refine (up_h (M7.out.get (l1 := [_, _]))).mono ?_
        rintro e w8 ⟨rfl, rfl⟩
        rw [show (D.fail picks).down = true from rfl]
        go_wp2_with fail
        refine (waits_h (M7.out.get (l1 := [_, _]))).mono ?_
        rintro e w8 ⟨rfl, rfl⟩
        rw [show (D.fail picks).waits.length = 0 from rfl]
        go_wp2_with fail
        refine (start_h (M7.out.get (l1 := [_, _]))).mono ?_
        rintro e w8 ⟨rfl, F8, h8⟩
        rw [(fail_start D picks).1]
        have M8 : Hid (Mine w w8 [bl_ (.slice (some ⟨w3.heap.size, 0, none⟩) N N) ws, rw_ (.slice (some ⟨gl, 0, none⟩) N cl) D0.all, dk F8 g1 (D.fail picks).start]) := M7.out.dk (l1 := [_, _]) h8
        clear h8 M7
        have FS : Hid ((D.fail picks).start.waits.length < 9223372036854775807) := by unfold Hid; rw [(fail_start D picks).2]; simp [Dk.fail, Dk.settled]
        have FLs : Hid ((D.fail picks).start.l.length = N) := by unfold Hid; rw [(fail_start D picks).2]; simp [Dk.fail, Dk.settled, Dk.settle_length]; exact fl1.out
        go_wp2_with fail
        refine (all_any (M8.out.get (l1 := [_, _])) FS.out).mono ?_
        rintro e w9 ⟨vn, rfl, ho, b⟩
        have M9 : Hid (Mine w w9 [rw_ vn (D.fail picks).start.all, bl_ (.slice (some ⟨w3.heap.size, 0, none⟩) N N) ws, rw_ (.slice (some ⟨gl, 0, none⟩) N cl) D0.all, dk F8 g1 (D.fail picks).start]) := M8.out.newRow b (by rw [all_length]; exact ho)
        clear ho b M8
        obtain ⟨r1, ro⟩ := M9.out.row (l1 := [])
        obtain ⟨gn, cn, rfl, an⟩ := row_at ro (by rw [all_length, FLs.out]; exact dpos)
        obtain ⟨r2, ro⟩ := M9.out.row (l1 := [_, _])
        obtain ⟨gl', cl', e', al⟩ := row_at ro (by rw [all_length, ← HN.out]; exact dpos)
        obtain ⟨r3, ro⟩ := M9.out.bools (l1 := [_])
        have ab := fun j hj => bool_at ro fll.out j hj
        injection e' with e1 e2 e3
        injection e1 with e1
        injection e1 with e1
        subst e1
        rw [all_length, FLs.out] at an
        rw [all_length, FLs.out]
        rw [all_length, ← HN.out] at al
        rw [fll.out] at ab
        have AN := Lib.hid an; have AL := Lib.hid al; have AB := Lib.hid ab
        have BEL : Hid (Below w.heap.size w w9) := M9.out.bel
        clear an al ab ro M9 FS FLs e2 e3 fw fll fl1 few0 up0 ok0 wt0 HOPS
        obtain ⟨ln, hln⟩ : ∃ ln, ln = (D.fail picks).start.all := ⟨_, rfl⟩
        obtain ⟨ll, hll⟩ : ∃ ll, ll = D0.all := ⟨_, rfl⟩
        rw [← hln] at AN SAME; rw [← hll] at AL SAME
        clear hln hll HN
        go_wp2_with fail
        go_loopw [14, 93] (fun i i2 wr2 => ∃ j : Nat, j ≤ N ∧ i = .int .i64 j ∧ Hid (Below w9.heap.size w9 wr2)) (fun i _ _ => N - (intOf i).toNat)
        case atStart => exact ⟨0, Nat.zero_le _, rfl, Below.refl _ _⟩
        case round =>
          obtain ⟨i, hi, rfl, hb⟩ := hrel
          by_cases hlt : i < N
          · have cn_ := cell_below hb.out (AN.out i hlt)
            have cl_ := cell_below hb.out (AL.out i hlt)
            have cb_ := cell_below hb.out (AB.out i hlt)
            have SM := Lib.hid (SAME.out i hlt)
            obtain ⟨xn, hxn⟩ : ∃ x, x = ln.getD i ByteArray.empty := ⟨_, rfl⟩
            obtain ⟨xl, hxl⟩ : ∃ x, x = ll.getD i ByteArray.empty := ⟨_, rfl⟩
            obtain ⟨xb, hxb⟩ : ∃ x, x = ws.getD i false := ⟨_, rfl⟩
            rw [← hxn] at cn_ SM; rw [← hxl] at cl_ SM; rw [← hxb] at cb_ SM
            clear hxn hxl hxb
            cases xb with
            | true =>
              go_wp2_with fail
              refine wp_region_flag (fun w' => True) [(0, 1), (1, 1), (2, 1), (3, 0), (4, 1), (5, 1), (6, 1), (7, 1), (8, 1), (10, 1), (11, 1), (12, 1), (9, 2), (13, 0), (14, 1), (15, 1)] (by kernel_rfl) (by kernel_rfl) trivial ?_
              simp only [ordered, List.map_cons, List.map_nil, List.getD_cons_zero, List.getD_cons_succ]
              repeat (refine wpF_dry (fun K hK => ?_); go_simp; refine hK _ ?_; clear hK K)
              refine wpF_do ?_
              go_wp2_with fail
              refine ⟨trivial, ?_⟩
              repeat (refine wpF_dry (fun K hK => ?_); go_simp; refine hK _ ?_; clear hK K)
              refine wpF_skip (fun K hK => ?_)
              go_simp
              refine hK _ ?_
              clear hK K
              refine wpF_do ?_
              go_wp2_with fail
              refine ⟨trivial, ?_⟩
              repeat (refine wpF_dry (fun K hK => ?_); go_simp; refine hK _ ?_; clear hK K)
              refine wpF_nil ?_
              go_wp2
              go_roundw
              case rel => exact ⟨i + 1, by omega, by go_num, hb.out.drew⟩
              case measure => simp [intOf]; omega
            | false =>
              have hmx' : (xn.toList == xl.toList) = true := by rw [beqS]; simpa using SM.out rfl
              go_wp2_with fail
              refine wp_region_flag (fun w' => w'.cell? ⟨gn, i, none⟩ = some (.string xn)) [(0, 1), (1, 1), (2, 1), (3, 0), (4, 1), (5, 1), (6, 1), (7, 1), (8, 1), (10, 1), (11, 1), (12, 1), (9, 2), (13, 0), (14, 1), (15, 1)] (by kernel_rfl) (by kernel_rfl) cn_ ?_
              simp only [ordered, List.map_cons, List.map_nil, List.getD_cons_zero, List.getD_cons_succ]
              repeat (refine wpF_dry (fun K hK => ?_); go_simp; refine hK _ ?_; clear hK K)
              refine wpF_do ?_
              go_wp2_with fail
              refine ⟨cn_, ?_⟩
              repeat (refine wpF_dry (fun K hK => ?_); go_simp; refine hK _ ?_; clear hK K)
              refine wpF_read (.string xn) rfl (fun w' hS => by go_simp) (fun K hK => ?_)
              go_simp
              refine hK _ ?_
              clear hK K
              refine wpF_do ?_
              go_wp2_with fail
              refine ⟨cn_, ?_⟩
              repeat (refine wpF_dry (fun K hK => ?_); go_simp; refine hK _ ?_; clear hK K)
              refine wpF_nil ?_
              go_wp2
              go_roundw
              case rel => exact ⟨i + 1, by omega, by go_num, hb.out.drew⟩
              case measure => simp [intOf]; omega
          · clear AN AL AB SAME
            go_wp2_with fail
            refine (lives6 _).mono ?_
            rintro e w20 ⟨rfl, b20⟩
            have B20 : Hid (Below w.heap.size w w20) := (BEL.out.trans (hb.out.mono BEL.out.size)).trans (b20.mono (Nat.le_trans BEL.out.size hb.out.size))
            clear b20
            go_wp2
            go_ret
            exact ⟨rfl, B20.out⟩
end Go.Proofs.Ytfkonndbgmmckaa
