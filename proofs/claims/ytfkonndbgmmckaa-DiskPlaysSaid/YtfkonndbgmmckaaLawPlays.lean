/- LawPlays: the walk of DiskPlays. -/
import Derived.Test.YtfkonndbgmmckaaPlayH
import Derived.Test.YtfkonndbgmmckaaOpen3
set_option linter.unusedVariables false
set_option linter.unusedSimpArgs false
namespace Go.Proofs.Ytfkonndbgmmckaa
open Go.RowKit

/-- The disk behind some steps. -/
def playD (n : Nat) (l : List OpV) : Dk := l.foldl stepD (Dk.new n)
theorem Few.stepD {k : Nat} {d : Dk} (h : Few k d) (o : OpV) : Few (k + 1) (stepD d o) := by
  unfold Go.Proofs.Ytfkonndbgmmckaa.stepD
  split
  · exact h.write _ _
  · split
    · exact h.flush.mono (by omega)
    · split
      · exact (h.setFuse _).mono (by omega)
      · split
        · exact (h.fail _).mono (by omega)
        · split
          · exact h.start.mono (by omega)
          · exact h.mono (by omega)
theorem Few.playD (n : Nat) (l : List OpV) : Few l.length (playD n l) := by
  have : ∀ (l : List OpV) (k : Nat) (d : Dk), Few k d → Few (k + l.length) (l.foldl Go.Proofs.Ytfkonndbgmmckaa.stepD d) := by
    intro l
    induction l with
    | nil => intro k d h; exact h
    | cons o l ih => intro k d h; have := ih (k + 1) _ (h.stepD o); rw [List.length_cons]; exact this.mono (by omega)
  have h := this l 0 _ (Few.new n)
  exact h.mono (by omega)
theorem playD_snoc (n : Nat) (l : List OpV) (k : Nat) (hk : k < l.length) : playD n (l.take (k + 1)) = stepD (playD n (l.take k)) l[k] := by
  unfold playD
  rw [List.take_succ_eq_append_getElem hk, List.foldl_append]
  rfl
theorem Mine.newRf {w0 w w' : World} {ps : List Part} {R : Nat → Prop} {d : Dk} {vl vw : Value} (h : Mine w0 w ps) (hb : Below w.heap.size w w') (hr : RefAt w' R d vl vw) (hR : ∀ k, R k → w.heap.size ≤ k) : Mine w0 w' (rf R d vl vw :: ps) :=
  h.new hb hR (rf_good hr)
theorem Mine.perm {w0 w : World} {ps qs : List Part} (h : Mine w0 w ps) (hp : ps.Perm qs) : Mine w0 w qs :=
  ⟨⟨fun p hq => h.sep.1 p (hp.mem_iff.2 hq), hp.pairwise h.sep.2 (fun h k a b => h k b a)⟩, h.bel, fun p hq => h.abv p (hp.mem_iff.2 hq)⟩
theorem Mine.turn {w0 w : World} {p q r : Part} (h : Mine w0 w [p, q, r]) : Mine w0 w [r, q, p] := h.perm (List.reverse_perm [p, q, r]).symm

/-- Both disks, and the box in which the law keeps the document's. -/
def Playing (w wr : World) (gb : Nat) (D : Dk) (g : Nat) : Prop := ∃ F R A A2 c c2, Mine w wr [dk F g D, rf R D (.slice A2 D.l.length c2) (.slice A D.waits.length c), bx gb #[.slice A2 D.l.length c2, .slice A D.waits.length c, .int .i64 D.fuse, .int .i64 D.writes, .bool D.down] 50]

set_option maxHeartbeats 3200000 in
set_option maxRecDepth 100000 in
theorem plays_yes (w : World) (n : Nat) (v : Value) (l : List OpV) (h1 : 1 ≤ n) (h2 : n ≤ 40) (hv : RdOps3 w v l) :
    Calls Try.prog 7 #[.int .i64 n, v] w fun e w' => e = .returned (.bool true) ∧ Below w.heap.size w w' := by
  obtain ⟨hv, hat⟩ := hv
  have HAT := Lib.hid hat
  obtain ⟨OA, oc, rfl, hlc, hoc, hops⟩ := hv
  have HOPS := Lib.hid hops
  clear hops hat
  go_enter Try.func7, Try.ntmps7
  go_wp2_with fail
  refine (new_h _ n h1 (by omega)).mono ?_
  rintro e w1 ⟨g1, F1, rfl, hd, hF, b1⟩
  have M1 : Hid (Mine w w1 [dk F1 g1 (Dk.new n)]) := (Mine.start w).newDk b1 hd hF
  clear hd hF b1
  go_wp2_with fail
  refine (rnew_yes _ n h1 (by omega)).mono ?_
  rintro e w2 ⟨R1, vl, rfl, hr, hR, b2⟩
  have M2 : Hid (Mine w w2 [rf R1 (Dk.new n) vl (.slice none 0 0), dk F1 g1 (Dk.new n)]) := M1.out.newRf b2 hr hR
  obtain ⟨A2, c2, rfl⟩ := own_slice hr.own
  clear hr hR b2 M1
  unfold refV
  have d1 : decide ((40 : Int) < n) = false := by simp; omega
  have PP : Hid (Playing w (w2.alloc (.cells #[.slice A2 (Dk.new n).l.length c2, .slice none 0 0, .int .i64 0, .int .i64 0, .bool false] 50)) w2.heap.size (Dk.new n) g1) :=
    ⟨F1, R1, none, A2, 0, c2, (M2.out.newBx _ rfl _ _).turn⟩
  clear M2
  generalize hDn : Dk.new n = Dn at PP ⊢
  go_wp2_with fail
  go_loopw [5, 9, 33] (fun dp i i2 wr => ∃ k g : Nat, k ≤ l.length ∧ k ≤ 80 ∧ i = .int .i64 k ∧ dp = .pointer (some ⟨g, 0, none⟩) ∧ Hid (Playing w wr w2.heap.size (playD n (l.take k)) g)) (fun _ i _ _ => l.length - (intOf i).toNat)
  case atStart => exact ⟨0, g1, Nat.zero_le _, by decide, rfl, rfl, by subst hDn; exact PP⟩
  case round =>
    obtain ⟨k, g, hk, hk8, rfl, rfl, P⟩ := hrel
    clear PP
    by_cases hlt : k < l.length ∧ k < 80
    · obtain ⟨hl1, hl2⟩ := hlt
      obtain ⟨F, R, A, A2, c, c2, Mk⟩ := P.out
      have MK := Lib.hid Mk
      clear Mk P
      obtain ⟨b, off, rfl, ho⟩ := HOPS.out (by omega)
      obtain ⟨c0, c1, c2', c3, c4, c5⟩ := (ho.below MK.out.bel) k hl1
      have C5 := Lib.hid (ho k hl1).2.2.2.2.2
      have few : Hid (Few 80 (playD n (l.take k))) := (Few.playD n (l.take k)).mono (by simp; omega)
      have hsn := Lib.hid (playD_snoc n l k hl1)
      have few2 : Hid (Few 81 (stepD (playD n (l.take k)) l[k])) := few.out.stepD _
      have hl80 : (k : Int) < 80 := by omega
      have HATo := Lib.hid (HAT.out l[k] (List.getElem_mem hl1))
      clear c5 ho
      obtain ⟨D, hD⟩ : ∃ D, D = playD n (l.take k) := ⟨_, rfl⟩
      rw [← hD] at few hsn MK few2
      clear hD
      obtain ⟨o, hoo⟩ : ∃ o, o = l[k] := ⟨_, rfl⟩
      rw [← hoo] at c0 c1 c2' c3 c4 hsn C5 HATo few2
      clear hoo
      unfold OpV.pv at c4 C5
      by_cases kp : o.picks.length ≤ 300
      · have hp : decide (o.picks.length ≤ 300) = true := by simpa using kp
        go_wp2_with fail
        refine (light_all wr o.kind o.at_ o.long o.fill o.pA o.picks.length o.pc).mono ?_
        rintro e w3 ⟨rfl, b3⟩
        rw [hp]
        have M3 := Lib.hid (MK.out.below b3)
        have c0 := cell_below b3 c0; have c1 := cell_below b3 c1; have c2' := cell_below b3 c2'; have c3 := cell_below b3 c3; have c4 := cell_below b3 c4
        clear b3 MK
        have r0 := M3.out.box (l1 := [_, _])
        have k0 := blk_cell r0 0; have k1 := blk_cell r0 1; have k2 := blk_cell r0 2; have k3 := blk_cell r0 3; have k4 := blk_cell r0 4
        simp only [List.getElem?_toArray, List.getElem?_cons_zero, List.getElem?_cons_succ] at k0 k1 k2 k3 k4
        clear r0
        go_wp2_with fail
        refine wp_region_plan (fun _ => True) (.op 0 1 (.op 2 1 (.op 3 1 (.op 4 1 (.two 1 (.op 5 0 (.op 6 0 (.op 7 1 (.op 8 1 (.op 9 1 (.op 10 1 (.op 11 1 (.op 12 0 (.op 13 1 .done))))))))) 5 (.op 1 0 (.op 6 0 (.op 7 1 (.op 8 1 (.op 9 1 (.op 10 1 (.op 11 1 (.op 12 0 (.op 13 1 .done)))))))))))))) (by kernel_rfl) (by kernel_rfl) trivial ?_
        repeat (refine wpP_dry (fun K hK => ?_); simp only [List.getD_cons_zero, List.getD_cons_succ]; go_simp; refine hK _ ?_; clear hK K)
        refine wpP_two ?_ ?_
        all_goals
          simp only [List.getD_cons_zero, List.getD_cons_succ]
          go_wp2_with fail
          refine ⟨trivial, ?_⟩
          refine wpP_do ?_
          simp only [List.getD_cons_zero, List.getD_cons_succ]
          go_wp2_with fail
          refine ⟨trivial, ?_⟩
          refine wpP_do ?_
          simp only [List.getD_cons_zero, List.getD_cons_succ]
          have ST := Lib.hid (step_any w w3.drew F R g D _ _ _ M3.out.drew o (by have := few.out.waits; omega) (by have := few.out.writes; omega) HATo.out C5.out)
          unfold refV at ST
          clear k0 k1 k2 k3 k4 c0 c1 c2' c3 c4
          go_wp2_with fail
          refine ST.out.mono ?_
          clear ST M3
          rintro e w4 ⟨F4, g4, R4, v1, v2, rfl, M4⟩
          obtain ⟨A3, c5, rfl⟩ := own_slice (M4.ref (l1 := [_])).ownW
          obtain ⟨A4, c6, rfl⟩ := own_slice (M4.ref (l1 := [_])).own
          have M5 := Lib.hid M4
          clear M4
          obtain ⟨E, hE⟩ : ∃ E, E = stepD D o := ⟨_, rfl⟩
          rw [← hE] at M5 hsn few2 ⊢
          clear hE
          have r0 := M5.out.box (l1 := [_, _])
          have k0 := blk_cell r0 0; have k1 := blk_cell r0 1; have k2 := blk_cell r0 2; have k3 := blk_cell r0 3; have k4 := blk_cell r0 4
          have f0 := blk_free r0 0; have f1 := blk_free r0 1; have f2 := blk_free r0 2; have f3 := blk_free r0 3; have f4 := blk_free r0 4
          simp only [List.getElem?_toArray, List.getElem?_cons_zero, List.getElem?_cons_succ] at k0 k1 k2 k3 k4
          clear r0
          go_wp2_with fail
          refine ⟨trivial, ?_⟩
          repeat (refine wpP_dry (fun K hK => ?_); simp only [List.getD_cons_zero, List.getD_cons_succ]; go_simp; refine hK _ ?_; clear hK K)
          refine wpP_do ?_
          simp only [List.getD_cons_zero, List.getD_cons_succ]
          go_wp2_with fail
          have M6 : Hid (Mine w (set5 w4 w2.heap.size (.slice A4 E.l.length c6) (.slice A3 E.waits.length c5) (.int .i64 E.fuse) (.int .i64 E.writes) (.bool E.down)) _) := M5.out.setBx (l1 := [_, _])
          clear k0 k1 k2 k3 k4 f0 f1 f2 f3 f4 M5
          have hW : ∃ W, W = set5 w4 w2.heap.size (.slice A4 E.l.length c6) (.slice A3 E.waits.length c5) (.int .i64 E.fuse) (.int .i64 E.writes) (.bool E.down) := ⟨_, rfl⟩
          obtain ⟨W, hW⟩ := hW
          have hW2 := hW
          unfold set5 at hW2
          simp only [← hW2]
          rw [← hW] at M6
          clear hW hW2
          refine ⟨trivial, ?_⟩
          repeat (refine wpP_dry (fun K hK => ?_); simp only [List.getD_cons_zero, List.getD_cons_succ]; go_simp; refine hK _ ?_; clear hK K)
          refine wpP_done ?_
          have r0 := M6.out.box (l1 := [_, _])
          have k0 := blk_cell r0 0; have k1 := blk_cell r0 1; have k2 := blk_cell r0 2; have k3 := blk_cell r0 3; have k4 := blk_cell r0 4
          simp only [List.getElem?_toArray, List.getElem?_cons_zero, List.getElem?_cons_succ] at k0 k1 k2 k3 k4
          clear r0
          have AL := Lib.hid (alike_any W F4 R4 g4 E _ _ (M6.out.get (l1 := [])) (M6.out.ref (l1 := [_])) (by have := few2.out.waits; omega))
          unfold refV at AL
          go_wp2_with fail
          refine AL.out.mono ?_
          rintro e w5 ⟨rfl, b5⟩
          have M7 := Lib.hid (M6.out.below b5)
          clear b5 M6 AL k0 k1 k2 k3 k4
          go_wp2
          go_roundw
          case rel =>
            refine ⟨k + 1, g4, by omega, by omega, by go_num, rfl, ?_⟩
            rw [hsn.out]
            exact ⟨F4, R4, A3, A4, c5, c6, M7.out⟩
          case measure => simp [intOf]; omega
      · have hp : decide (o.picks.length ≤ 300) = false := by simpa using kp
        go_wp2_with fail
        refine (light_all wr o.kind o.at_ o.long o.fill o.pA o.picks.length o.pc).mono ?_
        rintro e w3 ⟨rfl, b3⟩
        rw [hp]
        have B3 : Hid (Below w.heap.size w w3) := MK.out.bel.trans (b3.mono MK.out.bel.size)
        clear b3 MK c0 c1 c2' c3 c4
        go_wp2_with fail
        refine (lives6 _).mono ?_
        rintro e w20 ⟨rfl, b20⟩
        have B20 : Hid (Below w.heap.size w w20) := B3.out.trans (b20.mono B3.out.size)
        clear b20
        go_wp2
        go_ret
        exact ⟨rfl, B20.out⟩
    · have hex : (decide (k < l.length) = true ∧ decide ((k : Int) < 80) = false) ∨ decide (k < l.length) = false := by
        by_cases h : k < l.length
        · exact .inl ⟨by simpa using h, by simp; omega⟩
        · exact .inr (by simpa using h)
      have BEL : Hid (Below w.heap.size w wr) := by obtain ⟨F, R, A, A2, c, c2, Mk⟩ := P.out; exact Mk.bel
      clear P hlt
      rcases hex with ⟨hexa, hexb⟩ | hex
      all_goals
        go_wp2_with fail
        refine (lives6 _).mono ?_
        rintro e w20 ⟨rfl, b20⟩
        have B20 : Hid (Below w.heap.size w w20) := BEL.out.trans (b20.mono BEL.out.size)
        clear b20
        go_wp2
        go_ret
        exact ⟨rfl, B20.out⟩
end Go.Proofs.Ytfkonndbgmmckaa
