/- PlS: the walk of ExtentPlays (written by gen_plays.py). -/
import Derived.Test.YthloinmnojlleaaPlR
import Derived.Test.YthloinmnojlleaaPlL
set_option linter.unusedVariables false
set_option linter.unusedSimpArgs false
namespace Go.Proofs.Ythloinmnojlleaa
open Go.RowKit

theorem step_any (w0 w : World) (n g : Nat) (s : Value) (nx : Nat) (gv : Value) (m : Nat) (ps : List Part) (h : Both2 w0 w n g s nx gv m ps) (hm : m ≤ 60) (h300 : n ≤ 300) (o : OpE) (hin : o.In) :
    Calls Try.prog 20 #[.pointer (some ⟨g, 0, none⟩), .agg #[s, .int .i64 nx], gv, .agg #[.int .i64 o.kind, .int .i64 o.n, .int .i64 o.rule, .int .i64 o.pos, .int .i64 o.size]] w fun e w' => ∃ (g' : Nat) (s' : Value) (nx' : Nat) (gv' : Value), e = .returned (.tuple #[.pointer (some ⟨g', 0, none⟩), .agg #[s', .int .i64 nx'], gv', .bool true]) ∧ Both2 w0 w' n g' s' nx' gv' (m + 1) ps := by
  obtain ⟨kd, on, ru, po, si⟩ := o
  simp only
  cases h0 : (kd == 0) with
  | true => exact step_alloc w0 w n g s nx gv m ps h hm h300 kd on ru po si hin h0
  | false =>
    cases h1 : (kd == 1) with
    | true => exact step_take w0 w n g s nx gv m ps h hm h300 kd on ru po si hin h0 h1
    | false =>
      cases h2 : (kd == 2) with
      | true => exact step_give2 w0 w n g s nx gv m ps h hm h300 kd on ru po si hin h0 h1 h2 (by simp at h2 ⊢; omega)
      | false =>
        cases h3 : (kd == 3) with
        | true =>
          by_cases hr : 0 ≤ on
          · exact step_give3y w0 w n g s nx gv m ps h hm h300 kd on ru po si hin h0 h1 h2 h3 hr
          · exact step_give3n w0 w n g s nx gv m ps h hm h300 kd on ru po si hin h0 h1 h2 h3 (by simpa using hr)
        | false =>
          cases h4 : (kd == 4) with
          | true => exact step_code w0 w n g s nx gv m ps h hm h300 kd on ru po si hin h0 h1 h2 h3 h4
          | false => exact step_ask w0 w n g s nx gv m ps h hm kd on ru po si hin h0 h1 h2 h3 h4
theorem Both2.to {w0 w w' : World} {n g : Nat} {s : Value} {nx : Nat} {gv : Value} {m : Nat} {ps qs : List Part} (h : Both2 w0 w n g s nx gv m ps) (hk : ∀ l : List Part, Mine w0 w (l ++ ps) → Mine w0 w' (l ++ qs)) : Both2 w0 w' n g s nx gv m qs := by
  obtain ⟨F, a, bits, G, h1, h2, h3, h4⟩ := h.ex
  exact ⟨F, a, bits, G, h1, h2, h3, hk [_, _, _] h4⟩
set_option maxHeartbeats 6400000 in
set_option maxRecDepth 100000 in
theorem plays_yes (w : World) (n : Nat) (v : Value) (l : List OpE) (h1 : 1 ≤ n) (h2 : n ≤ 300) (hv : RdE w v l) :
    Calls Try.prog 5 #[.int .i64 n, v] w fun e w' => e = .returned (.bool true) ∧ Below w.heap.size w w' := by
  obtain ⟨OA, oc, rfl, hlc, hoc, hops, hin⟩ := hv
  have HOPS := Lib.hid hops
  have HIN := Lib.hid hin
  have HNN := Lib.hid (And.intro h1 h2)
  have dn1 : decide ((n : Int) < 1) = false := by simp; omega
  have dn2 : decide ((1048576 : Int) < (n : Int)) = false := by simp; omega
  have dn3 : decide ((300 : Int) < (n : Int)) = false := by simp; omega
  clear hops hin
  go_enter Try.func5, Try.ntmps5
  go_wp2_with fail
  refine (new_yes _ n HNN.out.1 (by have := HNN.out.2; omega)).mono ?_
  rintro e w1 ⟨g, F, v1, rfl, hd, hF, b1⟩
  have M1 : Hid (Mine w w1 [ar F g (Ar.new n), rs (.slice none 0 0) []]) := ((Mine.start w).newOut).newAr b1 ⟨v1, hd⟩ hF
  clear hd hF b1
  go_wp2_with fail
  refine (rnew_any w1 n (by have := HNN.out.2; omega)).mono ?_
  rintro e w2 ⟨s, rfl, ho, b2⟩
  obtain ⟨As, cs, es⟩ := ho.slice
  rw [List.length_replicate] at es
  subst es
  have M2 := Lib.hid ((M1.out.newRb b2 ho).perm (List.Perm.swap _ _ _))
  have M3 : Hid (Mine w (w2.alloc (.cells #[.slice As n cs, .int .i64 (0 : Nat)] 46)) _) := M2.out.newBk w2.heap.size rfl #[.slice As n cs, .int .i64 (0 : Nat)] 46
  have ST : Hid (Both2 w (w2.alloc (.cells #[.slice As n cs, .int .i64 (0 : Nat)] 46)) n g (.slice As n cs) 0 (.slice none 0 0) 0 [bk w2.heap.size #[.slice As n cs, .int .i64 (0 : Nat)] 46]) :=
    ⟨F, Ar.new n, List.replicate n true, [], like_new HNN.out.1 (by have := HNN.out.2; omega), rfl, Nat.le_refl _, M3.out.perm (List.perm_append_comm (l₁ := [_]))⟩
  clear b2 ho M1 M2 M3
  go_wp2_with fail
  go_loopw [5, 8, 9, 58] (fun aa gg ii i2 wr => ∃ (k g : Nat) (s : Value) (nx : Nat), k ≤ l.length ∧ k ≤ 60 ∧ ii = .int .i64 k ∧ aa = .pointer (some ⟨g, 0, none⟩) ∧ Hid (Both2 w wr n g s nx gg k [bk w2.heap.size #[s, .int .i64 (nx : Nat)] 46])) (fun _ _ ii _ _ => l.length - (intOf ii).toNat)
  case atStart => exact ⟨0, g, _, 0, Nat.zero_le _, by decide, rfl, rfl, ST⟩
  case round =>
    obtain ⟨k, g, s, nx, hk, hk6, rfl, rfl, ST2⟩ := hrel
    clear ST
    by_cases hlt : k < l.length ∧ k < 60
    · obtain ⟨hl1, hl2⟩ := hlt
      obtain ⟨b, off, rfl, hops⟩ := HOPS.out (by omega)
      have hl60 : (k : Int) < 60 := by omega
      have HO := Lib.hid (HIN.out l[k] (List.getElem_mem hl1))
      obtain ⟨Fb, ab, bb, Gb, Lb, hnb, hGb, Mb⟩ := ST2.out.ex
      have hb9 := Mb.bk (l1 := [_, _, _])
      have k0 := blk_cell hb9 0; have k1 := blk_cell hb9 1; have f0 := blk_free hb9 0; have f1 := blk_free hb9 1
      simp only [List.getElem?_toArray, List.getElem?_cons_zero, List.getElem?_cons_succ] at k0 k1
      clear hb9
      obtain ⟨As, cs, es⟩ := (Mb.rb (l1 := [_])).slice
      rw [Lb.len, hnb] at es
      subst es
      obtain ⟨Ag, cg, eg⟩ := (Mb.out (l1 := [_, _])).slice
      subst eg
      obtain ⟨c0, c1, c2, c3, c4⟩ := (hops.below Mb.bel.drew) k hl1
      generalize l[k] = o at c0 c1 c2 c3 c4 HO
      have k0 := cell_below (Below.refl _ wr).drew k0; have k1 := cell_below (Below.refl _ wr).drew k1
      have STD : Hid (Both2 w wr.drew n g (.slice As n cs) nx (.slice Ag Gb.length cg) k [bk w2.heap.size #[.slice As n cs, .int .i64 (nx : Nat)] 46]) := ST2.out.to (fun l h => h.drew)
      have SA := Lib.hid (step_any w wr.drew n g (.slice As n cs) nx (.slice Ag Gb.length cg) k _ STD.out hk6 HNN.out.2 o HO.out)
      clear Mb Lb hnb hGb f0 f1 hops
      go_wp2_with fail
      refine wp_region_plan (fun _ => True) (.op 0 1 (.op 2 1 (.op 3 1 (.op 4 1 (.op 5 1 (.two 1 (.op 6 0 (.op 7 0 (.op 8 1 (.op 9 1 (.op 10 1 (.op 11 1 (.op 12 1 (.op 13 1 (.op 14 0 (.op 15 1 (.op 16 1 .done))))))))))) 6 (.op 1 0 (.op 7 0 (.op 8 1 (.op 9 1 (.op 10 1 (.op 11 1 (.op 12 1 (.op 13 1 (.op 14 0 (.op 15 1 (.op 16 1 .done))))))))))))))))) (by kernel_rfl) (by kernel_rfl) trivial ?_
      repeat (refine wpP_dry (fun K hK => ?_); simp only [List.getD_cons_zero, List.getD_cons_succ]; go_simp; refine hK _ ?_; clear hK K)
      refine wpP_two ?_ ?_
      · simp only [List.getD_cons_zero, List.getD_cons_succ]
        go_wp2_with fail
        refine ⟨trivial, ?_⟩
        refine wpP_do ?_
        simp only [List.getD_cons_zero, List.getD_cons_succ]
        go_wp2_with fail
        refine ⟨trivial, ?_⟩
        refine wpP_do ?_
        simp only [List.getD_cons_zero, List.getD_cons_succ]
        go_wp2_with fail
        refine SA.out.mono ?_
        rintro e w4 ⟨g4, s4, nx4, gv4, rfl, h4⟩
        have S4 := Lib.hid h4
        obtain ⟨Fb, ab, bb, Gb, Lb, hnb, hGb, Mb⟩ := S4.out.ex
        have hb8 := Mb.bk (l1 := [_, _, _])
        have k0 := blk_cell hb8 0; have k1 := blk_cell hb8 1; have f0 := blk_free hb8 0; have f1 := blk_free hb8 1
        simp only [List.getElem?_toArray, List.getElem?_cons_zero, List.getElem?_cons_succ] at k0 k1
        clear hb8
        obtain ⟨As4, cs4, es⟩ := (Mb.rb (l1 := [_])).slice
        rw [Lb.len, hnb] at es
        subst es
        obtain ⟨Ag4, cg4, eg⟩ := (Mb.out (l1 := [_, _])).slice
        subst eg
        clear SA h4 Mb Lb hnb hGb c0 c1 c2 c3 c4
        go_wp2_with fail
        refine ⟨trivial, ?_⟩
        repeat (refine wpP_dry (fun K hK => ?_); simp only [List.getD_cons_zero, List.getD_cons_succ]; go_simp; refine hK _ ?_; clear hK K)
        refine wpP_do ?_
        simp only [List.getD_cons_zero, List.getD_cons_succ]
        go_wp2_with fail
        refine ⟨trivial, ?_⟩
        repeat (refine wpP_dry (fun K hK => ?_); simp only [List.getD_cons_zero, List.getD_cons_succ]; go_simp; refine hK _ ?_; clear hK K)
        refine wpP_done ?_
        have S5 : Hid (Both2 w ((w4.setCell ⟨w2.heap.size, 0, none⟩ (.slice As4 n cs4)).setCell ⟨w2.heap.size, 1, none⟩ (.int .i64 (nx4 : Nat))) n g4 (.slice As4 n cs4) nx4 _ (k + 1) [bk w2.heap.size #[.slice As4 n cs4, .int .i64 (nx4 : Nat)] 46]) := S4.out.to (fun l h => h.setBk2 (l1 := l))
        clear k0 k1 f0 f1
        obtain ⟨w5, hw5⟩ : ∃ w5, w5 = ((w4.setCell ⟨w2.heap.size, 0, none⟩ (.slice As4 n cs4)).setCell ⟨w2.heap.size, 1, none⟩ (.int .i64 (nx4 : Nat))) := ⟨_, rfl⟩
        rw [← hw5] at S5 ⊢
        clear hw5 S4
        obtain ⟨Fb, ab, bb, Gb, Lb, hnb, hGb, Mb⟩ := S5.out.ex
        have hb9 := Mb.bk (l1 := [_, _, _])
        have k0 := blk_cell hb9 0; have k1 := blk_cell hb9 1; have f0 := blk_free hb9 0; have f1 := blk_free hb9 1
        simp only [List.getElem?_toArray, List.getElem?_cons_zero, List.getElem?_cons_succ] at k0 k1
        clear hb9
        obtain ⟨va, ha⟩ := Mb.area (l1 := [])
        have AK := Lib.hid (alike_any w5 Fb g4 ab va ha (.slice As4 n cs4) bb nx4 (Mb.rb (l1 := [_])) Lb)
        clear Mb Lb hnb hGb ha
        go_wp2_with fail
        refine AK.out.mono ?_
        rintro e w6 ⟨rfl, b6⟩
        have S6 : Hid (Both2 w w6 n g4 (.slice As4 n cs4) nx4 _ (k + 1) [bk w2.heap.size #[.slice As4 n cs4, .int .i64 (nx4 : Nat)] 46]) := S5.out.to (fun l h => h.below b6)
        clear k0 k1 f0 f1
        clear b6 AK S5
        go_wp2
        go_roundw
        case rel => first | exact ⟨k + 1, g4, _, nx4, by omega, by omega, by go_num, rfl, S6⟩ | ((repeat apply Exists.intro); refine ⟨?_, rfl⟩; exact ⟨k + 1, g4, _, nx4, by omega, by omega, by go_num, rfl, S6⟩)
        case measure => simp [intOf]; omega
      · simp only [List.getD_cons_zero, List.getD_cons_succ]
        go_wp2_with fail
        refine ⟨trivial, ?_⟩
        refine wpP_do ?_
        simp only [List.getD_cons_zero, List.getD_cons_succ]
        go_wp2_with fail
        refine ⟨trivial, ?_⟩
        refine wpP_do ?_
        simp only [List.getD_cons_zero, List.getD_cons_succ]
        go_wp2_with fail
        refine SA.out.mono ?_
        rintro e w4 ⟨g4, s4, nx4, gv4, rfl, h4⟩
        have S4 := Lib.hid h4
        obtain ⟨Fb, ab, bb, Gb, Lb, hnb, hGb, Mb⟩ := S4.out.ex
        have hb8 := Mb.bk (l1 := [_, _, _])
        have k0 := blk_cell hb8 0; have k1 := blk_cell hb8 1; have f0 := blk_free hb8 0; have f1 := blk_free hb8 1
        simp only [List.getElem?_toArray, List.getElem?_cons_zero, List.getElem?_cons_succ] at k0 k1
        clear hb8
        obtain ⟨As4, cs4, es⟩ := (Mb.rb (l1 := [_])).slice
        rw [Lb.len, hnb] at es
        subst es
        obtain ⟨Ag4, cg4, eg⟩ := (Mb.out (l1 := [_, _])).slice
        subst eg
        clear SA h4 Mb Lb hnb hGb c0 c1 c2 c3 c4
        go_wp2_with fail
        refine ⟨trivial, ?_⟩
        repeat (refine wpP_dry (fun K hK => ?_); simp only [List.getD_cons_zero, List.getD_cons_succ]; go_simp; refine hK _ ?_; clear hK K)
        refine wpP_do ?_
        simp only [List.getD_cons_zero, List.getD_cons_succ]
        go_wp2_with fail
        refine ⟨trivial, ?_⟩
        repeat (refine wpP_dry (fun K hK => ?_); simp only [List.getD_cons_zero, List.getD_cons_succ]; go_simp; refine hK _ ?_; clear hK K)
        refine wpP_done ?_
        have S5 : Hid (Both2 w ((w4.setCell ⟨w2.heap.size, 0, none⟩ (.slice As4 n cs4)).setCell ⟨w2.heap.size, 1, none⟩ (.int .i64 (nx4 : Nat))) n g4 (.slice As4 n cs4) nx4 _ (k + 1) [bk w2.heap.size #[.slice As4 n cs4, .int .i64 (nx4 : Nat)] 46]) := S4.out.to (fun l h => h.setBk2 (l1 := l))
        clear k0 k1 f0 f1
        obtain ⟨w5, hw5⟩ : ∃ w5, w5 = ((w4.setCell ⟨w2.heap.size, 0, none⟩ (.slice As4 n cs4)).setCell ⟨w2.heap.size, 1, none⟩ (.int .i64 (nx4 : Nat))) := ⟨_, rfl⟩
        rw [← hw5] at S5 ⊢
        clear hw5 S4
        obtain ⟨Fb, ab, bb, Gb, Lb, hnb, hGb, Mb⟩ := S5.out.ex
        have hb9 := Mb.bk (l1 := [_, _, _])
        have k0 := blk_cell hb9 0; have k1 := blk_cell hb9 1; have f0 := blk_free hb9 0; have f1 := blk_free hb9 1
        simp only [List.getElem?_toArray, List.getElem?_cons_zero, List.getElem?_cons_succ] at k0 k1
        clear hb9
        obtain ⟨va, ha⟩ := Mb.area (l1 := [])
        have AK := Lib.hid (alike_any w5 Fb g4 ab va ha (.slice As4 n cs4) bb nx4 (Mb.rb (l1 := [_])) Lb)
        clear Mb Lb hnb hGb ha
        go_wp2_with fail
        refine AK.out.mono ?_
        rintro e w6 ⟨rfl, b6⟩
        have S6 : Hid (Both2 w w6 n g4 (.slice As4 n cs4) nx4 _ (k + 1) [bk w2.heap.size #[.slice As4 n cs4, .int .i64 (nx4 : Nat)] 46]) := S5.out.to (fun l h => h.below b6)
        clear k0 k1 f0 f1
        clear b6 AK S5
        go_wp2
        go_roundw
        case rel => first | exact ⟨k + 1, g4, _, nx4, by omega, by omega, by go_num, rfl, S6⟩ | ((repeat apply Exists.intro); refine ⟨?_, rfl⟩; exact ⟨k + 1, g4, _, nx4, by omega, by omega, by go_num, rfl, S6⟩)
        case measure => simp [intOf]; omega
    · have hex : (decide (k < l.length) = true ∧ decide ((k : Int) < 60) = false) ∨ decide (k < l.length) = false := by
        by_cases h : k < l.length
        · exact .inl ⟨by simpa using h, by simp; omega⟩
        · exact .inr (by simpa using h)
      have BEL : Hid (Below w.heap.size w wr) := by obtain ⟨F, a, bits, G, _, _, _, M⟩ := ST2.out.ex; exact M.bel
      clear hlt ST2
      rcases hex with ⟨e1, e2⟩ | e1
      all_goals
        go_wp2_with fail
        refine (lives16 _).mono ?_
        rintro e wz ⟨rfl, bz⟩
        have BZ : Hid (Below w.heap.size w wz) := BEL.out.trans (bz.mono BEL.out.size)
        clear bz
        go_wp2
        go_ret
        exact ⟨rfl, BZ.out⟩
end Go.Proofs.Ythloinmnojlleaa
