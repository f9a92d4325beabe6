/- ExtF: the walk of cut (written by gen_ext.py). -/
import Derived.Test.YthloinmnojlleaaExtE
import Derived.OneCell
set_option linter.unusedVariables false
set_option linter.unusedSimpArgs false
namespace Go.Proofs.Ythloinmnojlleaa
open Go.RowKit

theorem rdsp_lit (w : World) (a b : Nat) (t : TypeId) : ∀ j u, (sp [(a, b)])[j]? = some u → (w.alloc (.cells #[.int .i64 (a : Int), .int .i64 (b : Int)] t)).cell? ((⟨w.heap.size, 0, none⟩ : Addr).add j) = some u := fun j u hu => by
  match j, hu with
  | 0, hu => simp [sp] at hu; subst hu; simp [Addr.add]
  | 1, hu => simp [sp] at hu; subst hu; simp [Addr.add]
theorem own_base {w : World} {b b' n size : Nat} {e : TypeId} {v : Value} {xs : List Value} (h : w.ownsRow b e size v n xs) (hb : b' ≤ b) : w.ownsRow b' e size v n xs := by
  refine ⟨h.1, ?_⟩
  rcases h.2 with h | ⟨g, cap, cur, h0, h1, h2⟩
  · exact .inl h
  · exact .inr ⟨g, cap, cur, h0, Nat.le_trans hb h1, h2⟩
theorem cut_end {w w5 : World} {F : Nat → Prop} {g b : Nat} {a : Ar} {v v5 : Value} {L : List (Nat × Nat)} (H : IsAr w F g a v) (B5 : Below w.heap.size w w5) (ho : w5.ownsRow b 30 2 v5 L.length (sp L)) (hb : w.heap.size ≤ b) (hL : Lies a.size 0 L) :
    ∃ F', ArTo w F g { a with holes := L } (w5.setCell ⟨g, 1, none⟩ v5) F' := by
  have hgs := blk_lt H.blk
  have blk5 := (B5.block g hgs).trans H.blk
  have hne := own_ne_blk ho blk5 (by decide)
  refine ⟨fun k => k = g ∨ v5.ownBlock = some k, ⟨v5, ⟨?_, ?_, .inl rfl, fun k hk => .inr hk, ?_, ⟨H.ok.pos, H.ok.most, hL, H.ok.next⟩⟩⟩, ?_, ?_⟩
  · rw [blk_set blk5 1]; rfl
  · exact own_base (ownsRow_setCell_other ho (a := ⟨g, 1, none⟩) hne _) (Nat.zero_le _)
  · rintro k (rfl | hk)
    · have := B5.size; simp; omega
    · have := (ho.lt k hk).2; simpa using this
  · rintro k (rfl | hk)
    · exact .inl H.fg
    · exact .inr (Nat.le_trans hb (ho.lt k hk).1)
  · exact ((Touch.of_below B5 : Touch (fun k => k = g) w w5)).setCell (p := ⟨g, 1, none⟩) (.inl rfl) _
set_option maxHeartbeats 6400000 in
set_option maxRecDepth 100000 in
theorem cut_any (w : World) (F : Nat → Prop) (g : Nat) (a : Ar) (v : Value) (h : IsAr w F g a v) (i : Nat) (hi : i < a.holes.length) (f n : Nat) (h1 : a.holes[i].1 ≤ f) (h2 : 1 ≤ n) (h3 : f + n ≤ a.holes[i].1 + a.holes[i].2) :
    Calls Try.prog 29 #[.pointer (some ⟨g, 0, none⟩), .int .i64 i, .agg #[.int .i64 f, .int .i64 n]] w fun e w' => e = .returned (.tuple #[]) ∧ ∃ F', ArTo w F g { a with holes := cutL a.holes i a.holes[i] f n } w' F' := by
  obtain ⟨i0, hif, hz0, hz1, hz2⟩ := info_parts infoSp
  have H := Lib.hid h
  obtain ⟨_, c1, _⟩ := h.cells
  obtain ⟨g1, cc, rfl, _, hg1, hc⟩ := row_at h.own (by omega)
  have few := h.ok.few
  have hcc : a.holes.length ≤ cc := by obtain ⟨_, _, e, hh, _⟩ := rdsp_own h.own; injection e with _ _ e3; omega
  have hic : i ≤ cc := by omega
  obtain ⟨m, hm⟩ : ∃ m, m = i + 1 := ⟨_, rfl⟩
  have hwi : IntKind.i64.wrap ((i : Int) + 1) = (m : Int) := by rw [IntKind.wrap_i64]; omega
  have hml : m ≤ a.holes.length := by omega
  have HM := Lib.hid hm
  obtain ⟨z1, z2⟩ := hc i hi
  have hin := (lies_get h.ok.lies i hi).2
  have hmost := h.ok.most
  have few := h.ok.few
  have hgs := blk_lt h.blk
  have LC := Lib.hid (lies_cut i hi f n h.ok.lies h1 h2 h3)
  have B3 : ∀ a b c, Hid (Below w.heap.size w (((w.alloc a).alloc b).alloc c)) := fun a b c => (((Below.refl _ w).alloc (Nat.le_refl _) a).alloc (by simp) b).alloc (by simp; omega) c
  clear hc h
  generalize hx : a.holes[i] = x at z1 z2 hin h1 h3 LC ⊢
  clear hx hm
  go_enter Try.func29, Try.ntmps29
  have BX : Hid (Below w.heap.size w ((w.alloc (.cells #[.int .i64 f, .int .i64 n] 30)).alloc (.cells #[.int .i64 x.1, .int .i64 x.2] 30))) := ((Below.refl _ w).alloc (Nat.le_refl _) _).alloc (by simp) _
  obtain ⟨r, hr⟩ : ∃ r, r = f + n := ⟨_, rfl⟩
  obtain ⟨p, hp⟩ : ∃ p, p = x.1 + x.2 - f := ⟨_, rfl⟩
  obtain ⟨q, hq⟩ : ∃ q, q = x.1 + x.2 - f - n := ⟨_, rfl⟩
  have e0 : (f : Int) + n = (r : Int) := by omega
  have e2 : (x.1 : Int) + x.2 - f = (p : Int) := by omega
  have e3 : (p : Int) - n = (q : Int) := by omega
  have HQ := Lib.hid (And.intro hr hq)
  clear hr hp hq
  by_cases q1 : x.1 < f
  · have d1 : decide ((x.1 : Int) < f) = true := by simpa using q1
    have d1' : decide (x.1 < f) = true := by simpa using q1
    have e1 : (f : Int) - x.1 = ((f - x.1 : Nat) : Int) := by omega
    by_cases q2 : f + n < x.1 + x.2
    · have d2 : decide ((r : Int) < (x.1 : Int) + x.2) = true := by have := HQ.out.1; simp; omega
      go_wp2_with (at_builtin; refine wpList_append_own_at _ rfl (.tmp 21) (.tmp 30) 28 rfl w.heap.size 30 i0 _ 2 16 Try.underlying28 hif hz0 hz1 hz2 rfl (by decide) (.slice none 0 0) 0 [] rfl (World.ownsRow_nil _ _ _ _) ⟨w.heap.size + 1 + 1, 0, none⟩ 1 1 (sp [(x.1, f - x.1)]) rfl rfl ?c1 (sp_one _) (by decide) (by decide) (by simp; omega) ?_)
      case c1 =>
        intro j u hu
        have := rdsp_lit ((w.alloc (.cells #[.int .i64 f, .int .i64 n] 30)).alloc (.cells #[.int .i64 x.1, .int .i64 x.2] 30)) x.1 (f - x.1) 30 j u hu
        rw [World.size_alloc, World.size_alloc] at this
        exact this
      intro v1 w1 ho1 hg1 _ hat1
      obtain ⟨A1, cp1, rfl⟩ := own_slice ho1
      have B1 : Hid (Below w.heap.size w w1) := (B3 _ _ _).out.grown hg1 (by simp; omega) (fun k e => by simp [Value.ownBlock] at e)
      have bs := blk_grown hg1 (blk_alloc (blk_alloc (blk_new w (.cells #[.int .i64 f, .int .i64 n] 30)) (.cells #[.int .i64 x.1, .int .i64 x.2] 30)) _) (by simp [Value.ownBlock])
      have bh0 := blk_new (w.alloc (.cells #[.int .i64 f, .int .i64 n] 30)) (.cells #[.int .i64 x.1, .int .i64 x.2] 30)
      rw [World.size_alloc] at bh0
      have bh := blk_grown hg1 (blk_alloc bh0 _) (by simp [Value.ownBlock])
      have O1 : Hid (w1.ownsRow w.heap.size 30 2 (.slice A1 (0 + 1) cp1) [(x.1, f - x.1)].length (sp [(x.1, f - x.1)])) := ho1
      have s0 := blk_cell bs 0; have s1 := blk_cell bs 1; have s2 := blk_cell bh 0; have s3 := blk_cell bh 1
      simp only [List.getElem?_toArray, List.getElem?_cons_zero, List.getElem?_cons_succ] at s0 s1 s2 s3
      clear ho1 hg1 hat1 bs bh bh0
      go_wp2_with (at_builtin; refine wpList_append_own_at _ rfl (.tmp 44) (.tmp 58) 28 rfl w.heap.size 30 i0 _ 2 16 Try.underlying28 hif hz0 hz1 hz2 rfl (by decide) (.slice A1 (0 + 1) cp1) (0 + 1) (sp [(x.1, f - x.1)]) rfl (O1.out.alloc _) ⟨w1.heap.size, 0, none⟩ 1 1 (sp [(r, q)]) rfl rfl ?c1 (sp_one _) (by decide) (by decide) (by have := B1.out.size; simp; omega) ?_)
      case c1 =>
        intro j u hu
        exact rdsp_lit w1 r q 30 j u hu
      intro v2 w2 ho2 hg2 _ hat2
      obtain ⟨A2, cp2, rfl⟩ := own_slice ho2
      have B3x : Hid (Below w.heap.size w w2) := (B1.out.alloc B1.out.size _).grown hg2 (by have := B1.out.size; simp; omega) (fun k e => (O1.out.lt k e).1)
      have O3 : Hid (w2.ownsRow w.heap.size 30 2 (.slice A2 ((0 + 1) + 1) cp2) ([(x.1, f - x.1)] ++ [(r, q)]).length (sp ([(x.1, f - x.1)] ++ [(r, q)]))) := ho2
      clear ho2 hg2 hat2
      have CUT : front x f ++ back x f n = [(x.1, f - x.1)] ++ [(r, q)] := by unfold front back; rw [if_pos q1, if_pos q2, HQ.out.1, HQ.out.2]
      go_wp2_with fail
      have c1' := cell_below B3x.out c1
      have hs3 : w.heap.size ≤ (w2).heap.size := B3x.out.size
      generalize w2 = w3 at B3x O3 c1' hs3 ⊢
      have BB : ∀ o, Hid (Below w.heap.size w (w3.alloc o).drew) := fun o => (B3x.out.alloc hs3 o).drew
      clear z1 z2
      by_cases hcap : cc = m
      · have him : i ≤ m := by have := HM.out; omega
        refine wp_region_plan (fun _ => True) (.op 0 1 (.op 1 1 (.op 2 1 (.op 3 1 (.op 5 1 (.op 7 1 (.op 8 1 (.op 9 1 (.op 10 1 (.op 12 1 (.op 13 1 (.two 4 (.op 6 1 (.op 11 0 (.op 14 1 (.op 15 0 (.op 16 0 (.op 17 1 (.op 18 1 (.op 19 0 .done)))))))) 11 (.op 14 1 (.op 4 0 (.op 6 1 (.op 15 0 (.op 16 0 (.op 17 1 (.op 18 1 (.op 19 0 .done)))))))))))))))))))) (by kernel_rfl) (by kernel_rfl) trivial ?_
        repeat (refine wpP_dry (fun K hK => ?_); simp only [List.getD_cons_zero, List.getD_cons_succ]; go_simp; refine hK _ ?_; clear hK K)
        refine wpP_two ?_ ?_
        all_goals
          simp only [List.getD_cons_zero, List.getD_cons_succ]
          go_wp2_with fail
          refine ⟨trivial, ?_⟩
          repeat (refine wpP_dry (fun K hK => ?_); simp only [List.getD_cons_zero, List.getD_cons_succ]; go_simp; refine hK _ ?_; clear hK K)
          refine wpP_do ?_
          simp only [List.getD_cons_zero, List.getD_cons_succ]
          go_wp2_with fail
          refine ⟨trivial, ?_⟩
          repeat (refine wpP_dry (fun K hK => ?_); simp only [List.getD_cons_zero, List.getD_cons_succ]; go_simp; refine hK _ ?_; clear hK K)
          refine wpP_do ?_
          simp only [List.getD_cons_zero, List.getD_cons_succ]
          go_wp2_with fail
          refine ⟨trivial, ?_⟩
          refine wpP_do ?_
          simp only [List.getD_cons_zero, List.getD_cons_succ]
          go_wp2_with fail
          refine (concat3 _ w3.heap.size 3 _ _ _ (a.holes.take i) ([(x.1, f - x.1)] ++ [(r, q)]) (a.holes.drop m) (blk_cell (blk_new w3 _) 0) (blk_cell (blk_new w3 _) 1) (blk_cell (blk_new w3 _) 2) ((rdsp_take H.out.own i (by omega) _ (by omega)).below (BB _).out) ((rdsp_own O3.out).below (((Below.refl _ w3).alloc (Nat.le_refl _) _).drew)) ((rdsp_drop H.out.own m hml _ (by omega) _ (by have := HM.out; omega)).below (BB _).out) (by rw [List.length_take]; omega) (by simp) (by rw [List.length_drop]; omega)).mono ?_
          rintro e w5 ⟨v5, rfl, ho5, b5⟩
          obtain ⟨A5, c5, rfl⟩ := own_slice ho5
          have B5 : Hid (Below w.heap.size w w5) := (BB _).out.trans (b5.mono (BB _).out.size)
          have END := Lib.hid (cut_end H.out B5.out ho5 (by simp; omega) (by have := LC.out; unfold cutL at this; rw [CUT] at this; rw [HM.out]; exact this))
          generalize (a.holes.take i ++ (([(x.1, f - x.1)] ++ [(r, q)]) ++ a.holes.drop m)).length = N5 at END ⊢
          have blk5 := (B5.out.block g hgs).trans H.out.blk
          have y1 := blk_cell blk5 1; have y1f := blk_free blk5 1
          simp only [List.getElem?_toArray, List.getElem?_cons_zero, List.getElem?_cons_succ] at y1
          clear b5 ho5 blk5
          go_wp2_with fail
          refine ⟨trivial, ?_⟩
          repeat (refine wpP_dry (fun K hK => ?_); simp only [List.getD_cons_zero, List.getD_cons_succ]; go_simp; refine hK _ ?_; clear hK K)
          refine wpP_do ?_
          simp only [List.getD_cons_zero, List.getD_cons_succ]
          go_wp2_with fail
          refine ⟨trivial, ?_⟩
          refine wpP_done ?_
          go_wp2
          refine bodyPost_end (results_none rfl _ _ _) rfl ⟨rfl, ?_⟩
          have z := END.out
          unfold cutL
          rw [CUT, ← HM.out]
          exact z
      · refine wp_region_plan (fun _ => True) (.op 0 1 (.op 1 1 (.op 2 1 (.op 3 1 (.op 5 1 (.op 7 1 (.op 8 1 (.op 9 1 (.op 10 1 (.op 12 1 (.op 13 1 (.two 4 (.op 6 1 (.op 11 0 (.op 14 1 (.op 15 0 (.op 16 0 (.op 17 1 (.op 18 1 (.op 19 0 .done)))))))) 11 (.op 14 1 (.op 4 0 (.op 6 1 (.op 15 0 (.op 16 0 (.op 17 1 (.op 18 1 (.op 19 0 .done)))))))))))))))))))) (by kernel_rfl) (by kernel_rfl) trivial ?_
        repeat (refine wpP_dry (fun K hK => ?_); simp only [List.getD_cons_zero, List.getD_cons_succ]; go_simp; refine hK _ ?_; clear hK K)
        refine wpP_two ?_ ?_
        all_goals
          simp only [List.getD_cons_zero, List.getD_cons_succ]
          go_wp2_with fail
          refine ⟨trivial, ?_⟩
          repeat (refine wpP_dry (fun K hK => ?_); simp only [List.getD_cons_zero, List.getD_cons_succ]; go_simp; refine hK _ ?_; clear hK K)
          refine wpP_do ?_
          simp only [List.getD_cons_zero, List.getD_cons_succ]
          go_wp2_with fail
          refine ⟨trivial, ?_⟩
          repeat (refine wpP_dry (fun K hK => ?_); simp only [List.getD_cons_zero, List.getD_cons_succ]; go_simp; refine hK _ ?_; clear hK K)
          refine wpP_do ?_
          simp only [List.getD_cons_zero, List.getD_cons_succ]
          go_wp2_with fail
          refine ⟨trivial, ?_⟩
          refine wpP_do ?_
          simp only [List.getD_cons_zero, List.getD_cons_succ]
          go_wp2_with fail
          refine (concat3 _ w3.heap.size 3 _ _ _ (a.holes.take i) ([(x.1, f - x.1)] ++ [(r, q)]) (a.holes.drop m) (blk_cell (blk_new w3 _) 0) (blk_cell (blk_new w3 _) 1) (blk_cell (blk_new w3 _) 2) ((rdsp_take H.out.own i (by omega) _ (by omega)).below (BB _).out) ((rdsp_own O3.out).below (((Below.refl _ w3).alloc (Nat.le_refl _) _).drew)) ((rdsp_drop H.out.own m hml _ (by omega) _ (.inl rfl)).below (BB _).out) (by rw [List.length_take]; omega) (by simp) (by rw [List.length_drop]; omega)).mono ?_
          rintro e w5 ⟨v5, rfl, ho5, b5⟩
          obtain ⟨A5, c5, rfl⟩ := own_slice ho5
          have B5 : Hid (Below w.heap.size w w5) := (BB _).out.trans (b5.mono (BB _).out.size)
          have END := Lib.hid (cut_end H.out B5.out ho5 (by simp; omega) (by have := LC.out; unfold cutL at this; rw [CUT] at this; rw [HM.out]; exact this))
          generalize (a.holes.take i ++ (([(x.1, f - x.1)] ++ [(r, q)]) ++ a.holes.drop m)).length = N5 at END ⊢
          have blk5 := (B5.out.block g hgs).trans H.out.blk
          have y1 := blk_cell blk5 1; have y1f := blk_free blk5 1
          simp only [List.getElem?_toArray, List.getElem?_cons_zero, List.getElem?_cons_succ] at y1
          clear b5 ho5 blk5
          go_wp2_with fail
          refine ⟨trivial, ?_⟩
          repeat (refine wpP_dry (fun K hK => ?_); simp only [List.getD_cons_zero, List.getD_cons_succ]; go_simp; refine hK _ ?_; clear hK K)
          refine wpP_do ?_
          simp only [List.getD_cons_zero, List.getD_cons_succ]
          go_wp2_with fail
          refine ⟨trivial, ?_⟩
          refine wpP_done ?_
          go_wp2
          refine bodyPost_end (results_none rfl _ _ _) rfl ⟨rfl, ?_⟩
          have z := END.out
          unfold cutL
          rw [CUT, ← HM.out]
          exact z
    · have d2 : decide ((r : Int) < (x.1 : Int) + x.2) = false := by have := HQ.out.1; simp; omega
      go_wp2_with (at_builtin; refine wpList_append_own_at _ rfl (.tmp 21) (.tmp 30) 28 rfl w.heap.size 30 i0 _ 2 16 Try.underlying28 hif hz0 hz1 hz2 rfl (by decide) (.slice none 0 0) 0 [] rfl (World.ownsRow_nil _ _ _ _) ⟨w.heap.size + 1 + 1, 0, none⟩ 1 1 (sp [(x.1, f - x.1)]) rfl rfl ?c1 (sp_one _) (by decide) (by decide) (by simp; omega) ?_)
      case c1 =>
        intro j u hu
        have := rdsp_lit ((w.alloc (.cells #[.int .i64 f, .int .i64 n] 30)).alloc (.cells #[.int .i64 x.1, .int .i64 x.2] 30)) x.1 (f - x.1) 30 j u hu
        rw [World.size_alloc, World.size_alloc] at this
        exact this
      intro v1 w1 ho1 hg1 _ hat1
      obtain ⟨A1, cp1, rfl⟩ := own_slice ho1
      have B1 : Hid (Below w.heap.size w w1) := (B3 _ _ _).out.grown hg1 (by simp; omega) (fun k e => by simp [Value.ownBlock] at e)
      have bs := blk_grown hg1 (blk_alloc (blk_alloc (blk_new w (.cells #[.int .i64 f, .int .i64 n] 30)) (.cells #[.int .i64 x.1, .int .i64 x.2] 30)) _) (by simp [Value.ownBlock])
      have bh0 := blk_new (w.alloc (.cells #[.int .i64 f, .int .i64 n] 30)) (.cells #[.int .i64 x.1, .int .i64 x.2] 30)
      rw [World.size_alloc] at bh0
      have bh := blk_grown hg1 (blk_alloc bh0 _) (by simp [Value.ownBlock])
      have O1 : Hid (w1.ownsRow w.heap.size 30 2 (.slice A1 (0 + 1) cp1) [(x.1, f - x.1)].length (sp [(x.1, f - x.1)])) := ho1
      have s0 := blk_cell bs 0; have s1 := blk_cell bs 1; have s2 := blk_cell bh 0; have s3 := blk_cell bh 1
      simp only [List.getElem?_toArray, List.getElem?_cons_zero, List.getElem?_cons_succ] at s0 s1 s2 s3
      clear ho1 hg1 hat1 bs bh bh0
      have CUT : front x f ++ back x f n = [(x.1, f - x.1)] := by unfold front back; rw [if_pos q1, if_neg q2]; rfl
      have B3x := B1
      have O3 := O1
      go_wp2_with fail
      have c1' := cell_below B3x.out c1
      have hs3 : w.heap.size ≤ (w1).heap.size := B3x.out.size
      generalize w1 = w3 at B3x O3 c1' hs3 ⊢
      have BB : ∀ o, Hid (Below w.heap.size w (w3.alloc o).drew) := fun o => (B3x.out.alloc hs3 o).drew
      clear z1 z2
      by_cases hcap : cc = m
      · have him : i ≤ m := by have := HM.out; omega
        refine wp_region_plan (fun _ => True) (.op 0 1 (.op 1 1 (.op 2 1 (.op 3 1 (.op 5 1 (.op 7 1 (.op 8 1 (.op 9 1 (.op 10 1 (.op 12 1 (.op 13 1 (.two 4 (.op 6 1 (.op 11 0 (.op 14 1 (.op 15 0 (.op 16 0 (.op 17 1 (.op 18 1 (.op 19 0 .done)))))))) 11 (.op 14 1 (.op 4 0 (.op 6 1 (.op 15 0 (.op 16 0 (.op 17 1 (.op 18 1 (.op 19 0 .done)))))))))))))))))))) (by kernel_rfl) (by kernel_rfl) trivial ?_
        repeat (refine wpP_dry (fun K hK => ?_); simp only [List.getD_cons_zero, List.getD_cons_succ]; go_simp; refine hK _ ?_; clear hK K)
        refine wpP_two ?_ ?_
        all_goals
          simp only [List.getD_cons_zero, List.getD_cons_succ]
          go_wp2_with fail
          refine ⟨trivial, ?_⟩
          repeat (refine wpP_dry (fun K hK => ?_); simp only [List.getD_cons_zero, List.getD_cons_succ]; go_simp; refine hK _ ?_; clear hK K)
          refine wpP_do ?_
          simp only [List.getD_cons_zero, List.getD_cons_succ]
          go_wp2_with fail
          refine ⟨trivial, ?_⟩
          repeat (refine wpP_dry (fun K hK => ?_); simp only [List.getD_cons_zero, List.getD_cons_succ]; go_simp; refine hK _ ?_; clear hK K)
          refine wpP_do ?_
          simp only [List.getD_cons_zero, List.getD_cons_succ]
          go_wp2_with fail
          refine ⟨trivial, ?_⟩
          refine wpP_do ?_
          simp only [List.getD_cons_zero, List.getD_cons_succ]
          go_wp2_with fail
          refine (concat3 _ w3.heap.size 3 _ _ _ (a.holes.take i) ([(x.1, f - x.1)]) (a.holes.drop m) (blk_cell (blk_new w3 _) 0) (blk_cell (blk_new w3 _) 1) (blk_cell (blk_new w3 _) 2) ((rdsp_take H.out.own i (by omega) _ (by omega)).below (BB _).out) ((rdsp_own O3.out).below (((Below.refl _ w3).alloc (Nat.le_refl _) _).drew)) ((rdsp_drop H.out.own m hml _ (by omega) _ (by have := HM.out; omega)).below (BB _).out) (by rw [List.length_take]; omega) (by simp) (by rw [List.length_drop]; omega)).mono ?_
          rintro e w5 ⟨v5, rfl, ho5, b5⟩
          obtain ⟨A5, c5, rfl⟩ := own_slice ho5
          have B5 : Hid (Below w.heap.size w w5) := (BB _).out.trans (b5.mono (BB _).out.size)
          have END := Lib.hid (cut_end H.out B5.out ho5 (by simp; omega) (by have := LC.out; unfold cutL at this; rw [CUT] at this; rw [HM.out]; exact this))
          generalize (a.holes.take i ++ (([(x.1, f - x.1)]) ++ a.holes.drop m)).length = N5 at END ⊢
          have blk5 := (B5.out.block g hgs).trans H.out.blk
          have y1 := blk_cell blk5 1; have y1f := blk_free blk5 1
          simp only [List.getElem?_toArray, List.getElem?_cons_zero, List.getElem?_cons_succ] at y1
          clear b5 ho5 blk5
          go_wp2_with fail
          refine ⟨trivial, ?_⟩
          repeat (refine wpP_dry (fun K hK => ?_); simp only [List.getD_cons_zero, List.getD_cons_succ]; go_simp; refine hK _ ?_; clear hK K)
          refine wpP_do ?_
          simp only [List.getD_cons_zero, List.getD_cons_succ]
          go_wp2_with fail
          refine ⟨trivial, ?_⟩
          refine wpP_done ?_
          go_wp2
          refine bodyPost_end (results_none rfl _ _ _) rfl ⟨rfl, ?_⟩
          have z := END.out
          unfold cutL
          rw [CUT, ← HM.out]
          exact z
      · refine wp_region_plan (fun _ => True) (.op 0 1 (.op 1 1 (.op 2 1 (.op 3 1 (.op 5 1 (.op 7 1 (.op 8 1 (.op 9 1 (.op 10 1 (.op 12 1 (.op 13 1 (.two 4 (.op 6 1 (.op 11 0 (.op 14 1 (.op 15 0 (.op 16 0 (.op 17 1 (.op 18 1 (.op 19 0 .done)))))))) 11 (.op 14 1 (.op 4 0 (.op 6 1 (.op 15 0 (.op 16 0 (.op 17 1 (.op 18 1 (.op 19 0 .done)))))))))))))))))))) (by kernel_rfl) (by kernel_rfl) trivial ?_
        repeat (refine wpP_dry (fun K hK => ?_); simp only [List.getD_cons_zero, List.getD_cons_succ]; go_simp; refine hK _ ?_; clear hK K)
        refine wpP_two ?_ ?_
        all_goals
          simp only [List.getD_cons_zero, List.getD_cons_succ]
          go_wp2_with fail
          refine ⟨trivial, ?_⟩
          repeat (refine wpP_dry (fun K hK => ?_); simp only [List.getD_cons_zero, List.getD_cons_succ]; go_simp; refine hK _ ?_; clear hK K)
          refine wpP_do ?_
          simp only [List.getD_cons_zero, List.getD_cons_succ]
          go_wp2_with fail
          refine ⟨trivial, ?_⟩
          repeat (refine wpP_dry (fun K hK => ?_); simp only [List.getD_cons_zero, List.getD_cons_succ]; go_simp; refine hK _ ?_; clear hK K)
          refine wpP_do ?_
          simp only [List.getD_cons_zero, List.getD_cons_succ]
          go_wp2_with fail
          refine ⟨trivial, ?_⟩
          refine wpP_do ?_
          simp only [List.getD_cons_zero, List.getD_cons_succ]
          go_wp2_with fail
          refine (concat3 _ w3.heap.size 3 _ _ _ (a.holes.take i) ([(x.1, f - x.1)]) (a.holes.drop m) (blk_cell (blk_new w3 _) 0) (blk_cell (blk_new w3 _) 1) (blk_cell (blk_new w3 _) 2) ((rdsp_take H.out.own i (by omega) _ (by omega)).below (BB _).out) ((rdsp_own O3.out).below (((Below.refl _ w3).alloc (Nat.le_refl _) _).drew)) ((rdsp_drop H.out.own m hml _ (by omega) _ (.inl rfl)).below (BB _).out) (by rw [List.length_take]; omega) (by simp) (by rw [List.length_drop]; omega)).mono ?_
          rintro e w5 ⟨v5, rfl, ho5, b5⟩
          obtain ⟨A5, c5, rfl⟩ := own_slice ho5
          have B5 : Hid (Below w.heap.size w w5) := (BB _).out.trans (b5.mono (BB _).out.size)
          have END := Lib.hid (cut_end H.out B5.out ho5 (by simp; omega) (by have := LC.out; unfold cutL at this; rw [CUT] at this; rw [HM.out]; exact this))
          generalize (a.holes.take i ++ (([(x.1, f - x.1)]) ++ a.holes.drop m)).length = N5 at END ⊢
          have blk5 := (B5.out.block g hgs).trans H.out.blk
          have y1 := blk_cell blk5 1; have y1f := blk_free blk5 1
          simp only [List.getElem?_toArray, List.getElem?_cons_zero, List.getElem?_cons_succ] at y1
          clear b5 ho5 blk5
          go_wp2_with fail
          refine ⟨trivial, ?_⟩
          repeat (refine wpP_dry (fun K hK => ?_); simp only [List.getD_cons_zero, List.getD_cons_succ]; go_simp; refine hK _ ?_; clear hK K)
          refine wpP_do ?_
          simp only [List.getD_cons_zero, List.getD_cons_succ]
          go_wp2_with fail
          refine ⟨trivial, ?_⟩
          refine wpP_done ?_
          go_wp2
          refine bodyPost_end (results_none rfl _ _ _) rfl ⟨rfl, ?_⟩
          have z := END.out
          unfold cutL
          rw [CUT, ← HM.out]
          exact z
  · have d1 : decide ((x.1 : Int) < f) = false := by simpa using q1
    have d1' : decide (x.1 < f) = false := by simpa using q1
    by_cases q2 : f + n < x.1 + x.2
    · have d2 : decide ((r : Int) < (x.1 : Int) + x.2) = true := by have := HQ.out.1; simp; omega
      go_wp2_with (at_builtin; refine wpList_append_own_at _ rfl (.tmp 44) (.tmp 58) 28 rfl w.heap.size 30 i0 _ 2 16 Try.underlying28 hif hz0 hz1 hz2 rfl (by decide) (.slice none 0 0) 0 [] rfl (World.ownsRow_nil _ _ _ _) ⟨w.heap.size + 1 + 1, 0, none⟩ 1 1 (sp [(r, q)]) rfl rfl ?c1 (sp_one _) (by decide) (by decide) (by have := BX.out.size; simp; omega) ?_)
      case c1 =>
        intro j u hu
        have := rdsp_lit ((w.alloc (.cells #[.int .i64 f, .int .i64 n] 30)).alloc (.cells #[.int .i64 x.1, .int .i64 x.2] 30)) r q 30 j u hu
        rw [World.size_alloc, World.size_alloc] at this
        exact this
      intro v2 w2 ho2 hg2 _ hat2
      obtain ⟨A2, cp2, rfl⟩ := own_slice ho2
      have B3x : Hid (Below w.heap.size w w2) := (BX.out.alloc BX.out.size _).grown hg2 (by have := BX.out.size; simp; omega) (fun k e => by simp [Value.ownBlock] at e)
      have O3 : Hid (w2.ownsRow w.heap.size 30 2 (.slice A2 (0 + 1) cp2) (([] : List (Nat × Nat)) ++ [(r, q)]).length (sp (([] : List (Nat × Nat)) ++ [(r, q)]))) := ho2
      clear ho2 hg2 hat2
      have CUT : front x f ++ back x f n = [] ++ [(r, q)] := by unfold front back; rw [if_neg q1, if_pos q2, HQ.out.1, HQ.out.2]
      go_wp2_with fail
      have c1' := cell_below B3x.out c1
      have hs3 : w.heap.size ≤ (w2).heap.size := B3x.out.size
      generalize w2 = w3 at B3x O3 c1' hs3 ⊢
      have BB : ∀ o, Hid (Below w.heap.size w (w3.alloc o).drew) := fun o => (B3x.out.alloc hs3 o).drew
      clear z1 z2
      by_cases hcap : cc = m
      · have him : i ≤ m := by have := HM.out; omega
        refine wp_region_plan (fun _ => True) (.op 0 1 (.op 1 1 (.op 2 1 (.op 3 1 (.op 5 1 (.op 7 1 (.op 8 1 (.op 9 1 (.op 10 1 (.op 12 1 (.op 13 1 (.two 4 (.op 6 1 (.op 11 0 (.op 14 1 (.op 15 0 (.op 16 0 (.op 17 1 (.op 18 1 (.op 19 0 .done)))))))) 11 (.op 14 1 (.op 4 0 (.op 6 1 (.op 15 0 (.op 16 0 (.op 17 1 (.op 18 1 (.op 19 0 .done)))))))))))))))))))) (by kernel_rfl) (by kernel_rfl) trivial ?_
        repeat (refine wpP_dry (fun K hK => ?_); simp only [List.getD_cons_zero, List.getD_cons_succ]; go_simp; refine hK _ ?_; clear hK K)
        refine wpP_two ?_ ?_
        all_goals
          simp only [List.getD_cons_zero, List.getD_cons_succ]
          go_wp2_with fail
          refine ⟨trivial, ?_⟩
          repeat (refine wpP_dry (fun K hK => ?_); simp only [List.getD_cons_zero, List.getD_cons_succ]; go_simp; refine hK _ ?_; clear hK K)
          refine wpP_do ?_
          simp only [List.getD_cons_zero, List.getD_cons_succ]
          go_wp2_with fail
          refine ⟨trivial, ?_⟩
          repeat (refine wpP_dry (fun K hK => ?_); simp only [List.getD_cons_zero, List.getD_cons_succ]; go_simp; refine hK _ ?_; clear hK K)
          refine wpP_do ?_
          simp only [List.getD_cons_zero, List.getD_cons_succ]
          go_wp2_with fail
          refine ⟨trivial, ?_⟩
          refine wpP_do ?_
          simp only [List.getD_cons_zero, List.getD_cons_succ]
          go_wp2_with fail
          refine (concat3 _ w3.heap.size 3 _ _ _ (a.holes.take i) ([] ++ [(r, q)]) (a.holes.drop m) (blk_cell (blk_new w3 _) 0) (blk_cell (blk_new w3 _) 1) (blk_cell (blk_new w3 _) 2) ((rdsp_take H.out.own i (by omega) _ (by omega)).below (BB _).out) ((rdsp_own O3.out).below (((Below.refl _ w3).alloc (Nat.le_refl _) _).drew)) ((rdsp_drop H.out.own m hml _ (by omega) _ (by have := HM.out; omega)).below (BB _).out) (by rw [List.length_take]; omega) (by simp) (by rw [List.length_drop]; omega)).mono ?_
          rintro e w5 ⟨v5, rfl, ho5, b5⟩
          obtain ⟨A5, c5, rfl⟩ := own_slice ho5
          have B5 : Hid (Below w.heap.size w w5) := (BB _).out.trans (b5.mono (BB _).out.size)
          have END := Lib.hid (cut_end H.out B5.out ho5 (by simp; omega) (by have := LC.out; unfold cutL at this; rw [CUT] at this; rw [HM.out]; exact this))
          generalize (a.holes.take i ++ (([] ++ [(r, q)]) ++ a.holes.drop m)).length = N5 at END ⊢
          have blk5 := (B5.out.block g hgs).trans H.out.blk
          have y1 := blk_cell blk5 1; have y1f := blk_free blk5 1
          simp only [List.getElem?_toArray, List.getElem?_cons_zero, List.getElem?_cons_succ] at y1
          clear b5 ho5 blk5
          go_wp2_with fail
          refine ⟨trivial, ?_⟩
          repeat (refine wpP_dry (fun K hK => ?_); simp only [List.getD_cons_zero, List.getD_cons_succ]; go_simp; refine hK _ ?_; clear hK K)
          refine wpP_do ?_
          simp only [List.getD_cons_zero, List.getD_cons_succ]
          go_wp2_with fail
          refine ⟨trivial, ?_⟩
          refine wpP_done ?_
          go_wp2
          refine bodyPost_end (results_none rfl _ _ _) rfl ⟨rfl, ?_⟩
          have z := END.out
          unfold cutL
          rw [CUT, ← HM.out]
          exact z
      · refine wp_region_plan (fun _ => True) (.op 0 1 (.op 1 1 (.op 2 1 (.op 3 1 (.op 5 1 (.op 7 1 (.op 8 1 (.op 9 1 (.op 10 1 (.op 12 1 (.op 13 1 (.two 4 (.op 6 1 (.op 11 0 (.op 14 1 (.op 15 0 (.op 16 0 (.op 17 1 (.op 18 1 (.op 19 0 .done)))))))) 11 (.op 14 1 (.op 4 0 (.op 6 1 (.op 15 0 (.op 16 0 (.op 17 1 (.op 18 1 (.op 19 0 .done)))))))))))))))))))) (by kernel_rfl) (by kernel_rfl) trivial ?_
        repeat (refine wpP_dry (fun K hK => ?_); simp only [List.getD_cons_zero, List.getD_cons_succ]; go_simp; refine hK _ ?_; clear hK K)
        refine wpP_two ?_ ?_
        all_goals
          simp only [List.getD_cons_zero, List.getD_cons_succ]
          go_wp2_with fail
          refine ⟨trivial, ?_⟩
          repeat (refine wpP_dry (fun K hK => ?_); simp only [List.getD_cons_zero, List.getD_cons_succ]; go_simp; refine hK _ ?_; clear hK K)
          refine wpP_do ?_
          simp only [List.getD_cons_zero, List.getD_cons_succ]
          go_wp2_with fail
          refine ⟨trivial, ?_⟩
          repeat (refine wpP_dry (fun K hK => ?_); simp only [List.getD_cons_zero, List.getD_cons_succ]; go_simp; refine hK _ ?_; clear hK K)
          refine wpP_do ?_
          simp only [List.getD_cons_zero, List.getD_cons_succ]
          go_wp2_with fail
          refine ⟨trivial, ?_⟩
          refine wpP_do ?_
          simp only [List.getD_cons_zero, List.getD_cons_succ]
          go_wp2_with fail
          refine (concat3 _ w3.heap.size 3 _ _ _ (a.holes.take i) ([] ++ [(r, q)]) (a.holes.drop m) (blk_cell (blk_new w3 _) 0) (blk_cell (blk_new w3 _) 1) (blk_cell (blk_new w3 _) 2) ((rdsp_take H.out.own i (by omega) _ (by omega)).below (BB _).out) ((rdsp_own O3.out).below (((Below.refl _ w3).alloc (Nat.le_refl _) _).drew)) ((rdsp_drop H.out.own m hml _ (by omega) _ (.inl rfl)).below (BB _).out) (by rw [List.length_take]; omega) (by simp) (by rw [List.length_drop]; omega)).mono ?_
          rintro e w5 ⟨v5, rfl, ho5, b5⟩
          obtain ⟨A5, c5, rfl⟩ := own_slice ho5
          have B5 : Hid (Below w.heap.size w w5) := (BB _).out.trans (b5.mono (BB _).out.size)
          have END := Lib.hid (cut_end H.out B5.out ho5 (by simp; omega) (by have := LC.out; unfold cutL at this; rw [CUT] at this; rw [HM.out]; exact this))
          generalize (a.holes.take i ++ (([] ++ [(r, q)]) ++ a.holes.drop m)).length = N5 at END ⊢
          have blk5 := (B5.out.block g hgs).trans H.out.blk
          have y1 := blk_cell blk5 1; have y1f := blk_free blk5 1
          simp only [List.getElem?_toArray, List.getElem?_cons_zero, List.getElem?_cons_succ] at y1
          clear b5 ho5 blk5
          go_wp2_with fail
          refine ⟨trivial, ?_⟩
          repeat (refine wpP_dry (fun K hK => ?_); simp only [List.getD_cons_zero, List.getD_cons_succ]; go_simp; refine hK _ ?_; clear hK K)
          refine wpP_do ?_
          simp only [List.getD_cons_zero, List.getD_cons_succ]
          go_wp2_with fail
          refine ⟨trivial, ?_⟩
          refine wpP_done ?_
          go_wp2
          refine bodyPost_end (results_none rfl _ _ _) rfl ⟨rfl, ?_⟩
          have z := END.out
          unfold cutL
          rw [CUT, ← HM.out]
          exact z
    · have d2 : decide ((r : Int) < (x.1 : Int) + x.2) = false := by have := HQ.out.1; simp; omega
      have CUT : front x f ++ back x f n = [] := by unfold front back; rw [if_neg q1, if_neg q2]; rfl
      have B3x : Hid (Below w.heap.size w ((w.alloc (.cells #[.int .i64 f, .int .i64 n] 30)).alloc (.cells #[.int .i64 x.1, .int .i64 x.2] 30))) := BX
      have O3 : Hid (((w.alloc (.cells #[.int .i64 f, .int .i64 n] 30)).alloc (.cells #[.int .i64 x.1, .int .i64 x.2] 30)).ownsRow w.heap.size 30 2 (.slice none 0 0) ([] : List (Nat × Nat)).length (sp [])) := World.ownsRow_nil _ _ _ _
      go_wp2_with fail
      have c1' := cell_below B3x.out c1
      have hs3 : w.heap.size ≤ (((w.alloc (.cells #[.int .i64 f, .int .i64 n] 30)).alloc (.cells #[.int .i64 x.1, .int .i64 x.2] 30))).heap.size := B3x.out.size
      generalize ((w.alloc (.cells #[.int .i64 f, .int .i64 n] 30)).alloc (.cells #[.int .i64 x.1, .int .i64 x.2] 30)) = w3 at B3x O3 c1' hs3 ⊢
      have BB : ∀ o, Hid (Below w.heap.size w (w3.alloc o).drew) := fun o => (B3x.out.alloc hs3 o).drew
      clear z1 z2
      by_cases hcap : cc = m
      · have him : i ≤ m := by have := HM.out; omega
        refine wp_region_plan (fun _ => True) (.op 0 1 (.op 1 1 (.op 2 1 (.op 3 1 (.op 5 1 (.op 7 1 (.op 8 1 (.op 9 1 (.op 10 1 (.op 12 1 (.op 13 1 (.two 4 (.op 6 1 (.op 11 0 (.op 14 1 (.op 15 0 (.op 16 0 (.op 17 1 (.op 18 1 (.op 19 0 .done)))))))) 11 (.op 14 1 (.op 4 0 (.op 6 1 (.op 15 0 (.op 16 0 (.op 17 1 (.op 18 1 (.op 19 0 .done)))))))))))))))))))) (by kernel_rfl) (by kernel_rfl) trivial ?_
        repeat (refine wpP_dry (fun K hK => ?_); simp only [List.getD_cons_zero, List.getD_cons_succ]; go_simp; refine hK _ ?_; clear hK K)
        refine wpP_two ?_ ?_
        all_goals
          simp only [List.getD_cons_zero, List.getD_cons_succ]
          go_wp2_with fail
          refine ⟨trivial, ?_⟩
          repeat (refine wpP_dry (fun K hK => ?_); simp only [List.getD_cons_zero, List.getD_cons_succ]; go_simp; refine hK _ ?_; clear hK K)
          refine wpP_do ?_
          simp only [List.getD_cons_zero, List.getD_cons_succ]
          go_wp2_with fail
          refine ⟨trivial, ?_⟩
          repeat (refine wpP_dry (fun K hK => ?_); simp only [List.getD_cons_zero, List.getD_cons_succ]; go_simp; refine hK _ ?_; clear hK K)
          refine wpP_do ?_
          simp only [List.getD_cons_zero, List.getD_cons_succ]
          go_wp2_with fail
          refine ⟨trivial, ?_⟩
          refine wpP_do ?_
          simp only [List.getD_cons_zero, List.getD_cons_succ]
          go_wp2_with fail
          refine (concat3 _ w3.heap.size 3 _ _ _ (a.holes.take i) ([]) (a.holes.drop m) (blk_cell (blk_new w3 _) 0) (blk_cell (blk_new w3 _) 1) (blk_cell (blk_new w3 _) 2) ((rdsp_take H.out.own i (by omega) _ (by omega)).below (BB _).out) ((rdsp_own O3.out).below (((Below.refl _ w3).alloc (Nat.le_refl _) _).drew)) ((rdsp_drop H.out.own m hml _ (by omega) _ (by have := HM.out; omega)).below (BB _).out) (by rw [List.length_take]; omega) (by simp) (by rw [List.length_drop]; omega)).mono ?_
          rintro e w5 ⟨v5, rfl, ho5, b5⟩
          obtain ⟨A5, c5, rfl⟩ := own_slice ho5
          have B5 : Hid (Below w.heap.size w w5) := (BB _).out.trans (b5.mono (BB _).out.size)
          have END := Lib.hid (cut_end H.out B5.out ho5 (by simp; omega) (by have := LC.out; unfold cutL at this; rw [CUT] at this; rw [HM.out]; exact this))
          generalize (a.holes.take i ++ (([]) ++ a.holes.drop m)).length = N5 at END ⊢
          have blk5 := (B5.out.block g hgs).trans H.out.blk
          have y1 := blk_cell blk5 1; have y1f := blk_free blk5 1
          simp only [List.getElem?_toArray, List.getElem?_cons_zero, List.getElem?_cons_succ] at y1
          clear b5 ho5 blk5
          go_wp2_with fail
          refine ⟨trivial, ?_⟩
          repeat (refine wpP_dry (fun K hK => ?_); simp only [List.getD_cons_zero, List.getD_cons_succ]; go_simp; refine hK _ ?_; clear hK K)
          refine wpP_do ?_
          simp only [List.getD_cons_zero, List.getD_cons_succ]
          go_wp2_with fail
          refine ⟨trivial, ?_⟩
          refine wpP_done ?_
          go_wp2
          refine bodyPost_end (results_none rfl _ _ _) rfl ⟨rfl, ?_⟩
          have z := END.out
          unfold cutL
          rw [CUT, ← HM.out]
          exact z
      · refine wp_region_plan (fun _ => True) (.op 0 1 (.op 1 1 (.op 2 1 (.op 3 1 (.op 5 1 (.op 7 1 (.op 8 1 (.op 9 1 (.op 10 1 (.op 12 1 (.op 13 1 (.two 4 (.op 6 1 (.op 11 0 (.op 14 1 (.op 15 0 (.op 16 0 (.op 17 1 (.op 18 1 (.op 19 0 .done)))))))) 11 (.op 14 1 (.op 4 0 (.op 6 1 (.op 15 0 (.op 16 0 (.op 17 1 (.op 18 1 (.op 19 0 .done)))))))))))))))))))) (by kernel_rfl) (by kernel_rfl) trivial ?_
        repeat (refine wpP_dry (fun K hK => ?_); simp only [List.getD_cons_zero, List.getD_cons_succ]; go_simp; refine hK _ ?_; clear hK K)
        refine wpP_two ?_ ?_
        all_goals
          simp only [List.getD_cons_zero, List.getD_cons_succ]
          go_wp2_with fail
          refine ⟨trivial, ?_⟩
          repeat (refine wpP_dry (fun K hK => ?_); simp only [List.getD_cons_zero, List.getD_cons_succ]; go_simp; refine hK _ ?_; clear hK K)
          refine wpP_do ?_
          simp only [List.getD_cons_zero, List.getD_cons_succ]
          go_wp2_with fail
          refine ⟨trivial, ?_⟩
          repeat (refine wpP_dry (fun K hK => ?_); simp only [List.getD_cons_zero, List.getD_cons_succ]; go_simp; refine hK _ ?_; clear hK K)
          refine wpP_do ?_
          simp only [List.getD_cons_zero, List.getD_cons_succ]
          go_wp2_with fail
          refine ⟨trivial, ?_⟩
          refine wpP_do ?_
          simp only [List.getD_cons_zero, List.getD_cons_succ]
          go_wp2_with fail
          refine (concat3 _ w3.heap.size 3 _ _ _ (a.holes.take i) ([]) (a.holes.drop m) (blk_cell (blk_new w3 _) 0) (blk_cell (blk_new w3 _) 1) (blk_cell (blk_new w3 _) 2) ((rdsp_take H.out.own i (by omega) _ (by omega)).below (BB _).out) ((rdsp_own O3.out).below (((Below.refl _ w3).alloc (Nat.le_refl _) _).drew)) ((rdsp_drop H.out.own m hml _ (by omega) _ (.inl rfl)).below (BB _).out) (by rw [List.length_take]; omega) (by simp) (by rw [List.length_drop]; omega)).mono ?_
          rintro e w5 ⟨v5, rfl, ho5, b5⟩
          obtain ⟨A5, c5, rfl⟩ := own_slice ho5
          have B5 : Hid (Below w.heap.size w w5) := (BB _).out.trans (b5.mono (BB _).out.size)
          have END := Lib.hid (cut_end H.out B5.out ho5 (by simp; omega) (by have := LC.out; unfold cutL at this; rw [CUT] at this; rw [HM.out]; exact this))
          generalize (a.holes.take i ++ (([]) ++ a.holes.drop m)).length = N5 at END ⊢
          have blk5 := (B5.out.block g hgs).trans H.out.blk
          have y1 := blk_cell blk5 1; have y1f := blk_free blk5 1
          simp only [List.getElem?_toArray, List.getElem?_cons_zero, List.getElem?_cons_succ] at y1
          clear b5 ho5 blk5
          go_wp2_with fail
          refine ⟨trivial, ?_⟩
          repeat (refine wpP_dry (fun K hK => ?_); simp only [List.getD_cons_zero, List.getD_cons_succ]; go_simp; refine hK _ ?_; clear hK K)
          refine wpP_do ?_
          simp only [List.getD_cons_zero, List.getD_cons_succ]
          go_wp2_with fail
          refine ⟨trivial, ?_⟩
          refine wpP_done ?_
          go_wp2
          refine bodyPost_end (results_none rfl _ _ _) rfl ⟨rfl, ?_⟩
          have z := END.out
          unfold cutL
          rw [CUT, ← HM.out]
          exact z
end Go.Proofs.Ythloinmnojlleaa
