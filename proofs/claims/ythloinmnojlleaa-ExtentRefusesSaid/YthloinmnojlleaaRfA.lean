/- RfA: the walk of ExtentRefuses (written by gen_ref.py). -/
import Derived.Test.YthloinmnojlleaaRfP
import Derived.Test.YthloinmnojlleaaExtN
set_option linter.unusedVariables false
set_option linter.unusedSimpArgs false
namespace Go.Proofs.Ythloinmnojlleaa
open Go.RowKit

/-- A row of bools. -/
def rb (s : Value) (l : List Bool) : Part := ⟨fun k => s.ownBlock = some k, fun w => OwnL w 0 s l⟩
theorem rb_good {w : World} {s : Value} {l : List Bool} (h : OwnL w 0 s l) : (rb s l).Good w := ⟨h, fun k hk => (World.ownsRow.lt h k hk).2, fun w w' S h ht hS => own_touch h ht hS⟩
theorem Mine.rb {w0 w : World} {l1 l2 : List Part} {s : Value} {l : List Bool} (h : Mine w0 w (l1 ++ Go.Proofs.Ythloinmnojlleaa.rb s l :: l2)) : OwnL w 0 s l := (Sep.get (p := Go.Proofs.Ythloinmnojlleaa.rb s l) h.sep).P
theorem Mine.newRb {w0 w w' : World} {ps : List Part} {s : Value} {l : List Bool} (h : Mine w0 w ps) (hb : Below w.heap.size w w') (ho : OwnL w' w.heap.size s l) : Mine w0 w' (Go.Proofs.Ythloinmnojlleaa.rb s l :: ps) :=
  h.new hb (fun k hk => (World.ownsRow.lt ho k hk).1) (rb_good (ho.base (Nat.zero_le _)))
theorem Mine.perm {w0 w : World} {ps qs : List Part} (h : Mine w0 w ps) (hp : ps.Perm qs) : Mine w0 w qs :=
  ⟨⟨fun p hq => h.sep.1 p (hp.mem_iff.2 hq), hp.pairwise h.sep.2 (fun h k a b => h k b a)⟩, h.bel, fun p hq => h.abv p (hp.mem_iff.2 hq)⟩
theorem Mine.setBk {w0 w : World} {l1 l2 : List Part} {g : Nat} {cs : Array Value} {t : TypeId} (h : Mine w0 w (l1 ++ Go.Proofs.Ythloinmnojlleaa.bk g cs t :: l2)) (i : Nat) (u : Value) : Mine w0 (w.setCell ⟨g, i, none⟩ u) (l1 ++ Go.Proofs.Ythloinmnojlleaa.bk g (cs.setIfInBounds i u) t :: l2) :=
  h.step (p := Go.Proofs.Ythloinmnojlleaa.bk g cs t) (p' := Go.Proofs.Ythloinmnojlleaa.bk g (cs.setIfInBounds i u) t) (Touch.setCell (S := fun k => k = g) (Touch.refl _ w) (p := ⟨g, i, none⟩) (.inl rfl) u) (fun k hk => .inl hk) (bk_good (blk_set h.bk i u))
theorem Mine.setBk2 {w0 w : World} {l1 l2 : List Part} {g : Nat} {a b a' b' : Value} {t : TypeId} (h : Mine w0 w (l1 ++ Go.Proofs.Ythloinmnojlleaa.bk g #[a, b] t :: l2)) : Mine w0 ((w.setCell ⟨g, 0, none⟩ a').setCell ⟨g, 1, none⟩ b') (l1 ++ Go.Proofs.Ythloinmnojlleaa.bk g #[a', b'] t :: l2) := (h.setBk 0 a').setBk 1 b'
/-- Both areas, as long as spans are taken. -/
structure RSt (w0 w : World) (n g : Nat) (s : Value) (bx : Nat) : Prop where
  ex : ∃ (F : Nat → Prop) (a : Ar) (bits : List Bool), Like a bits 0 ∧ a.size = n ∧ Mine w0 w [ar F g a, rb s bits, bk bx #[s, .int .i64 0] 46]
def chB (bits : List Bool) (f z : Int) : List Bool := if chgE bits f z false = 0 then setK false bits f.toNat z.toNat else bits
theorem chB_length (bits : List Bool) (f z : Int) : (chB bits f z).length = bits.length := by unfold chB; split; exact setK_length ..; rfl
theorem chg_mine {w0 w w' : World} {F : Nat → Prop} {g : Nat} {a : Ar} {s : Value} {bits : List Bool} {f z : Int} {e : Ending} {ps : List Part} (h : Mine w0 w (ar F g a :: rb s bits :: ps)) (ht : ChgTo w s bits 0 f z false e w') :
    ∃ s4, e = .returned (.tuple #[.agg #[s4, .int .i64 0], .int .i64 (chgE bits f z false)]) ∧ Mine w0 w' (ar F g a :: rb s4 (chB bits f z) :: ps) ∧ Below w.heap.size w w' := by
  obtain ⟨ht, hb⟩ := ht
  unfold chB
  by_cases hE : chgE bits f z false = 0
  · rw [if_pos hE] at ht ⊢
    obtain ⟨s4, rfl, ho⟩ := ht
    have M := ((h.newRb hb ho).drop (l1 := [_, _])).perm (List.Perm.swap _ _ _)
    exact ⟨s4, by rw [hE], M, hb⟩
  · rw [if_neg hE] at ht ⊢
    exact ⟨s, ht, h.below hb, hb⟩
theorem take_mine {w0 w w' : World} {F : Nat → Prop} {g : Nat} {a : Ar} {s : Value} {bits : List Bool} {f z : Int} {e : Ending} {ps : List Part} (h : Mine w0 w (ar F g a :: rb s (chB bits f z) :: ps)) (LK : Like a bits 0) (ht : TakeTo w F g a f z e w') :
    e = .returned (.int .i64 (chgE bits f z false)) ∧ ∃ F' a' bits', Like a' bits' 0 ∧ a'.size = a.size ∧ Mine w0 w' (ar F' g a' :: rb s bits' :: ps) := by
  obtain ⟨rfl, ht⟩ := ht
  have hl := take_like LK f z
  refine ⟨by rw [hl], ?_⟩
  unfold chB at h
  by_cases hE : chgE bits f z false = 0
  · rw [hl, if_pos hE] at ht
    obtain ⟨F', ht⟩ := ht
    rw [if_pos hE] at h
    exact ⟨F', _, _, (like_take LK (hl.trans hE)).1, rfl, h.arTo (l1 := []) ht⟩
  · rw [hl, if_neg hE] at ht
    rw [if_neg hE] at h
    exact ⟨F, a, bits, LK, rfl, h.below ht⟩
def wyI (n : Nat) (l : List (Int × Int)) (k : Nat) : Int := if inK n l k = true then 0 else 9
theorem wyI_zero (n : Nat) (l : List (Int × Int)) : wyI n l 0 = 0 := by unfold wyI; rw [inK_zero, if_pos rfl]
theorem wyI_yes {n : Nat} {l : List (Int × Int)} {k : Nat} (h : k < l.length) (hw : rwithin n l[k].1 l[k].2 = true) : wyI n l (k + 1) = wyI n l k := by unfold wyI; rw [inK_succ h, hw, Bool.and_true]
theorem wyI_no {n : Nat} {l : List (Int × Int)} {k : Nat} (h : k < l.length) (hw : rwithin n l[k].1 l[k].2 = false) : wyI n l (k + 1) = 9 := by unfold wyI; rw [inK_succ h, hw, Bool.and_false, if_neg (by decide)]
def bI (b : Bool) : Int := if b = true then 8 else 0
theorem bI_ne (b : Bool) : (bI b != 9) = true := by cases b <;> decide
theorem plan_empty (w : World) (F : Nat → Prop) (g : Nat) (a : Ar) (v : Value) (h : IsAr w F g a v) :
    Calls Try.prog 26 #[.pointer (some ⟨g, 0, none⟩), .slice none 0 0] w fun e w' => ∃ A c, e = .returned (.tuple #[.slice A 0 c, .int .i64 0]) ∧ Below w.heap.size w w' := by
  have hp := plan_yes w F g a v h none 0 0 0 [] (by decide) (fun h => absurd h (by decide)) (fun j h => absurd h (by simp)) (fun x hx => by simp at hx)
  refine hp.mono ?_
  rintro e w' ⟨⟨M, pm, _, h2⟩, hb⟩
  obtain rfl : M = [] := List.Perm.eq_nil pm
  rcases h2 with ⟨_, v', rfl, ho⟩ | ⟨⟨i, hi, _⟩, _⟩
  · obtain ⟨A, c, rfl⟩ := own_slice ho
    exact ⟨A, c, rfl, hb⟩
  · simp at hi

set_option maxHeartbeats 12800000 in
set_option maxRecDepth 100000 in
theorem refuses_go (w : World) (n : Nat) (tv lv : Value) (tk l : List (Int × Int)) (h1 : 1 ≤ n) (h2 : n ≤ 300) (ht : RdS w tv tk) (hl : RdS w lv l) (h40 : l.length ≤ 40) :
    Calls Try.prog 6 #[.int .i64 n, tv, lv] w fun e w' => e = .returned (.bool true) ∧ Below w.heap.size w w' := by
  obtain ⟨TA, tc, rfl, htc, htm, htops, _⟩ := ht
  obtain ⟨LA, lc, rfl, hlc, hlm, hlops, _⟩ := hl
  have HT := Lib.hid htops
  have HL := Lib.hid hlops
  have HNN := Lib.hid (And.intro h1 h2)
  have dn3 : decide ((300 : Int) < (n : Int)) = false := by simp; omega
  have dn4 : decide ((40 : Int) < (l.length : Int)) = false := by simp; omega
  clear htops hlops
  go_enter Try.func6, Try.ntmps6
  go_wp2_with fail
  refine (new_yes _ n HNN.out.1 (by have := HNN.out.2; omega)).mono ?_
  rintro e w1 ⟨g, F, v1, rfl, hd, hF, b1⟩
  have M1 : Hid (Mine w w1 [ar F g (Ar.new n)]) := (Mine.start w).newAr b1 ⟨v1, hd⟩ hF
  clear hd hF b1
  go_wp2_with fail
  refine (rnew_any w1 n (by have := HNN.out.2; omega)).mono ?_
  rintro e w2 ⟨s, rfl, ho, b2⟩
  obtain ⟨As, cs, es⟩ := ho.slice
  rw [List.length_replicate] at es
  subst es
  have M2 := Lib.hid ((M1.out.newRb b2 ho).perm (List.Perm.swap _ _ _))
  have M3 : Hid (Mine w (w2.alloc (.cells #[.slice As n cs, .int .i64 0] 46)) _) := M2.out.newBk w2.heap.size rfl #[.slice As n cs, .int .i64 0] 46
  have ST : Hid (RSt w (w2.alloc (.cells #[.slice As n cs, .int .i64 0] 46)) n g (.slice As n cs) w2.heap.size) :=
    ⟨F, Ar.new n, List.replicate n true, like_new HNN.out.1 (by have := HNN.out.2; omega), rfl, M3.out.perm (List.perm_append_comm (l₁ := [_]))⟩
  have HW2 : Hid (w.heap.size ≤ w2.heap.size) := Nat.le_trans M1.out.bel.size b2.size
  clear b2 ho M1 M2 M3
  go_wp2_with fail
  go_loopw [10, 48] (fun ii i2 wr => ∃ (k : Nat) (s : Value), k ≤ tk.length ∧ k ≤ 20 ∧ ii = .int .i64 k ∧ Hid (RSt w wr n g s w2.heap.size)) (fun ii _ _ => tk.length - (intOf ii).toNat)
  case atStart => exact ⟨0, _, Nat.zero_le _, by decide, rfl, ST⟩
  case round =>
    obtain ⟨k, s, hk, hk20, rfl, ST2⟩ := hrel
    clear ST
    by_cases hlt : k < tk.length ∧ k < 20
    · obtain ⟨hl1, hl2⟩ := hlt
      obtain ⟨b, off, rfl, hops⟩ := HT.out (by omega)
      have hl20 : (k : Int) < 20 := by omega
      obtain ⟨Fb, a, bits, LK, hn, M0⟩ := ST2.out.ex
      obtain ⟨As, cs, es⟩ := (M0.rb (l1 := [_])).slice
      rw [LK.len, hn] at es
      subst es
      have MD := Lib.hid M0.drew
      have HLK := Lib.hid LK
      have HN := Lib.hid hn
      have HBL : Hid (bits.length = n) := LK.len.trans hn
      clear M0 LK hn
      have hb9 := MD.out.bk (l1 := [_, _])
      have k0 := blk_cell hb9 0; have k1 := blk_cell hb9 1; have f0 := blk_free hb9 0; have f1 := blk_free hb9 1
      simp only [List.getElem?_toArray, List.getElem?_cons_zero, List.getElem?_cons_succ] at k0 k1
      clear hb9
      obtain ⟨c0, c1⟩ := (hops.below MD.out.bel) k hl1
      have HOPS := Lib.hid hops
      generalize hxx : tk[k] = x at c0 c1
      have HXX := Lib.hid hxx
      clear hxx hops
      have hbw : b < w.heap.size := World.block_lt_of_cell? w _ (HOPS.out k hl1).1
      have hne : ¬ b = w2.heap.size := by have := HW2.out; omega
      have hne2 : ¬ w2.heap.size = b := by omega
      go_wp2_with fail
      refine wp_region_plan (fun w' => w'.cell? ⟨w2.heap.size, 0, none⟩ = some (.slice As n cs) ∧ w'.cell? ⟨w2.heap.size, 1, none⟩ = some (.int .i64 0) ∧ w'.cell? ⟨b, off + k * 2, none⟩ = some (.int .i64 x.1) ∧ w'.cell? ⟨b, off + k * 2 + 1, none⟩ = some (.int .i64 x.2)) (.op 1 1 (.op 2 1 (.op 3 1 (.op 0 2 (.op 4 2 (.two 5 (.op 6 1 (.op 7 1 (.op 8 1 (.op 9 0 (.op 10 0 (.op 11 1 .done)))))) 9 (.op 5 0 (.op 6 1 (.op 7 1 (.op 8 1 (.op 10 0 (.op 11 1 .done)))))))))))) (by kernel_rfl) (by kernel_rfl) ⟨k0, k1, c0, c1⟩ ?_
      repeat (refine wpP_dry (fun K hK => ?_); simp only [List.getD_cons_zero, List.getD_cons_succ]; go_simp; refine hK _ ?_; clear hK K)
      refine wpP_read (.agg #[.slice As n cs, .int .i64 0]) rfl (fun w' hS => by obtain ⟨s1, s2, s3, s4⟩ := hS; simp only [List.getD_cons_zero, List.getD_cons_succ]; go_simp) (fun K hK => ?_)
      simp only [List.getD_cons_zero, List.getD_cons_succ]
      go_simp
      refine hK _ ?_
      clear hK K
      refine wpP_read (.agg #[.int .i64 x.1, .int .i64 x.2]) rfl (fun w' hS => by obtain ⟨s1, s2, s3, s4⟩ := hS; simp only [List.getD_cons_zero, List.getD_cons_succ]; go_simp) (fun K hK => ?_)
      simp only [List.getD_cons_zero, List.getD_cons_succ]
      go_simp
      refine hK _ ?_
      clear hK K
      refine wpP_two ?_ ?_
      · simp only [List.getD_cons_zero, List.getD_cons_succ]
        go_wp2_with fail
        refine (rchange_any _ 0 (.slice As n cs) bits 0 (MD.out.rb (l1 := [_])) (by rw [HBL.out]; have := HNN.out.2; omega) (by rw [HBL.out]; exact HNN.out.1) x.1 x.2 false).mono ?_
        rintro e w4 ht4
        obtain ⟨s4, rfl, h4, b4⟩ := chg_mine MD.out ht4
        have M4 := Lib.hid h4
        obtain ⟨A4, c4, e4⟩ := (M4.out.rb (l1 := [_])).slice
        rw [chB_length, HBL.out] at e4
        subst e4
        replace k0 := cell_below b4 k0; replace k1 := cell_below b4 k1; replace c0 := cell_below b4 c0; replace c1 := cell_below b4 c1
        have M5 : Hid (Mine w (w4.alloc (.cells #[.slice A4 n c4, .int .i64 0] 46)) [ar Fb g a, rb (.slice A4 n c4) (chB bits x.1 x.2), bk w2.heap.size #[.slice As n cs, .int .i64 0] 46, bk w4.heap.size #[.slice A4 n c4, .int .i64 0] 46]) := (M4.out.newBk w4.heap.size rfl _ _).perm (List.perm_append_comm (l₁ := [_]))
        clear ht4 h4 b4 f0 f1
        go_wp2_with fail
        refine ⟨⟨k0, k1, c0, c1⟩, ?_⟩
        repeat (refine wpP_dry (fun K hK => ?_); simp only [List.getD_cons_zero, List.getD_cons_succ]; go_simp; refine hK _ ?_; clear hK K)
        refine wpP_do ?_
        simp only [List.getD_cons_zero, List.getD_cons_succ]
        go_wp2_with fail
        have kk0 := k0; have kk1 := k1; have cc0 := c0; have cc1 := c1
        have BA4 : Hid (Below w4.heap.size w4 (w4.alloc (.cells #[.slice none 0 0, .int .i64 0] 46))) := (Below.refl _ _).alloc (Nat.le_refl _) _
        replace k0 := cell_below BA4.out k0; replace k1 := cell_below BA4.out k1; replace c0 := cell_below BA4.out c0; replace c1 := cell_below BA4.out c1
        refine ⟨⟨k0, k1, c0, c1⟩, ?_⟩
        refine wpP_do ?_
        simp only [List.getD_cons_zero, List.getD_cons_succ]
        go_wp2_with fail
        have BB4 : Hid (Below w4.heap.size w4 (w4.alloc (.cells #[.slice A4 n c4, .int .i64 0] 46))) := (Below.refl _ _).alloc (Nat.le_refl _) _
        replace k0 := cell_below BB4.out kk0; replace k1 := cell_below BB4.out kk1; replace c0 := cell_below BB4.out cc0; replace c1 := cell_below BB4.out cc1
        refine ⟨⟨k0, k1, c0, c1⟩, ?_⟩
        repeat (refine wpP_dry (fun K hK => ?_); simp only [List.getD_cons_zero, List.getD_cons_succ]; go_simp; refine hK _ ?_; clear hK K)
        refine wpP_done ?_
        clear k0 k1 c0 c1 kk0 kk1 cc0 cc1 M4 BA4 BB4
        obtain ⟨w5, hw5⟩ : ∃ w5, w5 = w4.alloc (.cells #[.slice A4 n c4, .int .i64 0] 46) := ⟨_, rfl⟩
        rw [← hw5] at M5 ⊢
        obtain ⟨Y, hY⟩ : ∃ Y, Y = w4.heap.size := ⟨_, rfl⟩
        rw [← hY] at M5 ⊢
        clear hw5 hY
        have hb7 := M5.out.bk (l1 := [_, _])
        have k0 := blk_cell hb7 0; have k1 := blk_cell hb7 1; have f0 := blk_free hb7 0; have f1 := blk_free hb7 1
        simp only [List.getElem?_toArray, List.getElem?_cons_zero, List.getElem?_cons_succ] at k0 k1
        clear hb7
        have hb8 := M5.out.bk (l1 := [_, _, _])
        have j0 := blk_cell hb8 0; have j1 := blk_cell hb8 1; have ff0 := blk_free hb8 0; have ff1 := blk_free hb8 1
        simp only [List.getElem?_toArray, List.getElem?_cons_zero, List.getElem?_cons_succ] at j0 j1
        clear hb8
        have M6 := Lib.hid (M5.out.setBk2 (l1 := [_, _]) (a' := .slice A4 n c4) (b' := .int .i64 0))
        obtain ⟨c0, c1⟩ := (HOPS.out.below M5.out.bel) k hl1
        rw [HXX.out] at c0 c1
        go_wp2_with fail
        obtain ⟨va, ha⟩ := M6.out.area (l1 := [])
        refine (take_any _ Fb g a va ha x.1 x.2).mono ?_
        rintro e w7 ht7
        obtain ⟨rfl, F7, a7, bits7, L7, n7, M7⟩ := take_mine M6.out HLK.out ht7
        have ST7 : Hid (RSt w w7 n g (.slice A4 n c4) w2.heap.size) := ⟨F7, a7, bits7, L7, n7.trans HN.out, M7.drop (l1 := [_, _, _])⟩
        clear ht7 ha L7 n7 M7 M6 k0 k1 f0 f1 j0 j1 ff0 ff1 c0 c1
        go_wp2
        go_roundw
        case rel => first | exact ⟨k + 1, _, by omega, by omega, by go_num, ST7⟩ | ((repeat apply Exists.intro); refine ⟨?_, rfl⟩; exact ⟨k + 1, _, by omega, by omega, by go_num, ST7⟩)
        case measure => simp [intOf]; omega
      · simp only [List.getD_cons_zero, List.getD_cons_succ]
        go_wp2_with fail
        have M0B : Hid (Mine w (wr.drew.alloc (.cells #[.slice none 0 0, .int .i64 0] 46)) [ar Fb g a, rb (.slice As n cs) bits, bk w2.heap.size #[.slice As n cs, .int .i64 0] 46, bk wr.heap.size #[.slice none 0 0, .int .i64 0] 46]) := (MD.out.newBk wr.heap.size rfl _ _).perm (List.perm_append_comm (l₁ := [_]))
        have BA4 : Hid (Below wr.drew.heap.size wr.drew (wr.drew.alloc (.cells #[.slice none 0 0, .int .i64 0] 46))) := (Below.refl _ _).alloc (Nat.le_refl _) _
        replace k0 := cell_below BA4.out k0; replace k1 := cell_below BA4.out k1; replace c0 := cell_below BA4.out c0; replace c1 := cell_below BA4.out c1
        refine ⟨⟨k0, k1, c0, c1⟩, ?_⟩
        refine wpP_do ?_
        simp only [List.getD_cons_zero, List.getD_cons_succ]
        go_wp2_with fail
        refine (rchange_any _ 0 (.slice As n cs) bits 0 (M0B.out.rb (l1 := [_])) (by rw [HBL.out]; have := HNN.out.2; omega) (by rw [HBL.out]; exact HNN.out.1) x.1 x.2 false).mono ?_
        rintro e w4 ht4
        obtain ⟨s4, rfl, h4, b4⟩ := chg_mine M0B.out ht4
        have M4 := Lib.hid h4
        obtain ⟨A4, c4, e4⟩ := (M4.out.rb (l1 := [_])).slice
        rw [chB_length, HBL.out] at e4
        subst e4
        replace k0 := cell_below b4 k0; replace k1 := cell_below b4 k1; replace c0 := cell_below b4 c0; replace c1 := cell_below b4 c1
        have hb6 := M4.out.bk (l1 := [_, _, _])
        have y0 := blk_cell hb6 0; have y1 := blk_cell hb6 1; have yf0 := blk_free hb6 0; have yf1 := blk_free hb6 1
        simp only [List.getElem?_toArray, List.getElem?_cons_zero, List.getElem?_cons_succ] at y0 y1
        clear hb6
        have M5 := Lib.hid (M4.out.setBk2 (l1 := [_, _, _]) (a' := .slice A4 n c4) (b' := .int .i64 0))
        clear ht4 h4 b4 f0 f1 M0B BA4
        go_wp2_with fail
        refine ⟨⟨k0, k1, c0, c1⟩, ?_⟩
        repeat (refine wpP_dry (fun K hK => ?_); simp only [List.getD_cons_zero, List.getD_cons_succ]; go_simp; refine hK _ ?_; clear hK K)
        refine wpP_do ?_
        simp only [List.getD_cons_zero, List.getD_cons_succ]
        go_wp2_with fail
        have hb5 := M5.out.bk (l1 := [_, _])
        have m0 := blk_cell hb5 0; have m1 := blk_cell hb5 1; have mf0 := blk_free hb5 0; have mf1 := blk_free hb5 1
        simp only [List.getElem?_toArray, List.getElem?_cons_zero, List.getElem?_cons_succ] at m0 m1
        clear hb5
        obtain ⟨d0, d1⟩ := (HOPS.out.below M5.out.bel) k hl1
        rw [HXX.out] at d0 d1
        refine ⟨⟨m0, m1, d0, d1⟩, ?_⟩
        repeat (refine wpP_dry (fun K hK => ?_); simp only [List.getD_cons_zero, List.getD_cons_succ]; go_simp; refine hK _ ?_; clear hK K)
        refine wpP_done ?_
        clear k0 k1 c0 c1 y0 y1 yf0 yf1 m0 m1 mf0 mf1 d0 d1 M4
        obtain ⟨w5, hw5⟩ : ∃ w5, w5 = (w4.setCell ⟨wr.heap.size, 0, none⟩ (.slice A4 n c4)).setCell ⟨wr.heap.size, 1, none⟩ (.int .i64 0) := ⟨_, rfl⟩
        rw [← hw5] at M5 ⊢
        obtain ⟨Y, hY⟩ : ∃ Y, Y = wr.heap.size := ⟨_, rfl⟩
        rw [← hY] at M5 ⊢
        clear hw5 hY
        have hb7 := M5.out.bk (l1 := [_, _])
        have k0 := blk_cell hb7 0; have k1 := blk_cell hb7 1; have f0 := blk_free hb7 0; have f1 := blk_free hb7 1
        simp only [List.getElem?_toArray, List.getElem?_cons_zero, List.getElem?_cons_succ] at k0 k1
        clear hb7
        have hb8 := M5.out.bk (l1 := [_, _, _])
        have j0 := blk_cell hb8 0; have j1 := blk_cell hb8 1; have ff0 := blk_free hb8 0; have ff1 := blk_free hb8 1
        simp only [List.getElem?_toArray, List.getElem?_cons_zero, List.getElem?_cons_succ] at j0 j1
        clear hb8
        have M6 := Lib.hid (M5.out.setBk2 (l1 := [_, _]) (a' := .slice A4 n c4) (b' := .int .i64 0))
        obtain ⟨c0, c1⟩ := (HOPS.out.below M5.out.bel) k hl1
        rw [HXX.out] at c0 c1
        go_wp2_with fail
        obtain ⟨va, ha⟩ := M6.out.area (l1 := [])
        refine (take_any _ Fb g a va ha x.1 x.2).mono ?_
        rintro e w7 ht7
        obtain ⟨rfl, F7, a7, bits7, L7, n7, M7⟩ := take_mine M6.out HLK.out ht7
        have ST7 : Hid (RSt w w7 n g (.slice A4 n c4) w2.heap.size) := ⟨F7, a7, bits7, L7, n7.trans HN.out, M7.drop (l1 := [_, _, _])⟩
        clear ht7 ha L7 n7 M7 M6 k0 k1 f0 f1 j0 j1 ff0 ff1 c0 c1
        go_wp2
        go_roundw
        case rel => first | exact ⟨k + 1, _, by omega, by omega, by go_num, ST7⟩ | ((repeat apply Exists.intro); refine ⟨?_, rfl⟩; exact ⟨k + 1, _, by omega, by omega, by go_num, ST7⟩)
        case measure => simp [intOf]; omega
    · have hex : (decide (k < tk.length) = true ∧ decide ((k : Int) < 20) = false) ∨ decide (k < tk.length) = false := by
        by_cases h : k < tk.length
        · exact .inl ⟨by simpa using h, by simp; omega⟩
        · exact .inr (by simpa using h)
      clear hlt
      rcases hex with ⟨e1, e2⟩ | e1
      all_goals
        have ST3 := ST2
        clear ST2
        go_wp2_with fail
        go_loopw [13, 14, 76] (fun wy ii i2 wz => ∃ k : Nat, k ≤ l.length ∧ ii = .int .i64 k ∧ wy = .int .i64 (wyI n l k) ∧ Hid (RSt w wz n g s w2.heap.size)) (fun _ ii _ _ => l.length - (intOf ii).toNat)
        case atStart => exact ⟨0, Nat.zero_le _, rfl, by rw [wyI_zero], ST3⟩
        case round =>
          obtain ⟨k, hk, rfl, rfl, ST2⟩ := hrel
          clear ST3
          by_cases hlt : k < l.length
          · obtain ⟨b, off, rfl, hops⟩ := HL.out (by omega)
            obtain ⟨Fb, a, bits, LK, hn, M0⟩ := ST2.out.ex
            obtain ⟨As, cs, es⟩ := (M0.rb (l1 := [_])).slice
            rw [LK.len, hn] at es
            subst es
            have MD := Lib.hid M0.drew
            have HLK := Lib.hid LK
            have HN := Lib.hid hn
            have HBL : Hid (bits.length = n) := LK.len.trans hn
            clear M0 LK hn
            have hb9 := MD.out.bk (l1 := [_, _])
            have k0 := blk_cell hb9 0; have k1 := blk_cell hb9 1; have f0 := blk_free hb9 0; have f1 := blk_free hb9 1
            simp only [List.getElem?_toArray, List.getElem?_cons_zero, List.getElem?_cons_succ] at k0 k1
            clear hb9
            obtain ⟨c0, c1⟩ := (hops.below MD.out.bel) k hlt
            have YES := fun h => Lib.hid (wyI_yes (n := n) hlt h); have NO := fun h => Lib.hid (wyI_no (n := n) hlt h)
            generalize l[k] = x at c0 c1 YES NO
            clear hops f0 f1
            have WI := Lib.hid (rwithin_any wr.drew 0 (.slice As n cs) bits 0 (MD.out.rb (l1 := [_])) (by rw [HBL.out]; have := HNN.out.2; omega) x.1 x.2)
            rw [HBL.out] at WI
            cases hW : rwithin n x.1 x.2 with
            | false =>
              rw [hW] at WI
              have EQ := Lib.hid (NO hW).out
              clear YES NO hW
              go_wp2_with fail
              refine wp_region_flag (fun w' => w'.cell? ⟨w2.heap.size, 0, none⟩ = some (.slice As n cs) ∧ w'.cell? ⟨w2.heap.size, 1, none⟩ = some (.int .i64 0) ∧ w'.cell? ⟨b, off + k * 2, none⟩ = some (.int .i64 x.1) ∧ w'.cell? ⟨b, off + k * 2 + 1, none⟩ = some (.int .i64 x.2)) [(1, 1), (2, 1), (3, 1), (0, 2), (4, 0), (5, 0), (6, 1)] (by kernel_rfl) (by kernel_rfl) ⟨k0, k1, c0, c1⟩ ?_
              simp only [ordered, List.map_cons, List.map_nil, List.getD_cons_zero, List.getD_cons_succ]
              repeat (refine wpF_dry (fun K hK => ?_); go_simp; refine hK _ ?_; clear hK K)
              refine wpF_read (.agg #[.slice As n cs, .int .i64 0]) rfl (fun w' hS => by obtain ⟨s1, s2, s3, s4⟩ := hS; go_simp) (fun K hK => ?_)
              go_simp
              refine hK _ ?_
              clear hK K
              refine wpF_do ?_
              go_wp2_with fail
              refine ⟨⟨k0, k1, c0, c1⟩, ?_⟩
              refine wpF_do ?_
              go_wp2_with fail
              refine WI.out.mono ?_
              rintro e w4 ⟨rfl, b4⟩
              have M4 := Lib.hid (MD.out.below b4)
              replace k0 := cell_below b4 k0; replace k1 := cell_below b4 k1; replace c0 := cell_below b4 c0; replace c1 := cell_below b4 c1
              clear b4 WI
              go_wp2_with fail
              refine ⟨⟨k0, k1, c0, c1⟩, ?_⟩
              repeat (refine wpF_dry (fun K hK => ?_); go_simp; refine hK _ ?_; clear hK K)
              refine wpF_nil ?_
              have ST4 : Hid (RSt w w4 n g (.slice As n cs) w2.heap.size) := ⟨Fb, a, bits, HLK.out, HN.out, M4.out⟩
              clear k0 k1 c0 c1 M4
              go_wp2
              go_roundw
              case rel => first | exact ⟨k + 1, by omega, by go_num, by rw [EQ.out], ST4⟩ | ((repeat apply Exists.intro); refine ⟨?_, rfl⟩; exact ⟨k + 1, by omega, by go_num, by rw [EQ.out], ST4⟩)
              case measure => simp [intOf]; omega
            | true =>
              rw [hW] at WI
              have EQ := Lib.hid (YES hW).out
              clear YES NO hW
              go_wp2_with fail
              refine wp_region_flag (fun w' => w'.cell? ⟨w2.heap.size, 0, none⟩ = some (.slice As n cs) ∧ w'.cell? ⟨w2.heap.size, 1, none⟩ = some (.int .i64 0) ∧ w'.cell? ⟨b, off + k * 2, none⟩ = some (.int .i64 x.1) ∧ w'.cell? ⟨b, off + k * 2 + 1, none⟩ = some (.int .i64 x.2)) [(1, 1), (2, 1), (3, 1), (0, 2), (4, 0), (5, 0), (6, 1)] (by kernel_rfl) (by kernel_rfl) ⟨k0, k1, c0, c1⟩ ?_
              simp only [ordered, List.map_cons, List.map_nil, List.getD_cons_zero, List.getD_cons_succ]
              repeat (refine wpF_dry (fun K hK => ?_); go_simp; refine hK _ ?_; clear hK K)
              refine wpF_read (.agg #[.slice As n cs, .int .i64 0]) rfl (fun w' hS => by obtain ⟨s1, s2, s3, s4⟩ := hS; go_simp) (fun K hK => ?_)
              go_simp
              refine hK _ ?_
              clear hK K
              refine wpF_do ?_
              go_wp2_with fail
              refine ⟨⟨k0, k1, c0, c1⟩, ?_⟩
              refine wpF_do ?_
              go_wp2_with fail
              refine WI.out.mono ?_
              rintro e w4 ⟨rfl, b4⟩
              have M4 := Lib.hid (MD.out.below b4)
              replace k0 := cell_below b4 k0; replace k1 := cell_below b4 k1; replace c0 := cell_below b4 c0; replace c1 := cell_below b4 c1
              clear b4 WI
              go_wp2_with fail
              refine ⟨⟨k0, k1, c0, c1⟩, ?_⟩
              repeat (refine wpF_dry (fun K hK => ?_); go_simp; refine hK _ ?_; clear hK K)
              refine wpF_nil ?_
              have ST4 : Hid (RSt w w4 n g (.slice As n cs) w2.heap.size) := ⟨Fb, a, bits, HLK.out, HN.out, M4.out⟩
              clear k0 k1 c0 c1 M4
              go_wp2
              go_roundw
              case rel => first | exact ⟨k + 1, by omega, by go_num, by rw [EQ.out], ST4⟩ | ((repeat apply Exists.intro); refine ⟨?_, rfl⟩; exact ⟨k + 1, by omega, by go_num, by rw [EQ.out], ST4⟩)
              case measure => simp [intOf]; omega
          · obtain rfl : k = l.length := by omega
            have ST3 := ST2
            clear ST2 hlt
            cases hI : inK n l l.length with
            | false =>
              obtain ⟨p, hp, hno⟩ := inK_no hI
              rw [show wyI n l l.length = 9 by unfold wyI; rw [if_neg (by rw [hI]; decide)]]
              obtain ⟨b, off, rfl, hops⟩ := HL.out (by omega)
              have HNO := Lib.hid hno
              have hlp : decide (0 < l.length) = true := by simp; omega
              have hlp2 : 0 < l.length := by omega
              have HOPS := Lib.hid hops
              clear hI hno hops
              go_wp2_with fail
              go_loopw [13, 15, 89] (fun wy ii i2 wz => wy = .int .i64 9 ∧ ii = .int .i64 0 ∧ Hid (RSt w wz n g s w2.heap.size)) (fun _ _ _ _ => 0)
              case atStart => exact ⟨rfl, rfl, ST3⟩
              case round =>
                obtain ⟨rfl, rfl, ST4⟩ := hrel
                obtain ⟨Fb, a, bits, LK, hn, M0⟩ := ST4.out.ex
                obtain ⟨va, ha⟩ := M0.area (l1 := [])
                have PN := Lib.hid (plan_no _ Fb g a va ha (some ⟨b, off, none⟩) b off lc l (by omega) (fun _ => rfl) (HOPS.out.below M0.bel) p hp (by rw [rwithin_eq, hn]; exact HNO.out))
                have HA := Lib.hid ha
                have BEL := Lib.hid M0.bel
                clear M0 LK hn ha ST3 ST4
                go_wp2_with fail
                refine PN.out.mono ?_
                rintro e w5 ⟨rfl, b5⟩
                have B5 : Hid (Below w.heap.size w w5) := BEL.out.trans (b5.mono BEL.out.size)
                have hA2 := HA.out.below b5
                clear b5 PN HA
                go_wp2_with fail
                refine (plan_empty _ Fb g a _ hA2).mono ?_
                rintro e w6 ⟨A6, c6, rfl, b6⟩
                have B6 : Hid (Below w.heap.size w w6) := B5.out.trans (b6.mono B5.out.size)
                clear b6 hA2
                go_wp2_with fail
                refine (lives16 _).mono ?_
                rintro e w7 ⟨rfl, b7⟩
                have B7 : Hid (Below w.heap.size w w7) := B6.out.trans (b7.mono B6.out.size)
                clear b7
                go_wp2
                go_ret
                exact ⟨rfl, B7.out⟩
            | true =>
              obtain ⟨L, hLl, hLe, hLin⟩ := inK_nat hI
              rw [show wyI n l l.length = 0 by unfold wyI; rw [if_pos hI]]
              rw [← hLl] at h40 dn4 hlc ⊢
              have HLO : Hid (0 < L.length → ∃ b off, LA = some ⟨b, off, none⟩ ∧ ∀ (j : Nat) (h : j < L.length), w.cell? ⟨b, off + j * 2, none⟩ = some (.int .i64 (L[j].1 : Int)) ∧ w.cell? ⟨b, off + j * 2 + 1, none⟩ = some (.int .i64 (L[j].2 : Int))) := fun h0 => by
                obtain ⟨b, off, e, hs⟩ := HL.out (by omega)
                refine ⟨b, off, e, fun j hj => ?_⟩
                have := hs j (by omega)
                rw [hLe j (by omega) hj] at this
                exact this
              have HIN := Lib.hid hLin
              have HLL := Lib.hid hLl
              obtain ⟨Fb, a, bits, LK, hn, M0⟩ := ST3.out.ex
              obtain ⟨As, cs, es⟩ := (M0.rb (l1 := [_])).slice
              rw [LK.len, hn] at es
              subst es
              have HM0 := Lib.hid M0
              have HLK := Lib.hid LK
              have HN := Lib.hid hn
              have HBL : Hid (bits.length = n) := LK.len.trans hn
              clear M0 LK hn hI hLl hLe hLin ST3
              go_wp2_with fail
              go_loopw [13, 15, 89] (fun wy ii i2 wz => ∃ k : Nat, k ≤ L.length ∧ ii = .int .i64 k ∧ wy = .int .i64 (bI (badK bits L k)) ∧ Hid (Mine w wz [ar Fb g a, rb (.slice As n cs) bits, bk w2.heap.size #[.slice As n cs, .int .i64 0] 46])) (fun _ ii _ _ => L.length - (intOf ii).toNat)
              case atStart => exact ⟨0, Nat.zero_le _, rfl, rfl, HM0⟩
              case round =>
                obtain ⟨k, hk, rfl, rfl, HM⟩ := hrel
                have q9 := bI_ne (badK bits L k)
                by_cases hlt : k < L.length
                · obtain ⟨b, off, hLA, hops⟩ := HLO.out (by omega)
                  subst hLA
                  have HOPS := Lib.hid hops
                  have hb9 := HM.out.drew.bk (l1 := [_, _])
                  have k0 := blk_cell hb9 0; have k1 := blk_cell hb9 1; have f0 := blk_free hb9 0; have f1 := blk_free hb9 1
                  simp only [List.getElem?_toArray, List.getElem?_cons_zero, List.getElem?_cons_succ] at k0 k1
                  clear hb9
                  obtain ⟨c0, c1⟩ := hops k hlt
                  replace c0 := cell_below HM.out.drew.bel c0; replace c1 := cell_below HM.out.drew.bel c1
                  have nx := HIN.out L[k] (List.getElem_mem hlt)
                  have HGD : Hid (L.getD k (0, 0) = L[k]) := getD_get hlt
                  generalize hxx : L[k] = x at c0 c1 nx HGD
                  have HXX := Lib.hid hxx
                  clear hxx hops f0 f1
                  have AL := Lib.hid (rall_any wr.drew 0 (.slice As n cs) bits 0 (HM.out.drew.rb (l1 := [_])) (by rw [HBL.out]; have := HNN.out.2; omega) x.1 x.2 (by rw [HBL.out]; exact nx.2) false)
                  cases hA : allK false bits x.1 x.2 with
                  | false =>
                    rw [hA] at AL
                    have HA := Lib.hid hA
                    clear hA
                    go_wp2_with fail
                    refine wp_region_flag (fun w' => w'.cell? ⟨w2.heap.size, 0, none⟩ = some (.slice As n cs) ∧ w'.cell? ⟨w2.heap.size, 1, none⟩ = some (.int .i64 0) ∧ w'.cell? ⟨b, off + k * 2, none⟩ = some (.int .i64 (x.1 : Int)) ∧ w'.cell? ⟨b, off + k * 2 + 1, none⟩ = some (.int .i64 (x.2 : Int))) [(1, 1), (2, 1), (3, 1), (0, 2), (4, 0), (5, 0), (6, 1)] (by kernel_rfl) (by kernel_rfl) ⟨k0, k1, c0, c1⟩ ?_
                    simp only [ordered, List.map_cons, List.map_nil, List.getD_cons_zero, List.getD_cons_succ]
                    repeat (refine wpF_dry (fun K hK => ?_); go_simp; refine hK _ ?_; clear hK K)
                    refine wpF_read (.agg #[.slice As n cs, .int .i64 0]) rfl (fun w' hS => by obtain ⟨s1, s2, s3, s4⟩ := hS; go_simp) (fun K hK => ?_)
                    go_simp
                    refine hK _ ?_
                    clear hK K
                    refine wpF_do ?_
                    go_wp2_with fail
                    refine ⟨⟨k0, k1, c0, c1⟩, ?_⟩
                    refine wpF_do ?_
                    go_wp2_with fail
                    refine AL.out.mono ?_
                    rintro e w4 ⟨rfl, b4⟩
                    have M4 := Lib.hid (HM.out.drew.below b4)
                    replace k0 := cell_below b4 k0; replace k1 := cell_below b4 k1; replace c0 := cell_below b4 c0; replace c1 := cell_below b4 c1
                    clear b4 AL
                    go_wp2_with fail
                    refine ⟨⟨k0, k1, c0, c1⟩, ?_⟩
                    repeat (refine wpF_dry (fun K hK => ?_); go_simp; refine hK _ ?_; clear hK K)
                    refine wpF_nil ?_
                    clear k0 k1 c0 c1
                    go_wp2_with fail
                    go_loopw [13, 16, 106] (fun wy ii i2 wz => ∃ j : Nat, j ≤ k ∧ ii = .int .i64 j ∧ wy = .int .i64 (bI (badK bits L k || !allK false bits x.1 x.2 || ovK L x j)) ∧ Hid (Mine w wz [ar Fb g a, rb (.slice As n cs) bits, bk w2.heap.size #[.slice As n cs, .int .i64 0] 46])) (fun _ ii _ _ => k - (intOf ii).toNat)
                    case atStart => exact ⟨0, Nat.zero_le _, rfl, congrArg (Value.int .i64) (by rw [HA.out]; simp [ovK]; rfl), M4⟩
                    case round =>
                      obtain ⟨j, hj, rfl, rfl, HMj⟩ := hrel
                      by_cases hjk : j < k
                      · obtain ⟨c0, c1⟩ := HOPS.out k hlt
                        rw [HXX.out] at c0 c1
                        replace c0 := cell_below HMj.out.drew.bel c0; replace c1 := cell_below HMj.out.drew.bel c1
                        obtain ⟨d0, d1⟩ := HOPS.out j (by omega)
                        replace d0 := cell_below HMj.out.drew.bel d0; replace d1 := cell_below HMj.out.drew.bel d1
                        have HY : Hid (L.getD j (0, 0) = L[j]'(by omega)) := getD_get (by omega)
                        have ny := HIN.out (L[j]'(by omega)) (List.getElem_mem (by omega))
                        generalize L[j]'(by omega) = y at d0 d1 HY ny
                        have h300 := HNN.out.2
                        have hjL : j < L.length := by omega
                        obtain ⟨ys, hys⟩ : ∃ ys, ys = y.1 + y.2 := ⟨_, rfl⟩
                        obtain ⟨xs, hxs⟩ : ∃ xs, xs = x.1 + x.2 := ⟨_, rfl⟩
                        have ey : (y.1 : Int) + (y.2 : Int) = (ys : Int) := by omega
                        have ex : (x.1 : Int) + (x.2 : Int) = (xs : Int) := by omega
                        have wy : IntKind.i64.wrap (ys : Int) = (ys : Int) := by rw [IntKind.wrap_i64]; omega
                        have wx : IntKind.i64.wrap (xs : Int) = (xs : Int) := by rw [IntKind.wrap_i64]; omega
                        have HYS := Lib.hid hys; have HXS := Lib.hid hxs
                        clear hys hxs
                        by_cases q1 : x.1 < ys
                        · by_cases q2 : y.1 < xs
                          · have EQ : Hid (ovK L x (j + 1) = true) := by unfold Hid; rw [ovK, HY.out]; unfold ov; rw [decide_eq_true (p := x.1 < _) (by have := HYS.out; omega), decide_eq_true (p := y.1 < _) (by have := HXS.out; omega), Bool.and_self, Bool.or_true]
                            have t1 : decide (x.1 < ys) = true := by simpa using q1
                            have t1' : decide ((x.1 : Int) < (ys : Int)) = true := by simp; omega
                            have t2 : decide (y.1 < xs) = true := by simpa using q2
                            have t2' : decide ((y.1 : Int) < (xs : Int)) = true := by simp; omega
                            have M9 := Lib.hid HMj.out.drew
                            clear q1 q2
                            go_wp2_with fail
                            refine wp_region_flag (fun w' => w'.cell? ⟨b, off + k * 2, none⟩ = some (.int .i64 (x.1 : Int)) ∧ w'.cell? ⟨b, off + k * 2 + 1, none⟩ = some (.int .i64 (x.2 : Int)) ∧ w'.cell? ⟨b, off + j * 2, none⟩ = some (.int .i64 (y.1 : Int)) ∧ w'.cell? ⟨b, off + j * 2 + 1, none⟩ = some (.int .i64 (y.2 : Int))) [(0, 1), (1, 1), (2, 1), (3, 1), (5, 1), (6, 1), (7, 1), (8, 1), (10, 1), (11, 1), (12, 1), (13, 1), (4, 2), (9, 2), (14, 0), (15, 1), (16, 1), (17, 1), (18, 1), (19, 1), (20, 1), (21, 1), (23, 1), (24, 1), (25, 1), (26, 1), (28, 1), (29, 1), (30, 1), (31, 1), (22, 2), (27, 2), (32, 0), (33, 1), (34, 1), (35, 1)] (by kernel_rfl) (by kernel_rfl) ⟨c0, c1, d0, d1⟩ ?_
                            simp only [ordered, List.map_cons, List.map_nil, List.getD_cons_zero, List.getD_cons_succ]
                            repeat (refine wpF_dry (fun K hK => ?_); go_simp; refine hK _ ?_; clear hK K)
                            refine wpF_read (.int .i64 (x.1 : Int)) rfl (fun w' hS => by obtain ⟨s1, s2, s3, s4⟩ := hS; go_simp) (fun K hK => ?_)
                            go_simp
                            refine hK _ ?_
                            clear hK K
                            refine wpF_read (.int .i64 (y.1 : Int)) rfl (fun w' hS => by obtain ⟨s1, s2, s3, s4⟩ := hS; go_simp) (fun K hK => ?_)
                            go_simp
                            refine hK _ ?_
                            clear hK K
                            refine wpF_do ?_
                            go_wp2_with fail
                            refine ⟨⟨c0, c1, d0, d1⟩, ?_⟩
                            repeat (refine wpF_dry (fun K hK => ?_); go_simp; refine hK _ ?_; clear hK K)
                            refine wpF_read (.int .i64 (y.1 : Int)) rfl (fun w' hS => by obtain ⟨s1, s2, s3, s4⟩ := hS; go_simp) (fun K hK => ?_)
                            go_simp
                            refine hK _ ?_
                            clear hK K
                            refine wpF_read (.int .i64 (x.1 : Int)) rfl (fun w' hS => by obtain ⟨s1, s2, s3, s4⟩ := hS; go_simp) (fun K hK => ?_)
                            go_simp
                            refine hK _ ?_
                            clear hK K
                            refine wpF_do ?_
                            go_wp2_with fail
                            refine ⟨⟨c0, c1, d0, d1⟩, ?_⟩
                            repeat (refine wpF_dry (fun K hK => ?_); go_simp; refine hK _ ?_; clear hK K)
                            refine wpF_nil ?_
                            go_wp2
                            go_roundw
                            case rel => first | exact ⟨j + 1, by omega, by go_num, by rw [EQ.out, Bool.or_true]; rfl, M9⟩ | ((repeat apply Exists.intro); refine ⟨?_, rfl⟩; exact ⟨j + 1, by omega, by go_num, by rw [EQ.out, Bool.or_true]; rfl, M9⟩)
                            case measure => simp [intOf]; omega
                          · have EQ : Hid (ovK L x (j + 1) = ovK L x j) := by unfold Hid; rw [ovK, HY.out]; unfold ov; rw [decide_eq_false (p := y.1 < _) (by have := HXS.out; omega), Bool.and_false, Bool.or_false]
                            have t1 : decide (x.1 < ys) = true := by simpa using q1
                            have t1' : decide ((x.1 : Int) < (ys : Int)) = true := by simp; omega
                            have t2 : decide (y.1 < xs) = false := by simpa using q2
                            have t2' : decide ((y.1 : Int) < (xs : Int)) = false := by simp; omega
                            have M9 := Lib.hid HMj.out.drew
                            clear q1 q2
                            go_wp2_with fail
                            refine wp_region_flag (fun w' => w'.cell? ⟨b, off + k * 2, none⟩ = some (.int .i64 (x.1 : Int)) ∧ w'.cell? ⟨b, off + k * 2 + 1, none⟩ = some (.int .i64 (x.2 : Int)) ∧ w'.cell? ⟨b, off + j * 2, none⟩ = some (.int .i64 (y.1 : Int)) ∧ w'.cell? ⟨b, off + j * 2 + 1, none⟩ = some (.int .i64 (y.2 : Int))) [(0, 1), (1, 1), (2, 1), (3, 1), (5, 1), (6, 1), (7, 1), (8, 1), (10, 1), (11, 1), (12, 1), (13, 1), (4, 2), (9, 2), (14, 0), (15, 1), (16, 1), (17, 1), (18, 1), (19, 1), (20, 1), (21, 1), (23, 1), (24, 1), (25, 1), (26, 1), (28, 1), (29, 1), (30, 1), (31, 1), (22, 2), (27, 2), (32, 0), (33, 1), (34, 1), (35, 1)] (by kernel_rfl) (by kernel_rfl) ⟨c0, c1, d0, d1⟩ ?_
                            simp only [ordered, List.map_cons, List.map_nil, List.getD_cons_zero, List.getD_cons_succ]
                            repeat (refine wpF_dry (fun K hK => ?_); go_simp; refine hK _ ?_; clear hK K)
                            refine wpF_read (.int .i64 (x.1 : Int)) rfl (fun w' hS => by obtain ⟨s1, s2, s3, s4⟩ := hS; go_simp) (fun K hK => ?_)
                            go_simp
                            refine hK _ ?_
                            clear hK K
                            refine wpF_read (.int .i64 (y.1 : Int)) rfl (fun w' hS => by obtain ⟨s1, s2, s3, s4⟩ := hS; go_simp) (fun K hK => ?_)
                            go_simp
                            refine hK _ ?_
                            clear hK K
                            refine wpF_do ?_
                            go_wp2_with fail
                            refine ⟨⟨c0, c1, d0, d1⟩, ?_⟩
                            repeat (refine wpF_dry (fun K hK => ?_); go_simp; refine hK _ ?_; clear hK K)
                            refine wpF_read (.int .i64 (y.1 : Int)) rfl (fun w' hS => by obtain ⟨s1, s2, s3, s4⟩ := hS; go_simp) (fun K hK => ?_)
                            go_simp
                            refine hK _ ?_
                            clear hK K
                            refine wpF_read (.int .i64 (x.1 : Int)) rfl (fun w' hS => by obtain ⟨s1, s2, s3, s4⟩ := hS; go_simp) (fun K hK => ?_)
                            go_simp
                            refine hK _ ?_
                            clear hK K
                            refine wpF_do ?_
                            go_wp2_with fail
                            refine ⟨⟨c0, c1, d0, d1⟩, ?_⟩
                            repeat (refine wpF_dry (fun K hK => ?_); go_simp; refine hK _ ?_; clear hK K)
                            refine wpF_nil ?_
                            go_wp2
                            go_roundw
                            case rel => first | exact ⟨j + 1, by omega, by go_num, by rw [EQ.out], M9⟩ | ((repeat apply Exists.intro); refine ⟨?_, rfl⟩; exact ⟨j + 1, by omega, by go_num, by rw [EQ.out], M9⟩)
                            case measure => simp [intOf]; omega
                        · have EQ : Hid (ovK L x (j + 1) = ovK L x j) := by unfold Hid; rw [ovK, HY.out]; unfold ov; rw [decide_eq_false (p := x.1 < _) (by have := HYS.out; omega), Bool.false_and, Bool.or_false]
                          have t1 : decide (x.1 < ys) = false := by simpa using q1
                          have t1' : decide ((x.1 : Int) < (ys : Int)) = false := by simp; omega
                          have M9 := Lib.hid HMj.out.drew
                          clear q1
                          go_wp2_with fail
                          refine wp_region_flag (fun w' => w'.cell? ⟨b, off + k * 2, none⟩ = some (.int .i64 (x.1 : Int)) ∧ w'.cell? ⟨b, off + k * 2 + 1, none⟩ = some (.int .i64 (x.2 : Int)) ∧ w'.cell? ⟨b, off + j * 2, none⟩ = some (.int .i64 (y.1 : Int)) ∧ w'.cell? ⟨b, off + j * 2 + 1, none⟩ = some (.int .i64 (y.2 : Int))) [(0, 1), (1, 1), (2, 1), (3, 1), (5, 1), (6, 1), (7, 1), (8, 1), (10, 1), (11, 1), (12, 1), (13, 1), (4, 2), (9, 2), (14, 0), (15, 1), (16, 1), (17, 1), (18, 1), (19, 1), (20, 1), (21, 1), (23, 1), (24, 1), (25, 1), (26, 1), (28, 1), (29, 1), (30, 1), (31, 1), (22, 2), (27, 2), (32, 0), (33, 1), (34, 1), (35, 1)] (by kernel_rfl) (by kernel_rfl) ⟨c0, c1, d0, d1⟩ ?_
                          simp only [ordered, List.map_cons, List.map_nil, List.getD_cons_zero, List.getD_cons_succ]
                          repeat (refine wpF_dry (fun K hK => ?_); go_simp; refine hK _ ?_; clear hK K)
                          refine wpF_read (.int .i64 (x.1 : Int)) rfl (fun w' hS => by obtain ⟨s1, s2, s3, s4⟩ := hS; go_simp) (fun K hK => ?_)
                          go_simp
                          refine hK _ ?_
                          clear hK K
                          refine wpF_read (.int .i64 (y.1 : Int)) rfl (fun w' hS => by obtain ⟨s1, s2, s3, s4⟩ := hS; go_simp) (fun K hK => ?_)
                          go_simp
                          refine hK _ ?_
                          clear hK K
                          refine wpF_do ?_
                          go_wp2_with fail
                          refine ⟨⟨c0, c1, d0, d1⟩, ?_⟩
                          repeat (refine wpF_dry (fun K hK => ?_); go_simp; refine hK _ ?_; clear hK K)
                          refine wpF_skip (fun K hK => ?_)
                          go_simp
                          first | refine hK _ ?_ | refine ⟨(fun hh => by cases hh), hK _ ?_⟩
                          clear hK K
                          refine wpF_skip (fun K hK => ?_)
                          go_simp
                          first | refine hK _ ?_ | refine ⟨(fun hh => by cases hh), hK _ ?_⟩
                          clear hK K
                          refine wpF_do ?_
                          go_wp2_with fail
                          refine ⟨⟨c0, c1, d0, d1⟩, ?_⟩
                          repeat (refine wpF_dry (fun K hK => ?_); go_simp; refine hK _ ?_; clear hK K)
                          refine wpF_nil ?_
                          go_wp2
                          go_roundw
                          case rel => first | exact ⟨j + 1, by omega, by go_num, by rw [EQ.out], M9⟩ | ((repeat apply Exists.intro); refine ⟨?_, rfl⟩; exact ⟨j + 1, by omega, by go_num, by rw [EQ.out], M9⟩)
                          case measure => simp [intOf]; omega
                      · obtain rfl : j = k := by omega
                        have EQ : Hid (badK bits L (j + 1) = (badK bits L j || (!allK false bits x.1 x.2 || ovK L x j))) := by unfold Hid; rw [badK, HGD.out]
                        go_wp2
                        go_roundw
                        case rel => first | exact ⟨j + 1, by omega, by go_num, by rw [EQ.out, Bool.or_assoc], HMj⟩ | ((repeat apply Exists.intro); refine ⟨?_, rfl⟩; exact ⟨j + 1, by omega, by go_num, by rw [EQ.out, Bool.or_assoc], HMj⟩)
                        case measure => simp [intOf]; omega
                  | true =>
                    rw [hA] at AL
                    have HA := Lib.hid hA
                    clear hA
                    go_wp2_with fail
                    refine wp_region_flag (fun w' => w'.cell? ⟨w2.heap.size, 0, none⟩ = some (.slice As n cs) ∧ w'.cell? ⟨w2.heap.size, 1, none⟩ = some (.int .i64 0) ∧ w'.cell? ⟨b, off + k * 2, none⟩ = some (.int .i64 (x.1 : Int)) ∧ w'.cell? ⟨b, off + k * 2 + 1, none⟩ = some (.int .i64 (x.2 : Int))) [(1, 1), (2, 1), (3, 1), (0, 2), (4, 0), (5, 0), (6, 1)] (by kernel_rfl) (by kernel_rfl) ⟨k0, k1, c0, c1⟩ ?_
                    simp only [ordered, List.map_cons, List.map_nil, List.getD_cons_zero, List.getD_cons_succ]
                    repeat (refine wpF_dry (fun K hK => ?_); go_simp; refine hK _ ?_; clear hK K)
                    refine wpF_read (.agg #[.slice As n cs, .int .i64 0]) rfl (fun w' hS => by obtain ⟨s1, s2, s3, s4⟩ := hS; go_simp) (fun K hK => ?_)
                    go_simp
                    refine hK _ ?_
                    clear hK K
                    refine wpF_do ?_
                    go_wp2_with fail
                    refine ⟨⟨k0, k1, c0, c1⟩, ?_⟩
                    refine wpF_do ?_
                    go_wp2_with fail
                    refine AL.out.mono ?_
                    rintro e w4 ⟨rfl, b4⟩
                    have M4 := Lib.hid (HM.out.drew.below b4)
                    replace k0 := cell_below b4 k0; replace k1 := cell_below b4 k1; replace c0 := cell_below b4 c0; replace c1 := cell_below b4 c1
                    clear b4 AL
                    go_wp2_with fail
                    refine ⟨⟨k0, k1, c0, c1⟩, ?_⟩
                    repeat (refine wpF_dry (fun K hK => ?_); go_simp; refine hK _ ?_; clear hK K)
                    refine wpF_nil ?_
                    clear k0 k1 c0 c1
                    go_wp2_with fail
                    go_loopw [13, 16, 106] (fun wy ii i2 wz => ∃ j : Nat, j ≤ k ∧ ii = .int .i64 j ∧ wy = .int .i64 (bI (badK bits L k || !allK false bits x.1 x.2 || ovK L x j)) ∧ Hid (Mine w wz [ar Fb g a, rb (.slice As n cs) bits, bk w2.heap.size #[.slice As n cs, .int .i64 0] 46])) (fun _ ii _ _ => k - (intOf ii).toNat)
                    case atStart => exact ⟨0, Nat.zero_le _, rfl, congrArg (Value.int .i64) (by rw [HA.out]; simp [ovK]), M4⟩
                    case round =>
                      obtain ⟨j, hj, rfl, rfl, HMj⟩ := hrel
                      by_cases hjk : j < k
                      · obtain ⟨c0, c1⟩ := HOPS.out k hlt
                        rw [HXX.out] at c0 c1
                        replace c0 := cell_below HMj.out.drew.bel c0; replace c1 := cell_below HMj.out.drew.bel c1
                        obtain ⟨d0, d1⟩ := HOPS.out j (by omega)
                        replace d0 := cell_below HMj.out.drew.bel d0; replace d1 := cell_below HMj.out.drew.bel d1
                        have HY : Hid (L.getD j (0, 0) = L[j]'(by omega)) := getD_get (by omega)
                        have ny := HIN.out (L[j]'(by omega)) (List.getElem_mem (by omega))
                        generalize L[j]'(by omega) = y at d0 d1 HY ny
                        have h300 := HNN.out.2
                        have hjL : j < L.length := by omega
                        obtain ⟨ys, hys⟩ : ∃ ys, ys = y.1 + y.2 := ⟨_, rfl⟩
                        obtain ⟨xs, hxs⟩ : ∃ xs, xs = x.1 + x.2 := ⟨_, rfl⟩
                        have ey : (y.1 : Int) + (y.2 : Int) = (ys : Int) := by omega
                        have ex : (x.1 : Int) + (x.2 : Int) = (xs : Int) := by omega
                        have wy : IntKind.i64.wrap (ys : Int) = (ys : Int) := by rw [IntKind.wrap_i64]; omega
                        have wx : IntKind.i64.wrap (xs : Int) = (xs : Int) := by rw [IntKind.wrap_i64]; omega
                        have HYS := Lib.hid hys; have HXS := Lib.hid hxs
                        clear hys hxs
                        by_cases q1 : x.1 < ys
                        · by_cases q2 : y.1 < xs
                          · have EQ : Hid (ovK L x (j + 1) = true) := by unfold Hid; rw [ovK, HY.out]; unfold ov; rw [decide_eq_true (p := x.1 < _) (by have := HYS.out; omega), decide_eq_true (p := y.1 < _) (by have := HXS.out; omega), Bool.and_self, Bool.or_true]
                            have t1 : decide (x.1 < ys) = true := by simpa using q1
                            have t1' : decide ((x.1 : Int) < (ys : Int)) = true := by simp; omega
                            have t2 : decide (y.1 < xs) = true := by simpa using q2
                            have t2' : decide ((y.1 : Int) < (xs : Int)) = true := by simp; omega
                            have M9 := Lib.hid HMj.out.drew
                            clear q1 q2
                            go_wp2_with fail
                            refine wp_region_flag (fun w' => w'.cell? ⟨b, off + k * 2, none⟩ = some (.int .i64 (x.1 : Int)) ∧ w'.cell? ⟨b, off + k * 2 + 1, none⟩ = some (.int .i64 (x.2 : Int)) ∧ w'.cell? ⟨b, off + j * 2, none⟩ = some (.int .i64 (y.1 : Int)) ∧ w'.cell? ⟨b, off + j * 2 + 1, none⟩ = some (.int .i64 (y.2 : Int))) [(0, 1), (1, 1), (2, 1), (3, 1), (5, 1), (6, 1), (7, 1), (8, 1), (10, 1), (11, 1), (12, 1), (13, 1), (4, 2), (9, 2), (14, 0), (15, 1), (16, 1), (17, 1), (18, 1), (19, 1), (20, 1), (21, 1), (23, 1), (24, 1), (25, 1), (26, 1), (28, 1), (29, 1), (30, 1), (31, 1), (22, 2), (27, 2), (32, 0), (33, 1), (34, 1), (35, 1)] (by kernel_rfl) (by kernel_rfl) ⟨c0, c1, d0, d1⟩ ?_
                            simp only [ordered, List.map_cons, List.map_nil, List.getD_cons_zero, List.getD_cons_succ]
                            repeat (refine wpF_dry (fun K hK => ?_); go_simp; refine hK _ ?_; clear hK K)
                            refine wpF_read (.int .i64 (x.1 : Int)) rfl (fun w' hS => by obtain ⟨s1, s2, s3, s4⟩ := hS; go_simp) (fun K hK => ?_)
                            go_simp
                            refine hK _ ?_
                            clear hK K
                            refine wpF_read (.int .i64 (y.1 : Int)) rfl (fun w' hS => by obtain ⟨s1, s2, s3, s4⟩ := hS; go_simp) (fun K hK => ?_)
                            go_simp
                            refine hK _ ?_
                            clear hK K
                            refine wpF_do ?_
                            go_wp2_with fail
                            refine ⟨⟨c0, c1, d0, d1⟩, ?_⟩
                            repeat (refine wpF_dry (fun K hK => ?_); go_simp; refine hK _ ?_; clear hK K)
                            refine wpF_read (.int .i64 (y.1 : Int)) rfl (fun w' hS => by obtain ⟨s1, s2, s3, s4⟩ := hS; go_simp) (fun K hK => ?_)
                            go_simp
                            refine hK _ ?_
                            clear hK K
                            refine wpF_read (.int .i64 (x.1 : Int)) rfl (fun w' hS => by obtain ⟨s1, s2, s3, s4⟩ := hS; go_simp) (fun K hK => ?_)
                            go_simp
                            refine hK _ ?_
                            clear hK K
                            refine wpF_do ?_
                            go_wp2_with fail
                            refine ⟨⟨c0, c1, d0, d1⟩, ?_⟩
                            repeat (refine wpF_dry (fun K hK => ?_); go_simp; refine hK _ ?_; clear hK K)
                            refine wpF_nil ?_
                            go_wp2
                            go_roundw
                            case rel => first | exact ⟨j + 1, by omega, by go_num, by rw [EQ.out, Bool.or_true]; rfl, M9⟩ | ((repeat apply Exists.intro); refine ⟨?_, rfl⟩; exact ⟨j + 1, by omega, by go_num, by rw [EQ.out, Bool.or_true]; rfl, M9⟩)
                            case measure => simp [intOf]; omega
                          · have EQ : Hid (ovK L x (j + 1) = ovK L x j) := by unfold Hid; rw [ovK, HY.out]; unfold ov; rw [decide_eq_false (p := y.1 < _) (by have := HXS.out; omega), Bool.and_false, Bool.or_false]
                            have t1 : decide (x.1 < ys) = true := by simpa using q1
                            have t1' : decide ((x.1 : Int) < (ys : Int)) = true := by simp; omega
                            have t2 : decide (y.1 < xs) = false := by simpa using q2
                            have t2' : decide ((y.1 : Int) < (xs : Int)) = false := by simp; omega
                            have M9 := Lib.hid HMj.out.drew
                            clear q1 q2
                            go_wp2_with fail
                            refine wp_region_flag (fun w' => w'.cell? ⟨b, off + k * 2, none⟩ = some (.int .i64 (x.1 : Int)) ∧ w'.cell? ⟨b, off + k * 2 + 1, none⟩ = some (.int .i64 (x.2 : Int)) ∧ w'.cell? ⟨b, off + j * 2, none⟩ = some (.int .i64 (y.1 : Int)) ∧ w'.cell? ⟨b, off + j * 2 + 1, none⟩ = some (.int .i64 (y.2 : Int))) [(0, 1), (1, 1), (2, 1), (3, 1), (5, 1), (6, 1), (7, 1), (8, 1), (10, 1), (11, 1), (12, 1), (13, 1), (4, 2), (9, 2), (14, 0), (15, 1), (16, 1), (17, 1), (18, 1), (19, 1), (20, 1), (21, 1), (23, 1), (24, 1), (25, 1), (26, 1), (28, 1), (29, 1), (30, 1), (31, 1), (22, 2), (27, 2), (32, 0), (33, 1), (34, 1), (35, 1)] (by kernel_rfl) (by kernel_rfl) ⟨c0, c1, d0, d1⟩ ?_
                            simp only [ordered, List.map_cons, List.map_nil, List.getD_cons_zero, List.getD_cons_succ]
                            repeat (refine wpF_dry (fun K hK => ?_); go_simp; refine hK _ ?_; clear hK K)
                            refine wpF_read (.int .i64 (x.1 : Int)) rfl (fun w' hS => by obtain ⟨s1, s2, s3, s4⟩ := hS; go_simp) (fun K hK => ?_)
                            go_simp
                            refine hK _ ?_
                            clear hK K
                            refine wpF_read (.int .i64 (y.1 : Int)) rfl (fun w' hS => by obtain ⟨s1, s2, s3, s4⟩ := hS; go_simp) (fun K hK => ?_)
                            go_simp
                            refine hK _ ?_
                            clear hK K
                            refine wpF_do ?_
                            go_wp2_with fail
                            refine ⟨⟨c0, c1, d0, d1⟩, ?_⟩
                            repeat (refine wpF_dry (fun K hK => ?_); go_simp; refine hK _ ?_; clear hK K)
                            refine wpF_read (.int .i64 (y.1 : Int)) rfl (fun w' hS => by obtain ⟨s1, s2, s3, s4⟩ := hS; go_simp) (fun K hK => ?_)
                            go_simp
                            refine hK _ ?_
                            clear hK K
                            refine wpF_read (.int .i64 (x.1 : Int)) rfl (fun w' hS => by obtain ⟨s1, s2, s3, s4⟩ := hS; go_simp) (fun K hK => ?_)
                            go_simp
                            refine hK _ ?_
                            clear hK K
                            refine wpF_do ?_
                            go_wp2_with fail
                            refine ⟨⟨c0, c1, d0, d1⟩, ?_⟩
                            repeat (refine wpF_dry (fun K hK => ?_); go_simp; refine hK _ ?_; clear hK K)
                            refine wpF_nil ?_
                            go_wp2
                            go_roundw
                            case rel => first | exact ⟨j + 1, by omega, by go_num, by rw [EQ.out], M9⟩ | ((repeat apply Exists.intro); refine ⟨?_, rfl⟩; exact ⟨j + 1, by omega, by go_num, by rw [EQ.out], M9⟩)
                            case measure => simp [intOf]; omega
                        · have EQ : Hid (ovK L x (j + 1) = ovK L x j) := by unfold Hid; rw [ovK, HY.out]; unfold ov; rw [decide_eq_false (p := x.1 < _) (by have := HYS.out; omega), Bool.false_and, Bool.or_false]
                          have t1 : decide (x.1 < ys) = false := by simpa using q1
                          have t1' : decide ((x.1 : Int) < (ys : Int)) = false := by simp; omega
                          have M9 := Lib.hid HMj.out.drew
                          clear q1
                          go_wp2_with fail
                          refine wp_region_flag (fun w' => w'.cell? ⟨b, off + k * 2, none⟩ = some (.int .i64 (x.1 : Int)) ∧ w'.cell? ⟨b, off + k * 2 + 1, none⟩ = some (.int .i64 (x.2 : Int)) ∧ w'.cell? ⟨b, off + j * 2, none⟩ = some (.int .i64 (y.1 : Int)) ∧ w'.cell? ⟨b, off + j * 2 + 1, none⟩ = some (.int .i64 (y.2 : Int))) [(0, 1), (1, 1), (2, 1), (3, 1), (5, 1), (6, 1), (7, 1), (8, 1), (10, 1), (11, 1), (12, 1), (13, 1), (4, 2), (9, 2), (14, 0), (15, 1), (16, 1), (17, 1), (18, 1), (19, 1), (20, 1), (21, 1), (23, 1), (24, 1), (25, 1), (26, 1), (28, 1), (29, 1), (30, 1), (31, 1), (22, 2), (27, 2), (32, 0), (33, 1), (34, 1), (35, 1)] (by kernel_rfl) (by kernel_rfl) ⟨c0, c1, d0, d1⟩ ?_
                          simp only [ordered, List.map_cons, List.map_nil, List.getD_cons_zero, List.getD_cons_succ]
                          repeat (refine wpF_dry (fun K hK => ?_); go_simp; refine hK _ ?_; clear hK K)
                          refine wpF_read (.int .i64 (x.1 : Int)) rfl (fun w' hS => by obtain ⟨s1, s2, s3, s4⟩ := hS; go_simp) (fun K hK => ?_)
                          go_simp
                          refine hK _ ?_
                          clear hK K
                          refine wpF_read (.int .i64 (y.1 : Int)) rfl (fun w' hS => by obtain ⟨s1, s2, s3, s4⟩ := hS; go_simp) (fun K hK => ?_)
                          go_simp
                          refine hK _ ?_
                          clear hK K
                          refine wpF_do ?_
                          go_wp2_with fail
                          refine ⟨⟨c0, c1, d0, d1⟩, ?_⟩
                          repeat (refine wpF_dry (fun K hK => ?_); go_simp; refine hK _ ?_; clear hK K)
                          refine wpF_skip (fun K hK => ?_)
                          go_simp
                          first | refine hK _ ?_ | refine ⟨(fun hh => by cases hh), hK _ ?_⟩
                          clear hK K
                          refine wpF_skip (fun K hK => ?_)
                          go_simp
                          first | refine hK _ ?_ | refine ⟨(fun hh => by cases hh), hK _ ?_⟩
                          clear hK K
                          refine wpF_do ?_
                          go_wp2_with fail
                          refine ⟨⟨c0, c1, d0, d1⟩, ?_⟩
                          repeat (refine wpF_dry (fun K hK => ?_); go_simp; refine hK _ ?_; clear hK K)
                          refine wpF_nil ?_
                          go_wp2
                          go_roundw
                          case rel => first | exact ⟨j + 1, by omega, by go_num, by rw [EQ.out], M9⟩ | ((repeat apply Exists.intro); refine ⟨?_, rfl⟩; exact ⟨j + 1, by omega, by go_num, by rw [EQ.out], M9⟩)
                          case measure => simp [intOf]; omega
                      · obtain rfl : j = k := by omega
                        have EQ : Hid (badK bits L (j + 1) = (badK bits L j || (!allK false bits x.1 x.2 || ovK L x j))) := by unfold Hid; rw [badK, HGD.out]
                        go_wp2
                        go_roundw
                        case rel => first | exact ⟨j + 1, by omega, by go_num, by rw [EQ.out, Bool.or_assoc], HMj⟩ | ((repeat apply Exists.intro); refine ⟨?_, rfl⟩; exact ⟨j + 1, by omega, by go_num, by rw [EQ.out, Bool.or_assoc], HMj⟩)
                        case measure => simp [intOf]; omega
                · obtain rfl : k = L.length := by omega
                  obtain ⟨va, ha⟩ := HM.out.area (l1 := [])
                  obtain ⟨b, off, hA0, hops⟩ : ∃ b off, (0 < L.length → LA = some ⟨b, off, none⟩) ∧ ∀ (j : Nat) (h : j < L.length), w.cell? ⟨b, off + j * 2, none⟩ = some (.int .i64 (L[j].1 : Int)) ∧ w.cell? ⟨b, off + j * 2 + 1, none⟩ = some (.int .i64 (L[j].2 : Int)) := by
                    rcases Nat.eq_zero_or_pos L.length with h0 | h0
                    · exact ⟨0, 0, fun h => absurd h (by omega), fun j h => absurd h (by omega)⟩
                    · obtain ⟨b, off, e, h⟩ := HLO.out h0
                      exact ⟨b, off, fun _ => e, h⟩
                  have PY := Lib.hid (plan_yes wr Fb g a va ha LA b off lc L (by omega) hA0 (fun j h => ⟨cell_below HM.out.bel (hops j h).1, cell_below HM.out.bel (hops j h).2⟩) (fun x hx => by rw [HN.out]; exact HIN.out x hx))
                  have HAR := Lib.hid ha
                  have BEL := Lib.hid HM.out.bel
                  clear ha hA0 hops hlt q9
                  go_wp2_with fail
                  refine PY.out.mono ?_
                  rintro e w5 ⟨⟨M, pm, om, hres⟩, b5⟩
                  have B5 : Hid (Below w.heap.size w w5) := BEL.out.trans (b5.mono BEL.out.size)
                  have hA2 := HAR.out.below b5
                  have OKB := ok_bad HLK.out (fun x hx => by rw [HN.out]; exact HIN.out x hx) pm om
                  clear b5 PY HAR
                  rcases hres with ⟨hok, v5, rfl, ho⟩ | ⟨⟨i, hi, hbad⟩, rfl⟩
                  · have E : bI (badK bits L L.length) = 0 := by rw [OKB.1 hok]; rfl
                    rw [E]
                    obtain ⟨A5, c5, rfl⟩ := own_slice ho
                    clear hok ho OKB E pm om HM
                    go_wp2_with fail
                    refine (plan_empty _ Fb g a _ hA2).mono ?_
                    rintro e w6 ⟨A6, c6, rfl, b6⟩
                    have B6 : Hid (Below w.heap.size w w6) := B5.out.trans (b6.mono B5.out.size)
                    clear b6 hA2
                    go_wp2_with fail
                    refine (lives16 _).mono ?_
                    rintro e w7 ⟨rfl, b7⟩
                    have B7 : Hid (Below w.heap.size w w7) := B6.out.trans (b7.mono B6.out.size)
                    clear b7
                    go_wp2
                    go_ret
                    exact ⟨rfl, B7.out⟩
                  · have E : bI (badK bits L L.length) = 8 := by
                      cases hb : badK bits L L.length with
                      | true => rfl
                      | false => rw [OKB.2 hb i hi] at hbad; cases hbad
                    rw [E]
                    clear hi hbad OKB E pm om HM
                    go_wp2_with fail
                    refine (plan_empty _ Fb g a _ hA2).mono ?_
                    rintro e w6 ⟨A6, c6, rfl, b6⟩
                    have B6 : Hid (Below w.heap.size w w6) := B5.out.trans (b6.mono B5.out.size)
                    clear b6 hA2
                    go_wp2_with fail
                    refine (lives16 _).mono ?_
                    rintro e w7 ⟨rfl, b7⟩
                    have B7 : Hid (Below w.heap.size w w7) := B6.out.trans (b7.mono B6.out.size)
                    clear b7
                    go_wp2
                    go_ret
                    exact ⟨rfl, B7.out⟩
end Go.Proofs.Ythloinmnojlleaa
