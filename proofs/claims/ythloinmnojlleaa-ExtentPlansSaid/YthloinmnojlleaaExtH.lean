/- ExtH: the walk of Alloc, rule by rule (written by gen_ext.py). -/
import Derived.Test.YthloinmnojlleaaExtG
set_option linter.unusedVariables false
set_option linter.unusedSimpArgs false
namespace Go.Proofs.Ythloinmnojlleaa
open Go.RowKit

/-- What Alloc did. -/
def AllocTo (w : World) (F : Nat → Prop) (g : Nat) (a : Ar) (n r : Nat) (e : Ending) (w' : World) : Prop :=
  match choose a.holes n (bet r a.next) a.holes.length with
  | none => e = .returned (.tuple #[.int .i64 0, .int .i64 5]) ∧ Below w.heap.size w w'
  | some j => e = .returned (.tuple #[.int .i64 ((a.holes.getD j (0, 0)).1 : Nat), .int .i64 0]) ∧ ∃ F', ArTo w F g { size := a.size, holes := cutL a.holes j (a.holes.getD j (0, 0)) (a.holes.getD j (0, 0)).1 n, next := if r = 3 then (a.holes.getD j (0, 0)).1 + n else a.next } w' F'
theorem ArTo.lift {w wr w5 : World} {F F' : Nat → Prop} {g : Nat} {a' : Ar} (ht : ArTo wr F g a' w5 F') (hb : Below w.heap.size w wr) : ArTo w F g a' w5 F' :=
  ⟨ht.has, fun k hk => (ht.new k hk).imp id (fun h => Nat.le_trans hb.size h), (Touch.of_below hb : Touch (fun k => k = g) w wr).trans ht.touch (fun _ _ h => h)⟩
theorem ArTo.setNext {w w5 : World} {F F' : Nat → Prop} {g : Nat} {a' : Ar} (ht : ArTo w F g a' w5 F') (x : Nat) (hx : x ≤ a'.size) : ArTo w F g { size := a'.size, holes := a'.holes, next := x } (w5.setCell ⟨g, 2, none⟩ (.int .i64 (x : Nat))) F' := by
  obtain ⟨⟨v, h⟩, hn, htt⟩ := ht
  have hne := own_ne_blk h.own h.blk (by decide)
  refine ⟨⟨v, ?_, ownsRow_setCell_other h.own (a := ⟨g, 2, none⟩) hne _, h.fg, h.fv, fun k hk => by have := h.lt k hk; simpa using this, ⟨h.ok.pos, h.ok.most, h.ok.lies, hx⟩⟩, hn, htt.setCell (p := ⟨g, 2, none⟩) (.inl rfl) _⟩
  rw [blk_set h.blk 2]; rfl
theorem better_0 (w : World) (g : Nat) : Calls Try.prog 28 #[.pointer (some ⟨g, 0, none⟩), .int .i64 0] w fun e w' => e = .returned (.func (.func 49) #[] #[]) ∧ Below w.heap.size w w' ∧ w'.cell? ⟨w.heap.size, 0, none⟩ = some (.pointer (some ⟨g, 0, none⟩)) := by
  have B1 : ∀ x, Hid (Below w.heap.size w (w.alloc x)) := fun x => (Below.refl _ w).alloc (Nat.le_refl _) x
  go_enter Try.func28, Try.ntmps28
  go_wp2
  go_ret
  exact ⟨rfl, (B1 _).out, blk_cell (blk_new w _) 0⟩
theorem better_1 (w : World) (g : Nat) : Calls Try.prog 28 #[.pointer (some ⟨g, 0, none⟩), .int .i64 1] w fun e w' => e = .returned (.func (.func 46) #[] #[]) ∧ Below w.heap.size w w' ∧ w'.cell? ⟨w.heap.size, 0, none⟩ = some (.pointer (some ⟨g, 0, none⟩)) := by
  have B1 : ∀ x, Hid (Below w.heap.size w (w.alloc x)) := fun x => (Below.refl _ w).alloc (Nat.le_refl _) x
  go_enter Try.func28, Try.ntmps28
  go_wp2
  go_ret
  exact ⟨rfl, (B1 _).out, blk_cell (blk_new w _) 0⟩
theorem better_2 (w : World) (g : Nat) : Calls Try.prog 28 #[.pointer (some ⟨g, 0, none⟩), .int .i64 2] w fun e w' => e = .returned (.func (.func 47) #[] #[]) ∧ Below w.heap.size w w' ∧ w'.cell? ⟨w.heap.size, 0, none⟩ = some (.pointer (some ⟨g, 0, none⟩)) := by
  have B1 : ∀ x, Hid (Below w.heap.size w (w.alloc x)) := fun x => (Below.refl _ w).alloc (Nat.le_refl _) x
  go_enter Try.func28, Try.ntmps28
  go_wp2
  go_ret
  exact ⟨rfl, (B1 _).out, blk_cell (blk_new w _) 0⟩
theorem better_3 (w : World) (g : Nat) : Calls Try.prog 28 #[.pointer (some ⟨g, 0, none⟩), .int .i64 3] w fun e w' => e = .returned (.func (.func 48) #[] #[.pointer (some ⟨w.heap.size, 0, none⟩)]) ∧ Below w.heap.size w w' ∧ w'.cell? ⟨w.heap.size, 0, none⟩ = some (.pointer (some ⟨g, 0, none⟩)) := by
  have B1 : ∀ x, Hid (Below w.heap.size w (w.alloc x)) := fun x => (Below.refl _ w).alloc (Nat.le_refl _) x
  go_enter Try.func28, Try.ntmps28
  go_wp2
  go_ret
  exact ⟨rfl, (B1 _).out, blk_cell (blk_new w _) 0⟩
set_option maxHeartbeats 6400000 in
set_option maxRecDepth 100000 in
theorem alloc_0 (w : World) (F : Nat → Prop) (g : Nat) (a : Ar) (v : Value) (h : IsAr w F g a v) (n : Nat) (hn : 1 ≤ n) :
    Calls Try.prog 11 #[.pointer (some ⟨g, 0, none⟩), .int .i64 n, .int .i64 0] w fun e w' => AllocTo w F g a n 0 e w' := by
  have H := Lib.hid h
  have few := h.ok.few
  have hmost := h.ok.most
  obtain ⟨A, cc, rfl⟩ := own_slice h.own
  have dn : decide ((n : Int) < 1) = false := by simp; omega
  clear h
  go_enter Try.func11, Try.ntmps11
  go_wp2_with fail
  refine (better_0 w g).mono ?_
  rintro e w1 ⟨rfl, b1, bx1⟩
  have B1 := Lib.hid b1
  have BX1 := Lib.hid bx1
  obtain ⟨_, c1, _⟩ := (H.out.below b1).cells
  clear b1 bx1
  go_wp2_with fail
  go_loopw [9, 35] (fun at_ i wr => ∃ k : Nat, k ≤ a.holes.length ∧ i = .int .i64 k ∧ at_ = .int .i64 (chI (choose a.holes n (bet 0 a.next) k)) ∧ Hid (Below w1.heap.size w1 wr)) (fun _ i _ => a.holes.length - (intOf i).toNat)
  case atStart => exact ⟨0, Nat.zero_le _, rfl, rfl, Below.refl _ _⟩
  case round =>
    obtain ⟨k, hk, rfl, rfl, hb⟩ := hrel
    have hsz : w1.heap.size ≤ wr.heap.size := hb.out.size
    have BW : Hid (Below w.heap.size w wr) := B1.out.trans (hb.out.mono B1.out.size)
    by_cases hlt : k < a.holes.length
    · obtain ⟨g1, c1', e1, _, _, hc⟩ := row_at H.out.own (by omega)
      injection e1 with e1 e2 e3
      subst e1 e3
      obtain ⟨z1, z2⟩ := hc k hlt
      have z1 := cell_below BW.out z1
      have z2 := cell_below BW.out z2
      have c1 := cell_below hb.out c1
      have HC := Lib.hid hc
      have hgw : g < wr.heap.size := World.block_lt_of_cell? _ _ c1
      have hg1w : g1 < wr.heap.size := World.block_lt_of_cell? _ _ z1
      have BA : ∀ o, Hid (Below w1.heap.size w1 (wr.alloc o)) := fun o => hb.out.alloc hsz o
      have NO : Hid (¬ n ≤ a.holes[k].2 → choose a.holes n (bet 0 a.next) (k + 1) = choose a.holes n (bet 0 a.next) k) := fun h => choose_no hlt h
      have FI : Hid (n ≤ a.holes[k].2 → choose a.holes n (bet 0 a.next) k = none → choose a.holes n (bet 0 a.next) (k + 1) = some k) := fun h h2 => choose_first hlt h h2
      have NE : Hid (∀ j (hj : j < a.holes.length), n ≤ a.holes[k].2 → choose a.holes n (bet 0 a.next) k = some j → ∀ v, bet 0 a.next a.holes[k] a.holes[j] = v → choose a.holes n (bet 0 a.next) (k + 1) = if v then some k else some j) := fun j hj h h2 v hv => choose_next hlt hj h h2 v hv
      clear hc e2
      generalize a.holes[k] = x at z1 z2 NO FI NE
      have r0 := blk_new wr (.cells #[.int .i64 (x.1 : Int), .int .i64 (x.2 : Int)] 30)
      have k0 := blk_cell r0 0; have k1 := blk_cell r0 1
      simp only [List.getElem?_toArray, List.getElem?_cons_zero, List.getElem?_cons_succ] at k0 k1
      clear r0
      by_cases hx : n ≤ x.2
      · have dx : decide ((n : Int) ≤ x.2) = true := by simpa using hx
        have dx' : decide (n ≤ x.2) = true := by simpa using hx
        cases hch : choose a.holes n (bet 0 a.next) k with
        | none =>
          have NX := Lib.hid (FI.out hx hch)
          clear NO FI NE hx hch
          rw [show chI none = -1 from rfl]
          go_wp2_with fail
          refine wp_region_flag (fun w' => w'.cell? ⟨wr.heap.size, 0, none⟩ = some (.int .i64 x.1) ∧ w'.cell? ⟨wr.heap.size, 1, none⟩ = some (.int .i64 x.2)) [(0, 1), (2, 1), (1, 0), (3, 1), (4, 1), (5, 1), (6, 1), (7, 1), (8, 1), (10, 1), (11, 1), (12, 1), (14, 1), (9, 2), (13, 0), (15, 1), (16, 0), (17, 0), (18, 1), (19, 1)] (by kernel_rfl) (by kernel_rfl) ⟨k0, k1⟩ ?_
          simp only [ordered, List.map_cons, List.map_nil, List.getD_cons_zero, List.getD_cons_succ]
          repeat (refine wpF_dry (fun K hK => ?_); go_simp; refine hK _ ?_; clear hK K)
          refine wpF_do ?_
          go_wp2_with fail
          refine ⟨⟨k0, k1⟩, ?_⟩
          repeat (refine wpF_dry (fun K hK => ?_); go_simp; refine hK _ ?_; clear hK K)
          refine wpF_skip (fun K hK => ?_)
          go_simp
          first | refine hK _ ?_ | refine ⟨(fun hh => by cases hh), hK _ ?_⟩
          clear hK K
          refine wpF_do ?_
          go_wp2_with fail
          refine ⟨⟨k0, k1⟩, ?_⟩
          repeat (refine wpF_dry (fun K hK => ?_); go_simp; refine hK _ ?_; clear hK K)
          refine wpF_do ?_
          go_wp2_with fail
          refine ⟨⟨k0, k1⟩, ?_⟩
          refine wpF_do ?_
          go_wp2_with fail
          refine ⟨⟨k0, k1⟩, ?_⟩
          repeat (refine wpF_dry (fun K hK => ?_); go_simp; refine hK _ ?_; clear hK K)
          refine wpF_nil ?_
          have BQ := (BA (.cells #[.int .i64 (x.1 : Int), .int .i64 (x.2 : Int)] 30)).out.drew
          go_wp2
          go_roundw
          case rel => exact ⟨k + 1, hlt, by go_num, by rw [NX.out]; rfl, BQ⟩
          case measure => simp [intOf]; omega
        | some j =>
          obtain ⟨hjk, _⟩ := choose_lt hch
          have hj : j < a.holes.length := by omega
          have NB := Lib.hid (NE.out j hj hx hch)
          obtain ⟨y1, y2⟩ := HC.out j hj
          have y1 := cell_below BW.out y1
          have y2 := cell_below BW.out y2
          clear NO FI NE hx hch
          generalize a.holes[j] = y at y1 y2 NB
          have HB : Hid (false = bet 0 a.next x y) := by unfold Hid; simp [bet]
          have dj : decide ((j : Int) < 0) = false := by simp
          rw [show chI (some j) = (j : Int) from rfl]
          go_wp2_with fail
          refine wp_region_flag (fun w' => w'.cell? ⟨wr.heap.size, 0, none⟩ = some (.int .i64 x.1) ∧ w'.cell? ⟨wr.heap.size, 1, none⟩ = some (.int .i64 x.2)) [(0, 1), (2, 1), (1, 0), (3, 1), (4, 1), (5, 1), (6, 1), (7, 1), (8, 1), (10, 1), (11, 1), (12, 1), (14, 1), (9, 2), (13, 0), (15, 1), (16, 0), (17, 0), (18, 1), (19, 1)] (by kernel_rfl) (by kernel_rfl) ⟨k0, k1⟩ ?_
          simp only [ordered, List.map_cons, List.map_nil, List.getD_cons_zero, List.getD_cons_succ]
          repeat (refine wpF_dry (fun K hK => ?_); go_simp; refine hK _ ?_; clear hK K)
          refine wpF_do ?_
          go_wp2_with fail
          refine ⟨⟨k0, k1⟩, ?_⟩
          repeat (refine wpF_dry (fun K hK => ?_); go_simp; refine hK _ ?_; clear hK K)
          refine wpF_read (.agg #[.int .i64 x.1, .int .i64 x.2]) rfl (fun w' hS => by obtain ⟨s1, s2⟩ := hS; go_simp) (fun K hK => ?_)
          go_simp
          refine hK _ ?_
          clear hK K
          refine wpF_do ?_
          go_wp2_with fail
          refine ⟨⟨k0, k1⟩, ?_⟩
          repeat (refine wpF_dry (fun K hK => ?_); go_simp; refine hK _ ?_; clear hK K)
          refine wpF_do ?_
          go_wp2_with fail
          refine ⟨⟨k0, k1⟩, ?_⟩
          refine wpF_do ?_
          go_wp2_with fail
          refine (better_first _ x.1 x.2 y.1 y.2).mono ?_
          rintro e w4 ⟨rfl, b4⟩
          have BQ : Hid (Below w1.heap.size w1 w4) := (BA _).out.drew.trans (b4.mono (BA _).out.drew.size)
          have k0 := cell_below b4 k0; have k1 := cell_below b4 k1
          clear b4
          have NX := Lib.hid (NB.out false HB.out.symm)
          go_wp2_with fail
          refine ⟨⟨k0, k1⟩, ?_⟩
          repeat (refine wpF_dry (fun K hK => ?_); go_simp; refine hK _ ?_; clear hK K)
          refine wpF_nil ?_
          go_wp2
          go_roundw
          case rel => exact ⟨k + 1, hlt, by go_num, by rw [NX.out]; rfl, BQ⟩
          case measure => simp [intOf]; omega
      · have dx : decide ((n : Int) ≤ x.2) = false := by simpa using hx
        have dx' : decide (n ≤ x.2) = false := by simpa using hx
        have NX := Lib.hid (NO.out hx)
        clear NO FI NE hx
        generalize hq : chI (choose a.holes n (bet 0 a.next) k) = qk at NX ⊢
        have NX : Hid (chI (choose a.holes n (bet 0 a.next) (k + 1)) = qk) := by unfold Hid; rw [NX.out, hq]
        clear hq
        go_wp2_with fail
        refine wp_region_flag (fun w' => w'.cell? ⟨wr.heap.size, 0, none⟩ = some (.int .i64 x.1) ∧ w'.cell? ⟨wr.heap.size, 1, none⟩ = some (.int .i64 x.2)) [(0, 1), (2, 1), (1, 0), (3, 1), (4, 1), (5, 1), (6, 1), (7, 1), (8, 1), (10, 1), (11, 1), (12, 1), (14, 1), (9, 2), (13, 0), (15, 1), (16, 0), (17, 0), (18, 1), (19, 1)] (by kernel_rfl) (by kernel_rfl) ⟨k0, k1⟩ ?_
        simp only [ordered, List.map_cons, List.map_nil, List.getD_cons_zero, List.getD_cons_succ]
        repeat (refine wpF_dry (fun K hK => ?_); go_simp; refine hK _ ?_; clear hK K)
        refine wpF_do ?_
        go_wp2_with fail
        refine ⟨⟨k0, k1⟩, ?_⟩
        repeat (refine wpF_dry (fun K hK => ?_); go_simp; refine hK _ ?_; clear hK K)
        refine wpF_skip (fun K hK => ?_)
        go_simp
        first | refine hK _ ?_ | refine ⟨(fun hh => by cases hh), hK _ ?_⟩
        clear hK K
        refine wpF_do ?_
        go_wp2_with fail
        refine ⟨⟨k0, k1⟩, ?_⟩
        repeat (refine wpF_dry (fun K hK => ?_); go_simp; refine hK _ ?_; clear hK K)
        refine wpF_do ?_
        go_wp2_with fail
        refine ⟨⟨k0, k1⟩, ?_⟩
        refine wpF_do ?_
        go_wp2_with fail
        refine ⟨⟨k0, k1⟩, ?_⟩
        repeat (refine wpF_dry (fun K hK => ?_); go_simp; refine hK _ ?_; clear hK K)
        refine wpF_nil ?_
        have BQ := (BA (.cells #[.int .i64 (x.1 : Int), .int .i64 (x.2 : Int)] 30)).out.drew
        go_wp2
        go_roundw
        case rel => exact ⟨k + 1, hlt, by go_num, by rw [NX.out], BQ⟩
        case measure => simp [intOf]; omega
    · obtain rfl : k = a.holes.length := by omega
      have APOST : ∀ e w', AllocTo w F g a n 0 e w' = AllocTo w F g a n 0 e w' := fun _ _ => rfl
      cases hch : choose a.holes n (bet 0 a.next) a.holes.length with
      | none =>
        have HCH := Lib.hid hch
        clear hch
        rw [show chI none = -1 from rfl]
        go_wp2
        go_ret2
        unfold AllocTo
        rw [HCH.out]
        exact ⟨rfl, BW.out⟩
      | some j =>
        obtain ⟨hj, hn2⟩ := choose_lt hch
        have HCH := Lib.hid hch
        obtain ⟨g1, c1', e1, _, _, hc⟩ := row_at H.out.own (by omega)
        injection e1 with e1 e2 e3
        subst e1 e3
        obtain ⟨y1, y2⟩ := hc j hj
        have y1 := cell_below BW.out y1
        have y2 := cell_below BW.out y2
        have c1 := cell_below hb.out c1
        have dj : decide ((j : Int) < 0) = false := by simp
        have eg : a.holes.getD j (0, 0) = a.holes[j] := by simp [hj]
        rw [eg] at hn2
        have CU := Lib.hid (cut_any wr F g a _ (H.out.below BW.out) j hj a.holes[j].1 n (Nat.le_refl _) hn (by omega))
        have EG := Lib.hid eg
        have hin := (lies_get H.out.ok.lies j hj).2.2
        clear hch hc e2 eg
        generalize a.holes[j] = y at y1 y2 CU EG hin hn2
        rw [show chI (some j) = (j : Int) from rfl]
        go_wp2_with fail
        refine CU.out.mono ?_
        rintro e w5 ⟨rfl, F', ht⟩
        have HT : Hid (ArTo w F g { a with holes := cutL a.holes j y y.1 n } w5 F') := ht.lift BW.out
        clear ht CU
        go_wp2
        go_ret2
        unfold AllocTo
        rw [HCH.out]
        dsimp only
        rw [EG.out]
        exact ⟨rfl, F', HT.out⟩
set_option maxHeartbeats 6400000 in
set_option maxRecDepth 100000 in
theorem alloc_1 (w : World) (F : Nat → Prop) (g : Nat) (a : Ar) (v : Value) (h : IsAr w F g a v) (n : Nat) (hn : 1 ≤ n) :
    Calls Try.prog 11 #[.pointer (some ⟨g, 0, none⟩), .int .i64 n, .int .i64 1] w fun e w' => AllocTo w F g a n 1 e w' := by
  have H := Lib.hid h
  have few := h.ok.few
  have hmost := h.ok.most
  obtain ⟨A, cc, rfl⟩ := own_slice h.own
  have dn : decide ((n : Int) < 1) = false := by simp; omega
  clear h
  go_enter Try.func11, Try.ntmps11
  go_wp2_with fail
  refine (better_1 w g).mono ?_
  rintro e w1 ⟨rfl, b1, bx1⟩
  have B1 := Lib.hid b1
  have BX1 := Lib.hid bx1
  obtain ⟨_, c1, _⟩ := (H.out.below b1).cells
  clear b1 bx1
  go_wp2_with fail
  go_loopw [9, 35] (fun at_ i wr => ∃ k : Nat, k ≤ a.holes.length ∧ i = .int .i64 k ∧ at_ = .int .i64 (chI (choose a.holes n (bet 1 a.next) k)) ∧ Hid (Below w1.heap.size w1 wr)) (fun _ i _ => a.holes.length - (intOf i).toNat)
  case atStart => exact ⟨0, Nat.zero_le _, rfl, rfl, Below.refl _ _⟩
  case round =>
    obtain ⟨k, hk, rfl, rfl, hb⟩ := hrel
    have hsz : w1.heap.size ≤ wr.heap.size := hb.out.size
    have BW : Hid (Below w.heap.size w wr) := B1.out.trans (hb.out.mono B1.out.size)
    by_cases hlt : k < a.holes.length
    · obtain ⟨g1, c1', e1, _, _, hc⟩ := row_at H.out.own (by omega)
      injection e1 with e1 e2 e3
      subst e1 e3
      obtain ⟨z1, z2⟩ := hc k hlt
      have z1 := cell_below BW.out z1
      have z2 := cell_below BW.out z2
      have c1 := cell_below hb.out c1
      have HC := Lib.hid hc
      have hgw : g < wr.heap.size := World.block_lt_of_cell? _ _ c1
      have hg1w : g1 < wr.heap.size := World.block_lt_of_cell? _ _ z1
      have BA : ∀ o, Hid (Below w1.heap.size w1 (wr.alloc o)) := fun o => hb.out.alloc hsz o
      have NO : Hid (¬ n ≤ a.holes[k].2 → choose a.holes n (bet 1 a.next) (k + 1) = choose a.holes n (bet 1 a.next) k) := fun h => choose_no hlt h
      have FI : Hid (n ≤ a.holes[k].2 → choose a.holes n (bet 1 a.next) k = none → choose a.holes n (bet 1 a.next) (k + 1) = some k) := fun h h2 => choose_first hlt h h2
      have NE : Hid (∀ j (hj : j < a.holes.length), n ≤ a.holes[k].2 → choose a.holes n (bet 1 a.next) k = some j → ∀ v, bet 1 a.next a.holes[k] a.holes[j] = v → choose a.holes n (bet 1 a.next) (k + 1) = if v then some k else some j) := fun j hj h h2 v hv => choose_next hlt hj h h2 v hv
      clear hc e2
      generalize a.holes[k] = x at z1 z2 NO FI NE
      have r0 := blk_new wr (.cells #[.int .i64 (x.1 : Int), .int .i64 (x.2 : Int)] 30)
      have k0 := blk_cell r0 0; have k1 := blk_cell r0 1
      simp only [List.getElem?_toArray, List.getElem?_cons_zero, List.getElem?_cons_succ] at k0 k1
      clear r0
      by_cases hx : n ≤ x.2
      · have dx : decide ((n : Int) ≤ x.2) = true := by simpa using hx
        have dx' : decide (n ≤ x.2) = true := by simpa using hx
        cases hch : choose a.holes n (bet 1 a.next) k with
        | none =>
          have NX := Lib.hid (FI.out hx hch)
          clear NO FI NE hx hch
          rw [show chI none = -1 from rfl]
          go_wp2_with fail
          refine wp_region_flag (fun w' => w'.cell? ⟨wr.heap.size, 0, none⟩ = some (.int .i64 x.1) ∧ w'.cell? ⟨wr.heap.size, 1, none⟩ = some (.int .i64 x.2)) [(0, 1), (2, 1), (1, 0), (3, 1), (4, 1), (5, 1), (6, 1), (7, 1), (8, 1), (10, 1), (11, 1), (12, 1), (14, 1), (9, 2), (13, 0), (15, 1), (16, 0), (17, 0), (18, 1), (19, 1)] (by kernel_rfl) (by kernel_rfl) ⟨k0, k1⟩ ?_
          simp only [ordered, List.map_cons, List.map_nil, List.getD_cons_zero, List.getD_cons_succ]
          repeat (refine wpF_dry (fun K hK => ?_); go_simp; refine hK _ ?_; clear hK K)
          refine wpF_do ?_
          go_wp2_with fail
          refine ⟨⟨k0, k1⟩, ?_⟩
          repeat (refine wpF_dry (fun K hK => ?_); go_simp; refine hK _ ?_; clear hK K)
          refine wpF_skip (fun K hK => ?_)
          go_simp
          first | refine hK _ ?_ | refine ⟨(fun hh => by cases hh), hK _ ?_⟩
          clear hK K
          refine wpF_do ?_
          go_wp2_with fail
          refine ⟨⟨k0, k1⟩, ?_⟩
          repeat (refine wpF_dry (fun K hK => ?_); go_simp; refine hK _ ?_; clear hK K)
          refine wpF_do ?_
          go_wp2_with fail
          refine ⟨⟨k0, k1⟩, ?_⟩
          refine wpF_do ?_
          go_wp2_with fail
          refine ⟨⟨k0, k1⟩, ?_⟩
          repeat (refine wpF_dry (fun K hK => ?_); go_simp; refine hK _ ?_; clear hK K)
          refine wpF_nil ?_
          have BQ := (BA (.cells #[.int .i64 (x.1 : Int), .int .i64 (x.2 : Int)] 30)).out.drew
          go_wp2
          go_roundw
          case rel => exact ⟨k + 1, hlt, by go_num, by rw [NX.out]; rfl, BQ⟩
          case measure => simp [intOf]; omega
        | some j =>
          obtain ⟨hjk, _⟩ := choose_lt hch
          have hj : j < a.holes.length := by omega
          have NB := Lib.hid (NE.out j hj hx hch)
          obtain ⟨y1, y2⟩ := HC.out j hj
          have y1 := cell_below BW.out y1
          have y2 := cell_below BW.out y2
          clear NO FI NE hx hch
          generalize a.holes[j] = y at y1 y2 NB
          have HB : Hid (decide ((x.2 : Int) < (y.2 : Int)) = bet 1 a.next x y) := by unfold Hid; simp [bet]
          have dj : decide ((j : Int) < 0) = false := by simp
          rw [show chI (some j) = (j : Int) from rfl]
          go_wp2_with fail
          refine wp_region_flag (fun w' => w'.cell? ⟨wr.heap.size, 0, none⟩ = some (.int .i64 x.1) ∧ w'.cell? ⟨wr.heap.size, 1, none⟩ = some (.int .i64 x.2)) [(0, 1), (2, 1), (1, 0), (3, 1), (4, 1), (5, 1), (6, 1), (7, 1), (8, 1), (10, 1), (11, 1), (12, 1), (14, 1), (9, 2), (13, 0), (15, 1), (16, 0), (17, 0), (18, 1), (19, 1)] (by kernel_rfl) (by kernel_rfl) ⟨k0, k1⟩ ?_
          simp only [ordered, List.map_cons, List.map_nil, List.getD_cons_zero, List.getD_cons_succ]
          repeat (refine wpF_dry (fun K hK => ?_); go_simp; refine hK _ ?_; clear hK K)
          refine wpF_do ?_
          go_wp2_with fail
          refine ⟨⟨k0, k1⟩, ?_⟩
          repeat (refine wpF_dry (fun K hK => ?_); go_simp; refine hK _ ?_; clear hK K)
          refine wpF_read (.agg #[.int .i64 x.1, .int .i64 x.2]) rfl (fun w' hS => by obtain ⟨s1, s2⟩ := hS; go_simp) (fun K hK => ?_)
          go_simp
          refine hK _ ?_
          clear hK K
          refine wpF_do ?_
          go_wp2_with fail
          refine ⟨⟨k0, k1⟩, ?_⟩
          repeat (refine wpF_dry (fun K hK => ?_); go_simp; refine hK _ ?_; clear hK K)
          refine wpF_do ?_
          go_wp2_with fail
          refine ⟨⟨k0, k1⟩, ?_⟩
          refine wpF_do ?_
          go_wp2_with fail
          refine (better_best _ x.1 x.2 y.1 y.2).mono ?_
          rintro e w4 ⟨rfl, b4⟩
          have BQ : Hid (Below w1.heap.size w1 w4) := (BA _).out.drew.trans (b4.mono (BA _).out.drew.size)
          have k0 := cell_below b4 k0; have k1 := cell_below b4 k1
          clear b4
          rw [HB.out]
          cases hbv : bet 1 a.next x y
          all_goals
            have NX := Lib.hid (NB.out _ hbv)
            clear hbv
            go_wp2_with fail
            refine ⟨⟨k0, k1⟩, ?_⟩
            repeat (refine wpF_dry (fun K hK => ?_); go_simp; refine hK _ ?_; clear hK K)
            refine wpF_nil ?_
            go_wp2
            go_roundw
            case rel => exact ⟨k + 1, hlt, by go_num, by rw [NX.out]; rfl, BQ⟩
            case measure => simp [intOf]; omega
      · have dx : decide ((n : Int) ≤ x.2) = false := by simpa using hx
        have dx' : decide (n ≤ x.2) = false := by simpa using hx
        have NX := Lib.hid (NO.out hx)
        clear NO FI NE hx
        generalize hq : chI (choose a.holes n (bet 1 a.next) k) = qk at NX ⊢
        have NX : Hid (chI (choose a.holes n (bet 1 a.next) (k + 1)) = qk) := by unfold Hid; rw [NX.out, hq]
        clear hq
        go_wp2_with fail
        refine wp_region_flag (fun w' => w'.cell? ⟨wr.heap.size, 0, none⟩ = some (.int .i64 x.1) ∧ w'.cell? ⟨wr.heap.size, 1, none⟩ = some (.int .i64 x.2)) [(0, 1), (2, 1), (1, 0), (3, 1), (4, 1), (5, 1), (6, 1), (7, 1), (8, 1), (10, 1), (11, 1), (12, 1), (14, 1), (9, 2), (13, 0), (15, 1), (16, 0), (17, 0), (18, 1), (19, 1)] (by kernel_rfl) (by kernel_rfl) ⟨k0, k1⟩ ?_
        simp only [ordered, List.map_cons, List.map_nil, List.getD_cons_zero, List.getD_cons_succ]
        repeat (refine wpF_dry (fun K hK => ?_); go_simp; refine hK _ ?_; clear hK K)
        refine wpF_do ?_
        go_wp2_with fail
        refine ⟨⟨k0, k1⟩, ?_⟩
        repeat (refine wpF_dry (fun K hK => ?_); go_simp; refine hK _ ?_; clear hK K)
        refine wpF_skip (fun K hK => ?_)
        go_simp
        first | refine hK _ ?_ | refine ⟨(fun hh => by cases hh), hK _ ?_⟩
        clear hK K
        refine wpF_do ?_
        go_wp2_with fail
        refine ⟨⟨k0, k1⟩, ?_⟩
        repeat (refine wpF_dry (fun K hK => ?_); go_simp; refine hK _ ?_; clear hK K)
        refine wpF_do ?_
        go_wp2_with fail
        refine ⟨⟨k0, k1⟩, ?_⟩
        refine wpF_do ?_
        go_wp2_with fail
        refine ⟨⟨k0, k1⟩, ?_⟩
        repeat (refine wpF_dry (fun K hK => ?_); go_simp; refine hK _ ?_; clear hK K)
        refine wpF_nil ?_
        have BQ := (BA (.cells #[.int .i64 (x.1 : Int), .int .i64 (x.2 : Int)] 30)).out.drew
        go_wp2
        go_roundw
        case rel => exact ⟨k + 1, hlt, by go_num, by rw [NX.out], BQ⟩
        case measure => simp [intOf]; omega
    · obtain rfl : k = a.holes.length := by omega
      have APOST : ∀ e w', AllocTo w F g a n 1 e w' = AllocTo w F g a n 1 e w' := fun _ _ => rfl
      cases hch : choose a.holes n (bet 1 a.next) a.holes.length with
      | none =>
        have HCH := Lib.hid hch
        clear hch
        rw [show chI none = -1 from rfl]
        go_wp2
        go_ret2
        unfold AllocTo
        rw [HCH.out]
        exact ⟨rfl, BW.out⟩
      | some j =>
        obtain ⟨hj, hn2⟩ := choose_lt hch
        have HCH := Lib.hid hch
        obtain ⟨g1, c1', e1, _, _, hc⟩ := row_at H.out.own (by omega)
        injection e1 with e1 e2 e3
        subst e1 e3
        obtain ⟨y1, y2⟩ := hc j hj
        have y1 := cell_below BW.out y1
        have y2 := cell_below BW.out y2
        have c1 := cell_below hb.out c1
        have dj : decide ((j : Int) < 0) = false := by simp
        have eg : a.holes.getD j (0, 0) = a.holes[j] := by simp [hj]
        rw [eg] at hn2
        have CU := Lib.hid (cut_any wr F g a _ (H.out.below BW.out) j hj a.holes[j].1 n (Nat.le_refl _) hn (by omega))
        have EG := Lib.hid eg
        have hin := (lies_get H.out.ok.lies j hj).2.2
        clear hch hc e2 eg
        generalize a.holes[j] = y at y1 y2 CU EG hin hn2
        rw [show chI (some j) = (j : Int) from rfl]
        go_wp2_with fail
        refine CU.out.mono ?_
        rintro e w5 ⟨rfl, F', ht⟩
        have HT : Hid (ArTo w F g { a with holes := cutL a.holes j y y.1 n } w5 F') := ht.lift BW.out
        clear ht CU
        go_wp2
        go_ret2
        unfold AllocTo
        rw [HCH.out]
        dsimp only
        rw [EG.out]
        exact ⟨rfl, F', HT.out⟩
set_option maxHeartbeats 6400000 in
set_option maxRecDepth 100000 in
theorem alloc_2 (w : World) (F : Nat → Prop) (g : Nat) (a : Ar) (v : Value) (h : IsAr w F g a v) (n : Nat) (hn : 1 ≤ n) :
    Calls Try.prog 11 #[.pointer (some ⟨g, 0, none⟩), .int .i64 n, .int .i64 2] w fun e w' => AllocTo w F g a n 2 e w' := by
  have H := Lib.hid h
  have few := h.ok.few
  have hmost := h.ok.most
  obtain ⟨A, cc, rfl⟩ := own_slice h.own
  have dn : decide ((n : Int) < 1) = false := by simp; omega
  clear h
  go_enter Try.func11, Try.ntmps11
  go_wp2_with fail
  refine (better_2 w g).mono ?_
  rintro e w1 ⟨rfl, b1, bx1⟩
  have B1 := Lib.hid b1
  have BX1 := Lib.hid bx1
  obtain ⟨_, c1, _⟩ := (H.out.below b1).cells
  clear b1 bx1
  go_wp2_with fail
  go_loopw [9, 35] (fun at_ i wr => ∃ k : Nat, k ≤ a.holes.length ∧ i = .int .i64 k ∧ at_ = .int .i64 (chI (choose a.holes n (bet 2 a.next) k)) ∧ Hid (Below w1.heap.size w1 wr)) (fun _ i _ => a.holes.length - (intOf i).toNat)
  case atStart => exact ⟨0, Nat.zero_le _, rfl, rfl, Below.refl _ _⟩
  case round =>
    obtain ⟨k, hk, rfl, rfl, hb⟩ := hrel
    have hsz : w1.heap.size ≤ wr.heap.size := hb.out.size
    have BW : Hid (Below w.heap.size w wr) := B1.out.trans (hb.out.mono B1.out.size)
    by_cases hlt : k < a.holes.length
    · obtain ⟨g1, c1', e1, _, _, hc⟩ := row_at H.out.own (by omega)
      injection e1 with e1 e2 e3
      subst e1 e3
      obtain ⟨z1, z2⟩ := hc k hlt
      have z1 := cell_below BW.out z1
      have z2 := cell_below BW.out z2
      have c1 := cell_below hb.out c1
      have HC := Lib.hid hc
      have hgw : g < wr.heap.size := World.block_lt_of_cell? _ _ c1
      have hg1w : g1 < wr.heap.size := World.block_lt_of_cell? _ _ z1
      have BA : ∀ o, Hid (Below w1.heap.size w1 (wr.alloc o)) := fun o => hb.out.alloc hsz o
      have NO : Hid (¬ n ≤ a.holes[k].2 → choose a.holes n (bet 2 a.next) (k + 1) = choose a.holes n (bet 2 a.next) k) := fun h => choose_no hlt h
      have FI : Hid (n ≤ a.holes[k].2 → choose a.holes n (bet 2 a.next) k = none → choose a.holes n (bet 2 a.next) (k + 1) = some k) := fun h h2 => choose_first hlt h h2
      have NE : Hid (∀ j (hj : j < a.holes.length), n ≤ a.holes[k].2 → choose a.holes n (bet 2 a.next) k = some j → ∀ v, bet 2 a.next a.holes[k] a.holes[j] = v → choose a.holes n (bet 2 a.next) (k + 1) = if v then some k else some j) := fun j hj h h2 v hv => choose_next hlt hj h h2 v hv
      clear hc e2
      generalize a.holes[k] = x at z1 z2 NO FI NE
      have r0 := blk_new wr (.cells #[.int .i64 (x.1 : Int), .int .i64 (x.2 : Int)] 30)
      have k0 := blk_cell r0 0; have k1 := blk_cell r0 1
      simp only [List.getElem?_toArray, List.getElem?_cons_zero, List.getElem?_cons_succ] at k0 k1
      clear r0
      by_cases hx : n ≤ x.2
      · have dx : decide ((n : Int) ≤ x.2) = true := by simpa using hx
        have dx' : decide (n ≤ x.2) = true := by simpa using hx
        cases hch : choose a.holes n (bet 2 a.next) k with
        | none =>
          have NX := Lib.hid (FI.out hx hch)
          clear NO FI NE hx hch
          rw [show chI none = -1 from rfl]
          go_wp2_with fail
          refine wp_region_flag (fun w' => w'.cell? ⟨wr.heap.size, 0, none⟩ = some (.int .i64 x.1) ∧ w'.cell? ⟨wr.heap.size, 1, none⟩ = some (.int .i64 x.2)) [(0, 1), (2, 1), (1, 0), (3, 1), (4, 1), (5, 1), (6, 1), (7, 1), (8, 1), (10, 1), (11, 1), (12, 1), (14, 1), (9, 2), (13, 0), (15, 1), (16, 0), (17, 0), (18, 1), (19, 1)] (by kernel_rfl) (by kernel_rfl) ⟨k0, k1⟩ ?_
          simp only [ordered, List.map_cons, List.map_nil, List.getD_cons_zero, List.getD_cons_succ]
          repeat (refine wpF_dry (fun K hK => ?_); go_simp; refine hK _ ?_; clear hK K)
          refine wpF_do ?_
          go_wp2_with fail
          refine ⟨⟨k0, k1⟩, ?_⟩
          repeat (refine wpF_dry (fun K hK => ?_); go_simp; refine hK _ ?_; clear hK K)
          refine wpF_skip (fun K hK => ?_)
          go_simp
          first | refine hK _ ?_ | refine ⟨(fun hh => by cases hh), hK _ ?_⟩
          clear hK K
          refine wpF_do ?_
          go_wp2_with fail
          refine ⟨⟨k0, k1⟩, ?_⟩
          repeat (refine wpF_dry (fun K hK => ?_); go_simp; refine hK _ ?_; clear hK K)
          refine wpF_do ?_
          go_wp2_with fail
          refine ⟨⟨k0, k1⟩, ?_⟩
          refine wpF_do ?_
          go_wp2_with fail
          refine ⟨⟨k0, k1⟩, ?_⟩
          repeat (refine wpF_dry (fun K hK => ?_); go_simp; refine hK _ ?_; clear hK K)
          refine wpF_nil ?_
          have BQ := (BA (.cells #[.int .i64 (x.1 : Int), .int .i64 (x.2 : Int)] 30)).out.drew
          go_wp2
          go_roundw
          case rel => exact ⟨k + 1, hlt, by go_num, by rw [NX.out]; rfl, BQ⟩
          case measure => simp [intOf]; omega
        | some j =>
          obtain ⟨hjk, _⟩ := choose_lt hch
          have hj : j < a.holes.length := by omega
          have NB := Lib.hid (NE.out j hj hx hch)
          obtain ⟨y1, y2⟩ := HC.out j hj
          have y1 := cell_below BW.out y1
          have y2 := cell_below BW.out y2
          clear NO FI NE hx hch
          generalize a.holes[j] = y at y1 y2 NB
          have HB : Hid (decide ((y.2 : Int) < (x.2 : Int)) = bet 2 a.next x y) := by unfold Hid; simp [bet]
          have dj : decide ((j : Int) < 0) = false := by simp
          rw [show chI (some j) = (j : Int) from rfl]
          go_wp2_with fail
          refine wp_region_flag (fun w' => w'.cell? ⟨wr.heap.size, 0, none⟩ = some (.int .i64 x.1) ∧ w'.cell? ⟨wr.heap.size, 1, none⟩ = some (.int .i64 x.2)) [(0, 1), (2, 1), (1, 0), (3, 1), (4, 1), (5, 1), (6, 1), (7, 1), (8, 1), (10, 1), (11, 1), (12, 1), (14, 1), (9, 2), (13, 0), (15, 1), (16, 0), (17, 0), (18, 1), (19, 1)] (by kernel_rfl) (by kernel_rfl) ⟨k0, k1⟩ ?_
          simp only [ordered, List.map_cons, List.map_nil, List.getD_cons_zero, List.getD_cons_succ]
          repeat (refine wpF_dry (fun K hK => ?_); go_simp; refine hK _ ?_; clear hK K)
          refine wpF_do ?_
          go_wp2_with fail
          refine ⟨⟨k0, k1⟩, ?_⟩
          repeat (refine wpF_dry (fun K hK => ?_); go_simp; refine hK _ ?_; clear hK K)
          refine wpF_read (.agg #[.int .i64 x.1, .int .i64 x.2]) rfl (fun w' hS => by obtain ⟨s1, s2⟩ := hS; go_simp) (fun K hK => ?_)
          go_simp
          refine hK _ ?_
          clear hK K
          refine wpF_do ?_
          go_wp2_with fail
          refine ⟨⟨k0, k1⟩, ?_⟩
          repeat (refine wpF_dry (fun K hK => ?_); go_simp; refine hK _ ?_; clear hK K)
          refine wpF_do ?_
          go_wp2_with fail
          refine ⟨⟨k0, k1⟩, ?_⟩
          refine wpF_do ?_
          go_wp2_with fail
          refine (better_worst _ x.1 x.2 y.1 y.2).mono ?_
          rintro e w4 ⟨rfl, b4⟩
          have BQ : Hid (Below w1.heap.size w1 w4) := (BA _).out.drew.trans (b4.mono (BA _).out.drew.size)
          have k0 := cell_below b4 k0; have k1 := cell_below b4 k1
          clear b4
          rw [HB.out]
          cases hbv : bet 2 a.next x y
          all_goals
            have NX := Lib.hid (NB.out _ hbv)
            clear hbv
            go_wp2_with fail
            refine ⟨⟨k0, k1⟩, ?_⟩
            repeat (refine wpF_dry (fun K hK => ?_); go_simp; refine hK _ ?_; clear hK K)
            refine wpF_nil ?_
            go_wp2
            go_roundw
            case rel => exact ⟨k + 1, hlt, by go_num, by rw [NX.out]; rfl, BQ⟩
            case measure => simp [intOf]; omega
      · have dx : decide ((n : Int) ≤ x.2) = false := by simpa using hx
        have dx' : decide (n ≤ x.2) = false := by simpa using hx
        have NX := Lib.hid (NO.out hx)
        clear NO FI NE hx
        generalize hq : chI (choose a.holes n (bet 2 a.next) k) = qk at NX ⊢
        have NX : Hid (chI (choose a.holes n (bet 2 a.next) (k + 1)) = qk) := by unfold Hid; rw [NX.out, hq]
        clear hq
        go_wp2_with fail
        refine wp_region_flag (fun w' => w'.cell? ⟨wr.heap.size, 0, none⟩ = some (.int .i64 x.1) ∧ w'.cell? ⟨wr.heap.size, 1, none⟩ = some (.int .i64 x.2)) [(0, 1), (2, 1), (1, 0), (3, 1), (4, 1), (5, 1), (6, 1), (7, 1), (8, 1), (10, 1), (11, 1), (12, 1), (14, 1), (9, 2), (13, 0), (15, 1), (16, 0), (17, 0), (18, 1), (19, 1)] (by kernel_rfl) (by kernel_rfl) ⟨k0, k1⟩ ?_
        simp only [ordered, List.map_cons, List.map_nil, List.getD_cons_zero, List.getD_cons_succ]
        repeat (refine wpF_dry (fun K hK => ?_); go_simp; refine hK _ ?_; clear hK K)
        refine wpF_do ?_
        go_wp2_with fail
        refine ⟨⟨k0, k1⟩, ?_⟩
        repeat (refine wpF_dry (fun K hK => ?_); go_simp; refine hK _ ?_; clear hK K)
        refine wpF_skip (fun K hK => ?_)
        go_simp
        first | refine hK _ ?_ | refine ⟨(fun hh => by cases hh), hK _ ?_⟩
        clear hK K
        refine wpF_do ?_
        go_wp2_with fail
        refine ⟨⟨k0, k1⟩, ?_⟩
        repeat (refine wpF_dry (fun K hK => ?_); go_simp; refine hK _ ?_; clear hK K)
        refine wpF_do ?_
        go_wp2_with fail
        refine ⟨⟨k0, k1⟩, ?_⟩
        refine wpF_do ?_
        go_wp2_with fail
        refine ⟨⟨k0, k1⟩, ?_⟩
        repeat (refine wpF_dry (fun K hK => ?_); go_simp; refine hK _ ?_; clear hK K)
        refine wpF_nil ?_
        have BQ := (BA (.cells #[.int .i64 (x.1 : Int), .int .i64 (x.2 : Int)] 30)).out.drew
        go_wp2
        go_roundw
        case rel => exact ⟨k + 1, hlt, by go_num, by rw [NX.out], BQ⟩
        case measure => simp [intOf]; omega
    · obtain rfl : k = a.holes.length := by omega
      have APOST : ∀ e w', AllocTo w F g a n 2 e w' = AllocTo w F g a n 2 e w' := fun _ _ => rfl
      cases hch : choose a.holes n (bet 2 a.next) a.holes.length with
      | none =>
        have HCH := Lib.hid hch
        clear hch
        rw [show chI none = -1 from rfl]
        go_wp2
        go_ret2
        unfold AllocTo
        rw [HCH.out]
        exact ⟨rfl, BW.out⟩
      | some j =>
        obtain ⟨hj, hn2⟩ := choose_lt hch
        have HCH := Lib.hid hch
        obtain ⟨g1, c1', e1, _, _, hc⟩ := row_at H.out.own (by omega)
        injection e1 with e1 e2 e3
        subst e1 e3
        obtain ⟨y1, y2⟩ := hc j hj
        have y1 := cell_below BW.out y1
        have y2 := cell_below BW.out y2
        have c1 := cell_below hb.out c1
        have dj : decide ((j : Int) < 0) = false := by simp
        have eg : a.holes.getD j (0, 0) = a.holes[j] := by simp [hj]
        rw [eg] at hn2
        have CU := Lib.hid (cut_any wr F g a _ (H.out.below BW.out) j hj a.holes[j].1 n (Nat.le_refl _) hn (by omega))
        have EG := Lib.hid eg
        have hin := (lies_get H.out.ok.lies j hj).2.2
        clear hch hc e2 eg
        generalize a.holes[j] = y at y1 y2 CU EG hin hn2
        rw [show chI (some j) = (j : Int) from rfl]
        go_wp2_with fail
        refine CU.out.mono ?_
        rintro e w5 ⟨rfl, F', ht⟩
        have HT : Hid (ArTo w F g { a with holes := cutL a.holes j y y.1 n } w5 F') := ht.lift BW.out
        clear ht CU
        go_wp2
        go_ret2
        unfold AllocTo
        rw [HCH.out]
        dsimp only
        rw [EG.out]
        exact ⟨rfl, F', HT.out⟩
set_option maxHeartbeats 6400000 in
set_option maxRecDepth 100000 in
theorem alloc_3 (w : World) (F : Nat → Prop) (g : Nat) (a : Ar) (v : Value) (h : IsAr w F g a v) (n : Nat) (hn : 1 ≤ n) :
    Calls Try.prog 11 #[.pointer (some ⟨g, 0, none⟩), .int .i64 n, .int .i64 3] w fun e w' => AllocTo w F g a n 3 e w' := by
  have H := Lib.hid h
  have few := h.ok.few
  have hmost := h.ok.most
  obtain ⟨A, cc, rfl⟩ := own_slice h.own
  have dn : decide ((n : Int) < 1) = false := by simp; omega
  clear h
  go_enter Try.func11, Try.ntmps11
  go_wp2_with fail
  refine (better_3 w g).mono ?_
  rintro e w1 ⟨rfl, b1, bx1⟩
  have B1 := Lib.hid b1
  have BX1 := Lib.hid bx1
  obtain ⟨_, c1, _⟩ := (H.out.below b1).cells
  clear b1 bx1
  go_wp2_with fail
  go_loopw [9, 35] (fun at_ i wr => ∃ k : Nat, k ≤ a.holes.length ∧ i = .int .i64 k ∧ at_ = .int .i64 (chI (choose a.holes n (bet 3 a.next) k)) ∧ Hid (Below w1.heap.size w1 wr)) (fun _ i _ => a.holes.length - (intOf i).toNat)
  case atStart => exact ⟨0, Nat.zero_le _, rfl, rfl, Below.refl _ _⟩
  case round =>
    obtain ⟨k, hk, rfl, rfl, hb⟩ := hrel
    have hsz : w1.heap.size ≤ wr.heap.size := hb.out.size
    have BW : Hid (Below w.heap.size w wr) := B1.out.trans (hb.out.mono B1.out.size)
    by_cases hlt : k < a.holes.length
    · obtain ⟨g1, c1', e1, _, _, hc⟩ := row_at H.out.own (by omega)
      injection e1 with e1 e2 e3
      subst e1 e3
      obtain ⟨z1, z2⟩ := hc k hlt
      have z1 := cell_below BW.out z1
      have z2 := cell_below BW.out z2
      have c1 := cell_below hb.out c1
      have HC := Lib.hid hc
      have hgw : g < wr.heap.size := World.block_lt_of_cell? _ _ c1
      have hg1w : g1 < wr.heap.size := World.block_lt_of_cell? _ _ z1
      have BA : ∀ o, Hid (Below w1.heap.size w1 (wr.alloc o)) := fun o => hb.out.alloc hsz o
      have NO : Hid (¬ n ≤ a.holes[k].2 → choose a.holes n (bet 3 a.next) (k + 1) = choose a.holes n (bet 3 a.next) k) := fun h => choose_no hlt h
      have FI : Hid (n ≤ a.holes[k].2 → choose a.holes n (bet 3 a.next) k = none → choose a.holes n (bet 3 a.next) (k + 1) = some k) := fun h h2 => choose_first hlt h h2
      have NE : Hid (∀ j (hj : j < a.holes.length), n ≤ a.holes[k].2 → choose a.holes n (bet 3 a.next) k = some j → ∀ v, bet 3 a.next a.holes[k] a.holes[j] = v → choose a.holes n (bet 3 a.next) (k + 1) = if v then some k else some j) := fun j hj h h2 v hv => choose_next hlt hj h h2 v hv
      clear hc e2
      generalize a.holes[k] = x at z1 z2 NO FI NE
      have r0 := blk_new wr (.cells #[.int .i64 (x.1 : Int), .int .i64 (x.2 : Int)] 30)
      have k0 := blk_cell r0 0; have k1 := blk_cell r0 1
      simp only [List.getElem?_toArray, List.getElem?_cons_zero, List.getElem?_cons_succ] at k0 k1
      clear r0
      by_cases hx : n ≤ x.2
      · have dx : decide ((n : Int) ≤ x.2) = true := by simpa using hx
        have dx' : decide (n ≤ x.2) = true := by simpa using hx
        cases hch : choose a.holes n (bet 3 a.next) k with
        | none =>
          have NX := Lib.hid (FI.out hx hch)
          clear NO FI NE hx hch
          rw [show chI none = -1 from rfl]
          go_wp2_with fail
          refine wp_region_flag (fun w' => w'.cell? ⟨wr.heap.size, 0, none⟩ = some (.int .i64 x.1) ∧ w'.cell? ⟨wr.heap.size, 1, none⟩ = some (.int .i64 x.2)) [(0, 1), (2, 1), (1, 0), (3, 1), (4, 1), (5, 1), (6, 1), (7, 1), (8, 1), (10, 1), (11, 1), (12, 1), (14, 1), (9, 2), (13, 0), (15, 1), (16, 0), (17, 0), (18, 1), (19, 1)] (by kernel_rfl) (by kernel_rfl) ⟨k0, k1⟩ ?_
          simp only [ordered, List.map_cons, List.map_nil, List.getD_cons_zero, List.getD_cons_succ]
          repeat (refine wpF_dry (fun K hK => ?_); go_simp; refine hK _ ?_; clear hK K)
          refine wpF_do ?_
          go_wp2_with fail
          refine ⟨⟨k0, k1⟩, ?_⟩
          repeat (refine wpF_dry (fun K hK => ?_); go_simp; refine hK _ ?_; clear hK K)
          refine wpF_skip (fun K hK => ?_)
          go_simp
          first | refine hK _ ?_ | refine ⟨(fun hh => by cases hh), hK _ ?_⟩
          clear hK K
          refine wpF_do ?_
          go_wp2_with fail
          refine ⟨⟨k0, k1⟩, ?_⟩
          repeat (refine wpF_dry (fun K hK => ?_); go_simp; refine hK _ ?_; clear hK K)
          refine wpF_do ?_
          go_wp2_with fail
          refine ⟨⟨k0, k1⟩, ?_⟩
          refine wpF_do ?_
          go_wp2_with fail
          refine ⟨⟨k0, k1⟩, ?_⟩
          repeat (refine wpF_dry (fun K hK => ?_); go_simp; refine hK _ ?_; clear hK K)
          refine wpF_nil ?_
          have BQ := (BA (.cells #[.int .i64 (x.1 : Int), .int .i64 (x.2 : Int)] 30)).out.drew
          go_wp2
          go_roundw
          case rel => exact ⟨k + 1, hlt, by go_num, by rw [NX.out]; rfl, BQ⟩
          case measure => simp [intOf]; omega
        | some j =>
          obtain ⟨hjk, _⟩ := choose_lt hch
          have hj : j < a.holes.length := by omega
          have NB := Lib.hid (NE.out j hj hx hch)
          obtain ⟨y1, y2⟩ := HC.out j hj
          have y1 := cell_below BW.out y1
          have y2 := cell_below BW.out y2
          clear NO FI NE hx hch
          generalize a.holes[j] = y at y1 y2 NB
          have HB : Hid ((decide ((a.next : Int) ≤ x.1) && decide ((y.1 : Int) < a.next)) = bet 3 a.next x y) := by unfold Hid; simp [bet]
          have dj : decide ((j : Int) < 0) = false := by simp
          rw [show chI (some j) = (j : Int) from rfl]
          go_wp2_with fail
          refine wp_region_flag (fun w' => w'.cell? ⟨wr.heap.size, 0, none⟩ = some (.int .i64 x.1) ∧ w'.cell? ⟨wr.heap.size, 1, none⟩ = some (.int .i64 x.2)) [(0, 1), (2, 1), (1, 0), (3, 1), (4, 1), (5, 1), (6, 1), (7, 1), (8, 1), (10, 1), (11, 1), (12, 1), (14, 1), (9, 2), (13, 0), (15, 1), (16, 0), (17, 0), (18, 1), (19, 1)] (by kernel_rfl) (by kernel_rfl) ⟨k0, k1⟩ ?_
          simp only [ordered, List.map_cons, List.map_nil, List.getD_cons_zero, List.getD_cons_succ]
          repeat (refine wpF_dry (fun K hK => ?_); go_simp; refine hK _ ?_; clear hK K)
          refine wpF_do ?_
          go_wp2_with fail
          refine ⟨⟨k0, k1⟩, ?_⟩
          repeat (refine wpF_dry (fun K hK => ?_); go_simp; refine hK _ ?_; clear hK K)
          refine wpF_read (.agg #[.int .i64 x.1, .int .i64 x.2]) rfl (fun w' hS => by obtain ⟨s1, s2⟩ := hS; go_simp) (fun K hK => ?_)
          go_simp
          refine hK _ ?_
          clear hK K
          refine wpF_do ?_
          go_wp2_with fail
          refine ⟨⟨k0, k1⟩, ?_⟩
          repeat (refine wpF_dry (fun K hK => ?_); go_simp; refine hK _ ?_; clear hK K)
          refine wpF_do ?_
          go_wp2_with fail
          refine ⟨⟨k0, k1⟩, ?_⟩
          refine wpF_do ?_
          go_wp2_with fail
          refine (better_next _ F g a _ (H.out.below (B1.out.trans ((BA _).out.drew.mono B1.out.size))) (cell_below (BA _).out.drew BX1.out) x.1 x.2 y.1 y.2).mono ?_
          rintro e w4 ⟨rfl, b4⟩
          have BQ : Hid (Below w1.heap.size w1 w4) := (BA _).out.drew.trans (b4.mono (BA _).out.drew.size)
          have k0 := cell_below b4 k0; have k1 := cell_below b4 k1
          clear b4
          rw [HB.out]
          cases hbv : bet 3 a.next x y
          all_goals
            have NX := Lib.hid (NB.out _ hbv)
            clear hbv
            go_wp2_with fail
            refine ⟨⟨k0, k1⟩, ?_⟩
            repeat (refine wpF_dry (fun K hK => ?_); go_simp; refine hK _ ?_; clear hK K)
            refine wpF_nil ?_
            go_wp2
            go_roundw
            case rel => exact ⟨k + 1, hlt, by go_num, by rw [NX.out]; rfl, BQ⟩
            case measure => simp [intOf]; omega
      · have dx : decide ((n : Int) ≤ x.2) = false := by simpa using hx
        have dx' : decide (n ≤ x.2) = false := by simpa using hx
        have NX := Lib.hid (NO.out hx)
        clear NO FI NE hx
        generalize hq : chI (choose a.holes n (bet 3 a.next) k) = qk at NX ⊢
        have NX : Hid (chI (choose a.holes n (bet 3 a.next) (k + 1)) = qk) := by unfold Hid; rw [NX.out, hq]
        clear hq
        go_wp2_with fail
        refine wp_region_flag (fun w' => w'.cell? ⟨wr.heap.size, 0, none⟩ = some (.int .i64 x.1) ∧ w'.cell? ⟨wr.heap.size, 1, none⟩ = some (.int .i64 x.2)) [(0, 1), (2, 1), (1, 0), (3, 1), (4, 1), (5, 1), (6, 1), (7, 1), (8, 1), (10, 1), (11, 1), (12, 1), (14, 1), (9, 2), (13, 0), (15, 1), (16, 0), (17, 0), (18, 1), (19, 1)] (by kernel_rfl) (by kernel_rfl) ⟨k0, k1⟩ ?_
        simp only [ordered, List.map_cons, List.map_nil, List.getD_cons_zero, List.getD_cons_succ]
        repeat (refine wpF_dry (fun K hK => ?_); go_simp; refine hK _ ?_; clear hK K)
        refine wpF_do ?_
        go_wp2_with fail
        refine ⟨⟨k0, k1⟩, ?_⟩
        repeat (refine wpF_dry (fun K hK => ?_); go_simp; refine hK _ ?_; clear hK K)
        refine wpF_skip (fun K hK => ?_)
        go_simp
        first | refine hK _ ?_ | refine ⟨(fun hh => by cases hh), hK _ ?_⟩
        clear hK K
        refine wpF_do ?_
        go_wp2_with fail
        refine ⟨⟨k0, k1⟩, ?_⟩
        repeat (refine wpF_dry (fun K hK => ?_); go_simp; refine hK _ ?_; clear hK K)
        refine wpF_do ?_
        go_wp2_with fail
        refine ⟨⟨k0, k1⟩, ?_⟩
        refine wpF_do ?_
        go_wp2_with fail
        refine ⟨⟨k0, k1⟩, ?_⟩
        repeat (refine wpF_dry (fun K hK => ?_); go_simp; refine hK _ ?_; clear hK K)
        refine wpF_nil ?_
        have BQ := (BA (.cells #[.int .i64 (x.1 : Int), .int .i64 (x.2 : Int)] 30)).out.drew
        go_wp2
        go_roundw
        case rel => exact ⟨k + 1, hlt, by go_num, by rw [NX.out], BQ⟩
        case measure => simp [intOf]; omega
    · obtain rfl : k = a.holes.length := by omega
      have APOST : ∀ e w', AllocTo w F g a n 3 e w' = AllocTo w F g a n 3 e w' := fun _ _ => rfl
      cases hch : choose a.holes n (bet 3 a.next) a.holes.length with
      | none =>
        have HCH := Lib.hid hch
        clear hch
        rw [show chI none = -1 from rfl]
        go_wp2
        go_ret2
        unfold AllocTo
        rw [HCH.out]
        exact ⟨rfl, BW.out⟩
      | some j =>
        obtain ⟨hj, hn2⟩ := choose_lt hch
        have HCH := Lib.hid hch
        obtain ⟨g1, c1', e1, _, _, hc⟩ := row_at H.out.own (by omega)
        injection e1 with e1 e2 e3
        subst e1 e3
        obtain ⟨y1, y2⟩ := hc j hj
        have y1 := cell_below BW.out y1
        have y2 := cell_below BW.out y2
        have c1 := cell_below hb.out c1
        have dj : decide ((j : Int) < 0) = false := by simp
        have eg : a.holes.getD j (0, 0) = a.holes[j] := by simp [hj]
        rw [eg] at hn2
        have CU := Lib.hid (cut_any wr F g a _ (H.out.below BW.out) j hj a.holes[j].1 n (Nat.le_refl _) hn (by omega))
        have EG := Lib.hid eg
        have hin := (lies_get H.out.ok.lies j hj).2.2
        clear hch hc e2 eg
        generalize a.holes[j] = y at y1 y2 CU EG hin hn2
        rw [show chI (some j) = (j : Int) from rfl]
        go_wp2_with fail
        refine CU.out.mono ?_
        rintro e w5 ⟨rfl, F', ht⟩
        have HT : Hid (ArTo w F g { a with holes := cutL a.holes j y y.1 n } w5 F') := ht.lift BW.out
        clear ht CU
        obtain ⟨v5, h5⟩ := HT.out.has
        have blk5 := h5.blk
        have y5 := blk_cell blk5 2; have y5f := blk_free blk5 2
        simp only [List.getElem?_toArray, List.getElem?_cons_zero, List.getElem?_cons_succ] at y5
        obtain ⟨r, hr⟩ : ∃ r, r = y.1 + n := ⟨_, rfl⟩
        have ex : (y.1 : Int) + n = (r : Int) := by omega
        have hrm : r ≤ 1048576 := by omega
        have HS := Lib.hid (HT.out.setNext r (by show r ≤ a.size; omega))
        have HR := Lib.hid hr
        clear hr
        clear h5 blk5
        go_wp2
        go_ret2
        unfold AllocTo
        rw [HCH.out]
        dsimp only
        rw [EG.out, if_pos rfl, ← HR.out]
        exact ⟨rfl, F', HS.out⟩
end Go.Proofs.Ythloinmnojlleaa
