/- GlO: Parse. -/
import Derived.Test.YtmagidkgajmhoaaDoorGlN
set_option linter.unusedVariables false
set_option linter.unusedSimpArgs false
namespace Go.Proofs.YtmagidkgajmhoaaDoor
open Go.RowKit

/-- What holds amid Parse. -/
structure PSt (w wr : World) (s : ByteArray) (A : Option Addr) (c : Nat) (ps : List PtM) (deep below : Bool) : Prop where
  box : wr.heap[w.heap.size]? = some (.cells #[.string s, .slice A ps.length c, .bool deep, .bool below] 48 (0, 0))
  own : wr.ownsRow (w.heap.size + 1) 51 2 (.slice A ps.length c) ps.length (ptv ps)
  tks : ∀ x ∈ ps, RdTks wr x.A x.L
  bel : Below w.heap.size w wr
theorem PSt.under {w wr w' : World} {s : ByteArray} {A : Option Addr} {c : Nat} {ps : List PtM} {deep below : Bool} (h : PSt w wr s A c ps deep below) (hb : Below wr.heap.size wr w') : PSt w w' s A c ps deep below :=
  ⟨(hb.block _ (lt_block h.box)).trans h.box, own_touch h.own (Touch.of_below hb : Touch (fun _ => False) wr w') (fun _ _ x => x), fun x hx => (h.tks x hx).below hb, h.bel.trans (hb.mono h.bel.size)⟩
theorem PSt.first (w : World) (s : ByteArray) : PSt w (w.alloc (.cells #[.string s, .slice none 0 0, .bool false, .bool false] 48)) s none 0 [] false false :=
  ⟨blk_new w _, World.ownsRow_nil _ _ _ _, (fun x hx => by cases hx), (Below.refl _ w).alloc (Nat.le_refl _) _⟩
theorem PSt.touch {w wr : World} {s : ByteArray} {A : Option Addr} {c : Nat} {ps : List PtM} {deep below : Bool} (h : PSt w wr s A c ps deep below) (i : Nat) (v : Value) : Touch (fun j => j = w.heap.size) wr (wr.setCell ⟨w.heap.size, i, none⟩ v) := (Touch.refl (fun j => j = w.heap.size) wr).setCell (p := ⟨w.heap.size, i, none⟩) (.inl rfl) _
theorem PSt.setD {w wr : World} {s : ByteArray} {A : Option Addr} {c : Nat} {ps : List PtM} {deep below : Bool} (h : PSt w wr s A c ps deep below) (b : Bool) : PSt w (wr.setCell ⟨w.heap.size, 2, none⟩ (.bool b)) s A c ps b below := by
  have T := h.touch 2 (.bool b)
  have kp := Kp.touch h.box T
  refine ⟨?_, own_touch h.own T (fun j hj e => by have := (h.own.lt j hj).1; omega), fun x hx => (h.tks x hx).kp kp (by decide) (by decide), h.bel.trans (T.below (by have := h.bel.size; omega) (fun j hj => by rw [hj]; exact Nat.le_refl _))⟩
  have := blk_set h.box 2 (.bool b)
  simpa using this
theorem PSt.setB {w wr : World} {s : ByteArray} {A : Option Addr} {c : Nat} {ps : List PtM} {deep below : Bool} (h : PSt w wr s A c ps deep below) (b : Bool) : PSt w (wr.setCell ⟨w.heap.size, 3, none⟩ (.bool b)) s A c ps deep b := by
  have T := h.touch 3 (.bool b)
  have kp := Kp.touch h.box T
  refine ⟨?_, own_touch h.own T (fun j hj e => by have := (h.own.lt j hj).1; omega), fun x hx => (h.tks x hx).kp kp (by decide) (by decide), h.bel.trans (T.below (by have := h.bel.size; omega) (fun j hj => by rw [hj]; exact Nat.le_refl _))⟩
  have := blk_set h.box 3 (.bool b)
  simpa using this
/-- One part more. -/
theorem PSt.more {w wr w2 : World} {s : ByteArray} {A A2 : Option Addr} {c c2 : Nat} {ps : List PtM} {x : PtM} {deep below : Bool} (h : PSt w wr s A c ps deep below) (hx : RdTks wr x.A x.L)
    (ho : w2.ownsRow (w.heap.size + 1) 51 2 (.slice A2 (ps ++ [x]).length c2) (ps ++ [x]).length (ptv (ps ++ [x]))) (hg : wr.grownBy w2 (Value.slice A ps.length c).ownBlock) :
    PSt w (w2.setCell ⟨w.heap.size, 1, none⟩ (.slice A2 (ps ++ [x]).length c2)) s A2 c2 (ps ++ [x]) deep below := by
  have kg := Kp.grown h.own hg
  have hb2 : w2.heap[w.heap.size]? = some (.cells #[.string s, .slice A ps.length c, .bool deep, .bool below] 48 (0, 0)) := kg _ _ _ (by decide) h.box
  have b2 : Below w.heap.size w w2 := h.bel.grown hg h.bel.size (fun j hj => by have := (h.own.lt j hj).1; omega)
  have T : Touch (fun j => j = w.heap.size) w2 (w2.setCell ⟨w.heap.size, 1, none⟩ (.slice A2 (ps ++ [x]).length c2)) := (Touch.refl (fun j => j = w.heap.size) w2).setCell (p := ⟨w.heap.size, 1, none⟩) (.inl rfl) _
  have kp := Kp.touch hb2 T
  refine ⟨?_, own_touch ho T (fun j hj e => by have := (ho.lt j hj).1; omega), fun y hy => ?_, b2.trans (T.below b2.size (fun j hj => by rw [hj]; exact Nat.le_refl _))⟩
  · have := blk_set hb2 1 (.slice A2 (ps ++ [x]).length c2)
    simpa using this
  · have : RdTks wr y.A y.L := by
      rcases List.mem_append.1 hy with hy | hy
      · exact h.tks y hy
      · rw [List.mem_singleton] at hy
        subst hy
        exact hx
    exact (this.kp kg (by decide) (by decide)).kp kp (by decide) (by decide)
theorem PSt.pieces {w wr : World} {s : ByteArray} {A : Option Addr} {c : Nat} {ps : List PtM} {deep below : Bool} (h : PSt w wr s A c ps deep below) (i : Nat) (v : Value) {B : Option Addr} {xs : List Value} (hb : Blk wr 9 B xs) : Blk (wr.setCell ⟨w.heap.size, i, none⟩ v) 9 B xs := hb.kp (Kp.touch h.box (h.touch i v)) (by decide)
theorem strsV_ne {l : List ByteArray} (h : 1 ≤ l.length) : strsV l ≠ [] := fun e => by
  have h0 := congrArg List.length e
  unfold strsV at h0
  rw [List.length_map] at h0
  have h1 : l.length = 0 := h0
  omega
theorem push_mem {n : Nat} {a : Bs} {l : List Bs} {m : Nat} (ha : a.length + m ≤ n) (hl : ∀ p ∈ l, p.length ≤ m) : ∀ p ∈ push a l, p.length ≤ n := fun p hp => by
  unfold push at hp
  rcases List.mem_cons.1 hp with rfl | hp
  · cases l with
    | nil => simp; omega
    | cons b r => have := hl b (by simp); simp; omega
  · have := hl p (List.mem_of_mem_tail hp); omega
theorem cutE_mem : ∀ (n : Nat) (l : Bs), l.length ≤ n → ∀ p ∈ cutE l, p.length ≤ l.length
  | n, [], _, p, h => by simp [cutE] at h; simp [h]
  | n, [c], _, p, h => by
    unfold cutE at h
    split at h
    · simp at h; simp [h]
    · simp at h; simp [h]
  | 0, c :: d :: r, hn, p, h => by simp at hn
  | n + 1, c :: d :: r, hn, p, h => by
    have hn1 : (d :: r).length ≤ n := by simp at hn ⊢; omega
    have hn2 : r.length ≤ n := by simp at hn ⊢; omega
    unfold cutE at h
    split at h
    · exact push_mem (m := r.length) (by simp; omega) (cutE_mem n r hn2) p h
    · split at h
      · rcases List.mem_cons.1 h with rfl | h
        · simp
        · have := cutE_mem n _ hn1 p h; simp at this ⊢; omega
      · exact push_mem (m := (d :: r).length) (by simp; omega) (cutE_mem n _ hn1) p h
def ParTo (w : World) (s : ByteArray) (e : Ending) (w' : World) : Prop :=
  (parseP (dat s) = none ∧ e = .returned (.tuple #[.pointer none, .int .i64 (if 64 < s.size then 2 else 4)]) ∧ Below w.heap.size w w') ∨
  ∃ (gp : Nat) (m : PatM), parseP (dat s) = some m.pat ∧ m.text = s ∧ e = .returned (.tuple #[.pointer (some ⟨gp, 0, none⟩), .int .i64 0]) ∧ RdPat w' gp m ∧ w.heap.size ≤ gp ∧ Below w.heap.size w w'
set_option maxHeartbeats 3200000 in
set_option maxRecDepth 100000 in
theorem parse_any (w : World) (s : ByteArray) :
    Calls Tryd.prog 10 #[.string s] w fun e w' => ParTo w s e w' := by
  obtain ⟨i0, hi0, hz0, hz1, hz2⟩ := info_parts infoPt
  by_cases h64 : 64 < s.size
  · have HN : Hid (parseP (dat s) = none) := by unfold Hid parseP; rw [if_pos (by rw [datsz]; exact h64)]
    have hi : (64 : Int) < (s.size : Int) := by omega
    have HI : Hid ((if 64 < s.size then (2 : Int) else 4) = 2) := by unfold Hid; rw [if_pos h64]
    go_enter Tryd.func10, Tryd.ntmps10
    go_wp2
    go_ret2
    exact .inl ⟨HN.out, by rw [HI.out]; rfl, Below.refl _ _⟩
  have hi64 : ¬ (64 : Int) < (s.size : Int) := by omega
  have HI : Hid ((if 64 < s.size then (2 : Int) else 4) = 4) := by unfold Hid; rw [if_neg h64]
  obtain ⟨R, hR⟩ : ∃ R, R = parseP (dat s) := ⟨_, rfl⟩
  obtain ⟨W1, hW1⟩ : ∃ W, W = w.alloc (.cells #[.string s, .slice none 0 0, .bool false, .bool false] 48) := ⟨_, rfl⟩
  have S1 : Hid (PSt w W1 s none 0 [] false false) := by rw [hW1]; exact PSt.first w s
  have CE := Lib.hid (cutE_any s W1 (by omega))
  have QL : Hid (R = parseL (cutE (dat s))) := by unfold Hid; rw [hR]; unfold parseP; rw [if_neg (by rw [datsz]; exact h64)]
  have HR := Lib.hid hR
  have HW1 := Lib.hid hW1
  have h64' : s.size ≤ 64 := by omega
  clear hR hW1 h64
  go_enter Tryd.func10, Tryd.ntmps10
  go_wp2_with fail
  rw [← HW1.out]
  refine CE.out.mono ?_
  rintro e w1 ⟨A0, c0, l0, rfl, hb, hc, hl, hbk, b1⟩
  have SA := Lib.hid (S1.out.under b1)
  have BK := Lib.hid hbk; have HB := Lib.hid hb
  have hl1 : 1 ≤ l0.length := by
    have := cutE_ne (dat s)
    rw [← hb] at this
    cases l0 with
    | nil => exact absurd rfl this
    | cons a r => simp
  have LL : Hid ((bytes l0).length = l0.length) := by unfold Hid bytes; rw [List.length_map]
  have bx := SA.out.box
  have fz3 := fz_no bx 3; have fz2 := fz_no bx 2
  have c3 := blk_cell bx 3; have c2 := blk_cell bx 2
  simp at c3 c2
  have wk1 : IntKind.i64.wrap ((l0.length : Int) - 1) = (l0.length : Int) - 1 := by rw [IntKind.wrap_i64]; omega
  obtain ⟨b0, o0, rfl⟩ := hbk.pos (strsV_ne hl1)
  obtain ⟨b0', o0', hbb, lc⟩ := (BK.out.cells (strsV_ne hl1))
  obtain ⟨rfl, rfl⟩ : b0' = b0 ∧ o0' = o0 := by cases hbb; exact ⟨rfl, rfl⟩
  have cl := lc (l0.length - 1) (.string (l0[l0.length - 1]'(by omega))) (by unfold strsV; rw [List.getElem?_map, List.getElem?_eq_getElem (by omega)]; rfl)
  have GL : Hid ((bytes l0).getLast? = some (dat (l0[l0.length - 1]'(by omega)))) := by
    unfold Hid bytes
    rw [List.getLast?_eq_getElem?, List.getElem?_map, List.length_map, List.getElem?_eq_getElem (by omega)]
    rfl
  obtain ⟨z, hz⟩ : ∃ z, z = l0[l0.length - 1]'(by omega) := ⟨_, rfl⟩
  rw [← hz] at cl GL
  obtain ⟨q, hq⟩ : ∃ q, q = decide (1 < (bytes l0).length ∧ (bytes l0).getLast? = some []) := ⟨_, rfl⟩
  have QQ : Hid (q = (decide (1 < l0.length) && z.toList.isEmpty)) := by
    unfold Hid
    rw [hq, GL.out, LL.out, Lib.toList_data, Bool.eq_iff_iff]
    simp [List.isEmpty_iff]
  have CB : Hid (cutB (bytes l0) = if q then ((bytes l0).dropLast, true) else (bytes l0, false)) := by
    unfold Hid cutB
    rw [hq]
    simp
  have W1E : Hid (w1 = w1) := rfl
  obtain ⟨x1, hx1⟩ : ∃ x1, x1 = w1 := ⟨_, rfl⟩
  clear hbk b1 hb bx CE hbb lc hz hq W1E
  go_upto_region 5 with fail
  go_cut [29] from 18 to 29 (fun cv wx => cv = .bool q ∧ wx = x1)
  case first =>
    by_cases h1 : 1 < l0.length
    · have h1i : (1 : Int) < (l0.length : Int) := by omega
      have q1 : Hid (q = z.toList.isEmpty) := by unfold Hid; rw [QQ.out, decide_eq_true h1]; rfl
      go_wp2_with fail
      go_meet
      exact ⟨by rw [q1.out], hx1.symm⟩
    · have h1i : ¬ (1 : Int) < (l0.length : Int) := by omega
      have q1 : Hid (q = false) := by unfold Hid; rw [QQ.out, decide_eq_false h1]; rfl
      go_wp2_with fail
      go_meet
      exact ⟨by rw [q1.out], hx1.symm⟩
  case rest =>
    obtain ⟨rfl, hwx⟩ := hcut
    rw [hx1] at hwx
    subst hwx
    clear hx1 cl
    go_upto_if 29 with fail
    go_cut [5] (fun lv wx => ∃ l1 : List ByteArray, lv = .slice (some ⟨b0', o0', none⟩) l1.length c0 ∧ Hid (bytes l1 = (cutB (bytes l0)).1) ∧ Hid (PSt w wx s none 0 [] false (cutB (bytes l0)).2) ∧ Hid (Blk wx 9 (some ⟨b0', o0', none⟩) (strsV l1)) ∧ l1.length ≤ l0.length ∧ 1 ≤ l1.length)
    case first =>
      cases q with
      | true =>
        have h1 : 1 < l0.length := by
          have := QQ.out
          rcases Nat.lt_or_ge 1 l0.length with h | h
          · exact h
          · rw [decide_eq_false (by omega)] at this
            cases this
        have h1i : (1 : Int) < (l0.length : Int) := by omega
        have dl : l0.dropLast.length = l0.length - 1 := List.length_dropLast
        have C1 : Hid (bytes l0.dropLast = (cutB (bytes l0)).1) := by
          unfold Hid
          rw [CB.out, if_pos rfl]
          unfold bytes
          exact List.map_dropLast
        have S2 : Hid (PSt w (wc.setCell ⟨w.heap.size, 3, none⟩ (.bool true)) s none 0 [] false (cutB (bytes l0)).2) := by
          rw [CB.out, if_pos rfl]
          exact SA.out.setB true
        have B2 : Hid (Blk (wc.setCell ⟨w.heap.size, 3, none⟩ (.bool true)) 9 (some ⟨b0', o0', none⟩) (strsV l0.dropLast)) := by
          have := SA.out.pieces 3 (.bool true) BK.out
          intro hx
          obtain ⟨b, o, cur, e, hb, hcc⟩ := this (strsV_ne hl1)
          refine ⟨b, o, cur, e, hb, fun j u hj => hcc j u ?_⟩
          unfold strsV at hj ⊢
          rw [List.map_dropLast] at hj
          rw [List.dropLast_eq_take] at hj
          have hl := (List.getElem?_eq_some_iff.1 hj).1
          rw [List.length_take] at hl
          rw [List.getElem?_take_of_lt (by omega)] at hj
          exact hj
        have li : (l0.length : Int) - 1 ≤ (c0 : Int) := by omega
        have li2 : (0 : Int) ≤ (l0.length : Int) - 1 := by omega
        have DL := Lib.hid dl
        clear dl
        go_wp2_with fail
        go_meet
        exact ⟨l0.dropLast, by rw [DL.out], C1, S2, B2, by have := DL.out; omega, by have := DL.out; omega⟩
      | false =>
        have C1 : Hid (bytes l0 = (cutB (bytes l0)).1) := by unfold Hid; rw [CB.out]; rfl
        have S2 : Hid (PSt w wc s none 0 [] false (cutB (bytes l0)).2) := by
          rw [CB.out]
          exact SA.out
        go_wp2_with fail
        go_meet
        exact ⟨l0, rfl, C1, S2, BK, Nat.le_refl _, hl1⟩
    case rest => 
      obtain ⟨l1, rfl, hB1, hS1, hK1, hl10, hl11⟩ := hcut
      obtain ⟨x1, hx1⟩ : ∃ x1, x1 = l0.length := ⟨_, rfl⟩
      clear CB QQ GL c2 c3 fz2 fz3 wk1 BK SA
      obtain ⟨bw, hbw⟩ : ∃ b, b = (cutB (bytes l0)).2 := ⟨_, rfl⟩
      obtain ⟨ll, hll⟩ : ∃ l, l = (cutB (bytes l0)).1 := ⟨_, rfl⟩
      rw [← hbw] at hS1
      rw [← hll] at hB1
      have RL : Hid (R = (ptsP (cutH ll)).map (fun ps => (⟨ps, decide (ll.length = 1), bw⟩ : PPat))) := by
        unfold Hid
        rw [QL.out, ← HB.out, hbw, hll]
        rfl
      have LL1 : Hid (ll.length = l1.length) := by unfold Hid; rw [← hB1.out]; unfold bytes; rw [List.length_map]
      obtain ⟨dp, hdp⟩ : ∃ d, d = decide (l1.length = 1) := ⟨_, rfl⟩
      rw [LL1.out, ← hdp] at RL
      have DP : ((l1.length : Int) == 1) = dp := by
        rw [hdp, Bool.eq_iff_iff, beq_iff_eq, decide_eq_true_eq]
        omega
      have DP2 : decide (l1.length = 1) = dp := hdp.symm
      have bx := hS1.out.box
      have fz2 := fz_no bx 2
      have c2 := blk_cell bx 2
      simp at c2
      obtain ⟨W3, hW3⟩ : ∃ W, W = wc.setCell ⟨w.heap.size, 2, none⟩ (.bool dp) := ⟨_, rfl⟩
      have S3 : Hid (PSt w W3 s none 0 [] dp bw) := by rw [hW3]; exact hS1.out.setD dp
      have K3 : Hid (Blk W3 9 (some ⟨b0', o0', none⟩) (strsV l1)) := by rw [hW3]; exact hS1.out.pieces 2 _ hK1.out
      obtain ⟨b3, o3, hbb, lc⟩ := (K3.out.cells (strsV_ne hl11))
      obtain ⟨rfl, rfl⟩ : b3 = b0' ∧ o3 = o0' := by cases hbb; exact ⟨rfl, rfl⟩
      have cf := lc 0 (.string (l1[0]'(by omega))) (by unfold strsV; rw [List.getElem?_map, List.getElem?_eq_getElem (by omega)]; rfl)
      have GH : Hid ((bytes l1).head? = some (dat (l1[0]'(by omega)))) := by
        unfold Hid bytes
        rw [List.head?_eq_getElem?, List.getElem?_map, List.getElem?_eq_getElem (by omega)]
        rfl
      obtain ⟨z, hz⟩ : ∃ z, z = l1[0]'(by omega) := ⟨_, rfl⟩
      rw [Nat.add_zero] at cf
      rw [← hz] at cf GH
      obtain ⟨q2, hq2⟩ : ∃ q, q = (decide (1 < l1.length) && z.toList.isEmpty) := ⟨_, rfl⟩
      have CH : Hid (cutH ll = if q2 then ll.tail else ll) := by
        unfold Hid cutH
        rw [← hB1.out, GH.out, hq2, Lib.toList_data]
        have : (bytes l1).length = l1.length := by unfold bytes; rw [List.length_map]
        rw [this]
        simp [List.isEmpty_iff]
      have HW3 := Lib.hid hW3
      have HQ2 := Lib.hid hq2
      have HDP := Lib.hid hdp
      have HLL := Lib.hid hll
      clear hx1 hbw hll bx hbb lc hz hq2 hdp hW3 QL
      go_upto_region 9 with fail
      rw [← HW3.out]
      have hcl : l1.length ≤ c0 := by omega
      have L65 : l1.length ≤ 65 := by omega
      obtain ⟨x3, hx3⟩ : ∃ x3, x3 = W3 := ⟨_, rfl⟩
      clear c2 fz2 hl hl1 hl10 hc
      go_cut [52] from 44 to 52 (fun cv wx => cv = .bool q2 ∧ wx = x3)
      case first =>
        by_cases h1 : 1 < l1.length
        · have h1i : (1 : Int) < (l1.length : Int) := by omega
          have q1 : Hid (q2 = z.toList.isEmpty) := by unfold Hid; rw [HQ2.out, decide_eq_true h1]; rfl
          go_wp2_with fail
          go_meet
          exact ⟨by rw [q1.out], hx3.symm⟩
        · have h1i : ¬ (1 : Int) < (l1.length : Int) := by omega
          have q1 : Hid (q2 = false) := by unfold Hid; rw [HQ2.out, decide_eq_false h1]; rfl
          go_wp2_with fail
          go_meet
          exact ⟨by rw [q1.out], hx3.symm⟩
      case rest =>
        obtain ⟨rfl, hwx⟩ := hcut
        rw [hx3] at hwx
        subst hwx
        clear hx3 cf
        go_upto_if 52 with fail
        go_cut [5] (fun lv wx => ∃ (A2 : Option Addr) (c2 : Nat) (l2 : List ByteArray), lv = .slice A2 l2.length c2 ∧ Hid (bytes l2 = cutH ll) ∧ Hid (PSt w wx s none 0 [] dp bw) ∧ Hid (Blk wx 9 A2 (strsV l2)) ∧ l2.length ≤ 65)
        case first =>
          cases q2 with
          | true =>
            have h1 : 1 < l1.length := by
              have := HQ2.out
              rcases Nat.lt_or_ge 1 l1.length with h | h
              · exact h
              · rw [decide_eq_false (by omega)] at this
                cases this
            have h1i : (1 : Int) < (l1.length : Int) := by omega
            have dl : l1.tail.length = l1.length - 1 := List.length_tail
            have C1 : Hid (bytes l1.tail = cutH ll) := by
              unfold Hid
              rw [CH.out, if_pos rfl, ← hB1.out]
              unfold bytes
              cases l1 <;> rfl
            have B2 : Hid (Blk wc 9 (some ⟨b3, o3 + 1, none⟩) (strsV l1.tail)) := by
              intro hx
              obtain ⟨b, o, cur, e, hb, hcc⟩ := K3.out (strsV_ne hl11)
              obtain ⟨rfl, rfl⟩ : b3 = b ∧ o3 = o := by cases e; exact ⟨rfl, rfl⟩
              refine ⟨b3, o3 + 1, cur, rfl, hb, fun j u hj => ?_⟩
              have : (strsV l1)[1 + j]? = some u := by
                unfold strsV at hj ⊢
                rw [List.map_tail] at hj
                rw [← List.drop_one, List.getElem?_drop] at hj
                exact hj
              rw [Nat.add_assoc]
              exact hcc _ _ this
            have li2 : (1 : Int) ≤ (l1.length : Int) := by omega
            have li3 : (1 : Int) ≤ (c0 : Int) := by omega
            have li4 : (l1.length : Int) ≤ (c0 : Int) := by omega
            have FC : ((c0 : Int) == 1) = false := beq_false_of_ne (by omega)
            have FC2 : ¬ c0 = 1 := by omega
            have DL := Lib.hid dl
            clear dl
            go_wp2_with fail
            go_meet
            exact ⟨some ⟨b3, o3 + 1, none⟩, c0 - 1, l1.tail, by rw [DL.out], C1, S3, B2, by have := DL.out; omega⟩
          | false =>
            have C1 : Hid (bytes l1 = cutH ll) := by unfold Hid; rw [CH.out, ← hB1.out]; rfl
            go_wp2_with fail
            go_meet
            exact ⟨some ⟨b3, o3, none⟩, c0, l1, rfl, C1, S3, K3, L65⟩
        case rest =>
          obtain ⟨A2, c2, l2, rfl, hB2, hS2, hK2, l65⟩ := hcut
          have RQ : Hid (R = ((ptsP ((bytes l2).drop 0)).map (fun ps => [].map PtM.pt ++ ps)).map (fun ps => (⟨ps, dp, bw⟩ : PPat))) := by
            unfold Hid
            rw [RL.out, List.drop_zero, hB2.out]
            cases ptsP (cutH ll) <;> rfl
          have LB2 : Hid ((bytes l2).length = l2.length) := by unfold Hid bytes; rw [List.length_map]
          have LP : Hid (∀ x ∈ l2, x.size ≤ 64) := fun x hx => by
            have h1 : dat x ∈ cutH ll := by rw [← hB2.out]; exact List.mem_map.2 ⟨x, hx, rfl⟩
            have h2 : dat x ∈ ll := by
              unfold cutH at h1
              split at h1
              · exact List.mem_of_mem_tail h1
              · exact h1
            rw [HLL.out] at h2
            have h3 : dat x ∈ bytes l0 := by
              unfold cutB at h2
              split at h2
              · rw [List.dropLast_eq_take] at h2; exact List.mem_of_mem_take h2
              · exact h2
            rw [HB.out] at h3
            have h4 := cutE_mem (dat s).length _ (Nat.le_refl _) _ h3
            rw [datsz, datsz] at h4
            omega
          clear CH HQ2 HDP RL LL1 DP DP2 S3 K3 GH
          go_wp2_with fail
          go_loopw [57] (fun iv wr => ∃ (k c : Nat) (A : Option Addr) (done : List PtM), iv = .int .i64 (k : Int) ∧ k ≤ l2.length ∧ done.length ≤ k ∧ Hid (PSt w wr s A c done dp bw) ∧ Hid (Blk wr 9 A2 (strsV l2)) ∧ Hid (∀ x ∈ done, PtBnd x) ∧
            Hid (R = ((ptsP ((bytes l2).drop k)).map (fun ps => done.map PtM.pt ++ ps)).map (fun ps => (⟨ps, dp, bw⟩ : PPat)))) (fun iv _ => l2.length - (intOf iv).toNat)
          case atStart => exact ⟨0, 0, none, [], rfl, Nat.zero_le _, Nat.le_refl _, hS2, hK2, (fun x hx => by cases hx), RQ⟩
          case round =>
            obtain ⟨k, c, A, done, rfl, hk, hdk, hst, hbk, hbd, hq⟩ := hrel
            clear RQ hS2 hK2
            by_cases hlt : k < l2.length
            case neg =>
              have hki : ¬ (k : Int) < (l2.length : Int) := by omega
              have QE : Hid (parseP (dat s) = some (PatM.pat ⟨s, done, A, c, dp, bw⟩)) := by
                unfold Hid
                rw [← HR.out, hq.out, List.drop_eq_nil_of_le (by have := LB2.out; omega)]
                unfold PatM.pat
                simp [ptsP]
              have RP : Hid (RdPat wr w.heap.size ⟨s, done, A, c, dp, bw⟩) := ⟨hst.out.box, ⟨blk_own hst.out.own, hst.out.tks⟩, by show done.length ≤ 1000000; omega, hbd.out⟩
              go_wp2
              go_ret2
              exact .inr ⟨w.heap.size, ⟨s, done, A, c, dp, bw⟩, QE.out, rfl, rfl, RP.out, Nat.le_refl _, hst.out.bel⟩
            have hki : (k : Int) < (l2.length : Int) := by omega
            obtain ⟨b, o, rfl, lc⟩ := hbk.out.cells (strsV_ne (by omega))
            have cx := lc k (.string l2[k]) (by unfold strsV; rw [List.getElem?_map, List.getElem?_eq_getElem hlt]; rfl)
            have DK : Hid ((bytes l2).drop k = dat l2[k] :: (bytes l2).drop (k + 1)) := by
              unfold Hid
              rw [List.drop_eq_getElem_cons (by have := LB2.out; omega)]
              congr 1
              unfold bytes
              rw [List.getElem_map]
            have XM : Hid (l2[k] ∈ l2) := List.getElem_mem _
            generalize l2[k] = x at cx DK XM
            clear lc
            have wkk : IntKind.i64.wrap ((k : Int) + 1) = (k : Int) + 1 := by rw [IntKind.wrap_i64]; omega
            have hkk : done.length ≤ 1000000 := by omega
            by_cases hst2 : dat x = [42, 42]
            · have E2 : (x.toList == [42, 42]) = true := by rw [Lib.toList_data]; exact beq_iff_eq.2 hst2
              have QN : Hid (R = ((ptsP ((bytes l2).drop (k + 1))).map (fun ps => (done.map PtM.pt ++ [(⟨true, [], none, 0⟩ : PtM).pt]) ++ ps)).map (fun ps => (⟨ps, dp, bw⟩ : PPat))) := by
                unfold Hid
                rw [hq.out, DK.out, hst2, ptsP, show ptP [42, 42] = some ⟨true, []⟩ by unfold ptP; rw [if_pos rfl]]
                simp only
                cases ptsP ((bytes l2).drop (k + 1)) <;> simp [PtM.pt]
              have PB : Hid (PtBnd ⟨true, [], none, 0⟩) := ⟨by decide, fun t ht => by cases ht⟩
              have XN : Hid (∀ W : World, RdTks W none []) := fun W => ⟨Blk.nil _ _ _, fun x hx => by cases hx⟩
              clear hq hst2 DK
              obtain ⟨W4, hW4⟩ : ∃ W, W = wr.alloc (.cells #[.bool true, .slice none 0 0] 51) := ⟨_, rfl⟩
              have K4 : Below wr.heap.size wr W4 := by rw [hW4]; exact (Below.refl _ wr).alloc (Nat.le_refl _) _
              have S4 := Lib.hid (hst.out.under K4)
              have P4 := Lib.hid ((XN.out wr).below K4)
              have N4 : Hid (∀ j u, (ptv [⟨true, [], none, 0⟩])[j]? = some u → W4.cell? ((⟨wr.heap.size, 0, none⟩ : Addr).add j) = some u) := by
                intro j u hj
                have hb := blk_new wr (.cells #[.bool true, .slice none 0 0] 51)
                rw [← hW4] at hb
                match j, hj with
                | 0, hj => simp [ptv] at hj; subst hj; rw [show (⟨wr.heap.size, 0, none⟩ : Addr).add 0 = ⟨wr.heap.size, 0, none⟩ from rfl, blk_cell hb]; rfl
                | 1, hj => simp [ptv] at hj; subst hj; rw [show (⟨wr.heap.size, 0, none⟩ : Addr).add 1 = ⟨wr.heap.size, 1, none⟩ from rfl, blk_cell hb]; rfl
                | j + 2, hj => simp [ptv] at hj
              have O4 := Lib.hid S4.out.own
              have L4 : Hid (w.heap.size + 1 ≤ W4.heap.size) := lt_block S4.out.box
              have KB4 := Lib.hid ((hbk.out).below K4)
              have HW4 := Lib.hid hW4
              have cb := blk_cell hst.out.box 1
              simp at cb
              clear K4 hW4
              go_wp2_with (at_builtin; rw [← HW4.out]; refine (wpList_append_own_at _ rfl (.tmp 67) (.tmp 69) 46 rfl (w.heap.size + 1) 51 i0 _ 2 32 Tryd.underlying46 hi0 hz0 hz1 hz2 rfl (by decide) (.slice A done.length c) done.length (ptv done) rfl O4.out ⟨wr.heap.size, 0, none⟩ 1 1 (ptv [⟨true, [], none, 0⟩]) rfl rfl N4.out (ptv_one _) (by unfold maxLen; omega) (by omega) L4.out ?_))
              intro v6 w6 ho6 hg6 _ _
              rw [← ptv_app] at ho6
              have k6 := Kp.grown O4.out hg6
              have b6 := k6 _ _ _ (by decide) S4.out.box
              have fz6 := fz_no b6 1
              have c6 := blk_cell b6 1
              simp at c6
              have KB6 := Lib.hid (KB4.out.kp k6 (by decide))
              obtain ⟨L6, hL6⟩ : ∃ L6, L6 = done ++ [⟨true, [], none, 0⟩] := ⟨_, rfl⟩
              have e6 : L6.length = done.length + 1 := by rw [hL6]; simp
              rw [← hL6, ← e6] at ho6
              obtain ⟨A6, c6', rfl⟩ := own_slice ho6
              have S6 : Hid (PSt w (w6.setCell ⟨w.heap.size, 1, none⟩ (.slice A6 L6.length c6')) s A6 c6' L6 dp bw) := by
                have := PSt.more (x := ⟨true, [], none, 0⟩) S4.out P4.out (by rw [← hL6]; exact ho6) hg6
                rw [← hL6] at this
                exact this
              have B6 : Hid (∀ x ∈ L6, PtBnd x) := fun y hy => by
                rw [hL6] at hy
                rcases List.mem_append.1 hy with hy | hy
                · exact hbd.out y hy
                · rw [List.mem_singleton] at hy
                  subst hy
                  exact PB.out
              have M6 : Hid (R = ((ptsP ((bytes l2).drop (k + 1))).map (fun ps => L6.map PtM.pt ++ ps)).map (fun ps => (⟨ps, dp, bw⟩ : PPat))) := by
                unfold Hid
                rw [QN.out, hL6, List.map_append]
                cases ptsP ((bytes l2).drop (k + 1)) <;> simp
              have Q6 : Hid (Blk (w6.setCell ⟨w.heap.size, 1, none⟩ (.slice A6 L6.length c6')) 9 (some ⟨b, o, none⟩) (strsV l2)) := by
                exact KB6.out.kp (Kp.touch b6 ((Touch.refl (fun j => j = w.heap.size) w6).setCell (p := ⟨w.heap.size, 1, none⟩) (.inl rfl) (.slice A6 L6.length c6'))) (by decide)
              have HE6 := Lib.hid e6
              clear ho6 hg6 hL6 e6 k6 b6 O4 N4 S4 cb
              go_wp2
              go_roundw
              case rel => first | exact ⟨k + 1, c6', A6, L6, by go_num, by omega, by have := HE6.out; omega, S6, Q6, B6, M6⟩ | ((repeat apply Exists.intro); refine ⟨?_, rfl⟩; exact ⟨k + 1, c6', A6, L6, by go_num, by omega, by have := HE6.out; omega, S6, Q6, B6, M6⟩)
              case measure => simp [intOf]; omega
            · have E2 : (x.toList == [42, 42]) = false := by rw [Lib.toList_data]; exact beq_false_of_ne hst2
              have TK := Lib.hid (tokens_any wr x (by have := LP.out x XM.out; omega))
              have QP : Hid (R = ((match ptP (dat x) with | none => none | some p => (ptsP ((bytes l2).drop (k + 1))).map (p :: ·)).map (fun ps => done.map PtM.pt ++ ps)).map (fun ps => (⟨ps, dp, bw⟩ : PPat))) := by
                unfold Hid
                rw [hq.out, DK.out, ptsP]
                cases ptP (dat x) <;> rfl
              have PX : Hid (ptP (dat x) = match rawP (dat x) with | none => none | some L => if L = [] then none else some ⟨false, L⟩) := by unfold Hid ptP; rw [if_neg hst2]; cases rawP (dat x) <;> rfl
              clear hq hst2 DK
              go_wp2_with fail
              refine TK.out.mono ?_
              rintro e w2 (⟨q0, rfl, b2⟩ | ⟨L, A3, c3, q0, hL, rfl, rd, b2⟩)
              · have QN : Hid (parseP (dat s) = none) := by unfold Hid; rw [← HR.out, QP.out, PX.out, q0]; rfl
                have BB := Lib.hid (hst.out.under b2).bel
                clear b2 q0
                go_wp2
                go_ret2
                exact .inl ⟨QN.out, by rw [HI.out]; rfl, BB.out⟩
              · by_cases hLe : L = []
                · have QN : Hid (parseP (dat s) = none) := by unfold Hid; rw [← HR.out, QP.out, PX.out, q0, hLe]; rfl
                  have BB := Lib.hid (hst.out.under b2).bel
                  subst hLe
                  clear b2 q0 rd
                  go_wp2
                  go_ret2
                  exact .inl ⟨QN.out, by rw [HI.out]; rfl, BB.out⟩
                · have hLp : decide (0 < L.length) = true := decide_eq_true (List.length_pos_iff.2 hLe)
                  rw [hLp]
                  have QN : Hid (R = ((ptsP ((bytes l2).drop (k + 1))).map (fun ps => (done.map PtM.pt ++ [(⟨false, L, A3, c3⟩ : PtM).pt]) ++ ps)).map (fun ps => (⟨ps, dp, bw⟩ : PPat))) := by
                    unfold Hid
                    rw [QP.out, PX.out, q0]
                    simp only
                    rw [if_neg (by simpa using hLe)]
                    simp only
                    cases ptsP ((bytes l2).drop (k + 1)) <;> simp [PtM.pt]
                  have PB : Hid (PtBnd ⟨false, L, A3, c3⟩) := ⟨by have := LP.out x XM.out; show L.length ≤ 1000000; omega, fun t ht => by
                    have h1 := rawP_bnd q0 t.t (List.mem_map.2 ⟨t, ht, rfl⟩)
                    have h2 := LP.out x XM.out
                    rw [datsz] at h1
                    omega⟩
                  have ST2 := Lib.hid (hst.out.under b2)
                  have BK2 := Lib.hid (hbk.out.below b2)
                  have RD := Lib.hid rd
                  clear q0 hLe b2 rd QP PX hLp
                  obtain ⟨W4, hW4⟩ : ∃ W, W = w2.alloc (.cells #[.bool false, .slice A3 L.length c3] 51) := ⟨_, rfl⟩
                  have K4 : Below w2.heap.size w2 W4 := by rw [hW4]; exact (Below.refl _ w2).alloc (Nat.le_refl _) _
                  have S4 := Lib.hid (ST2.out.under K4)
                  have P4 := Lib.hid ((RD.out).below K4)
                  have N4 : Hid (∀ j u, (ptv [⟨false, L, A3, c3⟩])[j]? = some u → W4.cell? ((⟨w2.heap.size, 0, none⟩ : Addr).add j) = some u) := by
                    intro j u hj
                    have hb := blk_new w2 (.cells #[.bool false, .slice A3 L.length c3] 51)
                    rw [← hW4] at hb
                    match j, hj with
                    | 0, hj => simp [ptv] at hj; subst hj; rw [show (⟨w2.heap.size, 0, none⟩ : Addr).add 0 = ⟨w2.heap.size, 0, none⟩ from rfl, blk_cell hb]; rfl
                    | 1, hj => simp [ptv] at hj; subst hj; rw [show (⟨w2.heap.size, 0, none⟩ : Addr).add 1 = ⟨w2.heap.size, 1, none⟩ from rfl, blk_cell hb]; rfl
                    | j + 2, hj => simp [ptv] at hj
                  have O4 := Lib.hid S4.out.own
                  have L4 : Hid (w.heap.size + 1 ≤ W4.heap.size) := lt_block S4.out.box
                  have KB4 := Lib.hid ((BK2.out).below K4)
                  have HW4 := Lib.hid hW4
                  have cb := blk_cell ST2.out.box 1
                  simp at cb
                  clear K4 hW4
                  go_wp2_with (at_builtin; rw [← HW4.out]; refine (wpList_append_own_at _ rfl (.tmp 84) (.tmp 87) 46 rfl (w.heap.size + 1) 51 i0 _ 2 32 Tryd.underlying46 hi0 hz0 hz1 hz2 rfl (by decide) (.slice A done.length c) done.length (ptv done) rfl O4.out ⟨w2.heap.size, 0, none⟩ 1 1 (ptv [⟨false, L, A3, c3⟩]) rfl rfl N4.out (ptv_one _) (by unfold maxLen; omega) (by omega) L4.out ?_))
                  intro v6 w6 ho6 hg6 _ _
                  rw [← ptv_app] at ho6
                  have k6 := Kp.grown O4.out hg6
                  have b6 := k6 _ _ _ (by decide) S4.out.box
                  have fz6 := fz_no b6 1
                  have c6 := blk_cell b6 1
                  simp at c6
                  have KB6 := Lib.hid (KB4.out.kp k6 (by decide))
                  obtain ⟨L6, hL6⟩ : ∃ L6, L6 = done ++ [⟨false, L, A3, c3⟩] := ⟨_, rfl⟩
                  have e6 : L6.length = done.length + 1 := by rw [hL6]; simp
                  rw [← hL6, ← e6] at ho6
                  obtain ⟨A6, c6', rfl⟩ := own_slice ho6
                  have S6 : Hid (PSt w (w6.setCell ⟨w.heap.size, 1, none⟩ (.slice A6 L6.length c6')) s A6 c6' L6 dp bw) := by
                    have := PSt.more (x := ⟨false, L, A3, c3⟩) S4.out P4.out (by rw [← hL6]; exact ho6) hg6
                    rw [← hL6] at this
                    exact this
                  have B6 : Hid (∀ x ∈ L6, PtBnd x) := fun y hy => by
                    rw [hL6] at hy
                    rcases List.mem_append.1 hy with hy | hy
                    · exact hbd.out y hy
                    · rw [List.mem_singleton] at hy
                      subst hy
                      exact PB.out
                  have M6 : Hid (R = ((ptsP ((bytes l2).drop (k + 1))).map (fun ps => L6.map PtM.pt ++ ps)).map (fun ps => (⟨ps, dp, bw⟩ : PPat))) := by
                    unfold Hid
                    rw [QN.out, hL6, List.map_append]
                    cases ptsP ((bytes l2).drop (k + 1)) <;> simp
                  have Q6 : Hid (Blk (w6.setCell ⟨w.heap.size, 1, none⟩ (.slice A6 L6.length c6')) 9 (some ⟨b, o, none⟩) (strsV l2)) := by
                    exact KB6.out.kp (Kp.touch b6 ((Touch.refl (fun j => j = w.heap.size) w6).setCell (p := ⟨w.heap.size, 1, none⟩) (.inl rfl) (.slice A6 L6.length c6'))) (by decide)
                  have HE6 := Lib.hid e6
                  clear ho6 hg6 hL6 e6 k6 b6 O4 N4 S4 cb
                  go_wp2
                  go_roundw
                  case rel => first | exact ⟨k + 1, c6', A6, L6, by go_num, by omega, by have := HE6.out; omega, S6, Q6, B6, M6⟩ | ((repeat apply Exists.intro); refine ⟨?_, rfl⟩; exact ⟨k + 1, c6', A6, L6, by go_num, by omega, by have := HE6.out; omega, S6, Q6, B6, M6⟩)
                  case measure => simp [intOf]; omega
end Go.Proofs.YtmagidkgajmhoaaDoor
