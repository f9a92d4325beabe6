/- GlV: Read. -/
import Derived.Test.YtmagidkgajmhoaaDoorGlU
set_option linter.unusedVariables false
set_option linter.unusedSimpArgs false
namespace Go.Proofs.YtmagidkgajmhoaaDoor
open Go.RowKit

theorem RdPat.kp {e : TypeId} {w w' : World} {gp : Nat} {m : PatM} (h : RdPat w gp m) (hk : Kp e w w') (h0 : 48 ≠ e) (h1 : 51 ≠ e) (h2 : 74 ≠ e) (h3 : 86 ≠ e) : RdPat w' gp m := ⟨hk _ _ _ h0 h.1, h.2.1.kp hk h1 h2 h3, h.2.2⟩
/-- A rule that is read. -/
structure RlM where
  i : Bool
  gp : Nat
  m : PatM
def RlM.rl (x : RlM) : Bool × PPat := (x.i, x.m.pat)
def rlv : List RlM → List Value
  | [] => []
  | x :: r => .bool x.i :: .pointer (some ⟨x.gp, 0, none⟩) :: rlv r
theorem rlv_len : ∀ L : List RlM, (rlv L).length = L.length * 2
  | [] => rfl
  | x :: r => by simp only [rlv, List.length_cons, rlv_len r]; omega
theorem rlv_app : ∀ a b : List RlM, rlv (a ++ b) = rlv a ++ rlv b
  | [], b => rfl
  | x :: a, b => by simp only [List.cons_append, rlv, rlv_app a b]
theorem rlv_one : ∀ (L : List RlM), ∀ u ∈ rlv L, u.oneCell' = true
  | [], u, h => by cases h
  | x :: r, u, h => by
    simp only [rlv, List.mem_cons] at h
    rcases h with rfl | rfl | h
    · rfl
    · rfl
    · exact rlv_one r u h
theorem rlv_get : ∀ (L : List RlM) (k : Nat) (h : k < L.length), (rlv L)[k * 2]? = some (.bool L[k].i) ∧ (rlv L)[k * 2 + 1]? = some (.pointer (some ⟨L[k].gp, 0, none⟩))
  | x :: r, 0, _ => ⟨rfl, rfl⟩
  | x :: r, k + 1, h => by
    have := rlv_get r k (by simpa using h)
    rw [show (k + 1) * 2 = k * 2 + 2 by omega]
    exact this
theorem infoRl : (Tryd.prog.info? 67).map (fun i => (i.zero, i.size, i.bytes)) = some (some (.agg #[.bool false, .pointer none]), 2, 16) := by kernel_rfl
/-- Rules that are read. -/
def RdRls (w : World) (gr : Nat) (L : List RlM) : Prop := (∃ A c, w.heap[gr]? = some (.cells #[.slice A L.length c] 64 (0, 0)) ∧ Blk w 67 A (rlv L)) ∧ L.length ≤ 64 ∧ ∀ x ∈ L, RdPat w x.gp x.m
theorem RdRls.under {w w' : World} {gr : Nat} {L : List RlM} (h : RdRls w gr L) (hb : Below w.heap.size w w') : RdRls w' gr L := by
  obtain ⟨⟨A, c, h1, h2⟩, h3, h4⟩ := h
  exact ⟨⟨A, c, (hb.block _ (lt_block h1)).trans h1, h2.below hb⟩, h3, fun x hx => (h4 x hx).under hb⟩
/-- What holds amid Read. -/
structure RSt (w wr : World) (A : Option Addr) (c : Nat) (L : List RlM) : Prop where
  box : wr.heap[w.heap.size]? = some (.cells #[.slice A L.length c] 64 (0, 0))
  own : wr.ownsRow (w.heap.size + 1) 67 2 (.slice A L.length c) L.length (rlv L)
  pats : ∀ x ∈ L, RdPat wr x.gp x.m
  bel : Below w.heap.size w wr
theorem RSt.under {w wr w' : World} {A : Option Addr} {c : Nat} {L : List RlM} (h : RSt w wr A c L) (hb : Below wr.heap.size wr w') : RSt w w' A c L :=
  ⟨(hb.block _ (lt_block h.box)).trans h.box, own_touch h.own (Touch.of_below hb : Touch (fun _ => False) wr w') (fun _ _ x => x), fun x hx => (h.pats x hx).under hb, h.bel.trans (hb.mono h.bel.size)⟩
theorem RSt.first (w : World) : RSt w (w.alloc (.cells #[.slice none 0 0] 64)) none 0 [] :=
  ⟨blk_new w _, World.ownsRow_nil _ _ _ _, (fun x hx => by cases hx), (Below.refl _ w).alloc (Nat.le_refl _) _⟩
theorem RSt.more {w wr w2 : World} {A A2 : Option Addr} {c c2 : Nat} {L : List RlM} {x : RlM} (h : RSt w wr A c L) (hx : RdPat wr x.gp x.m)
    (ho : w2.ownsRow (w.heap.size + 1) 67 2 (.slice A2 (L ++ [x]).length c2) (L ++ [x]).length (rlv (L ++ [x]))) (hg : wr.grownBy w2 (Value.slice A L.length c).ownBlock) :
    RSt w (w2.setCell ⟨w.heap.size, 0, none⟩ (.slice A2 (L ++ [x]).length c2)) A2 c2 (L ++ [x]) := by
  have kg := Kp.grown h.own hg
  have hb2 : w2.heap[w.heap.size]? = some (.cells #[.slice A L.length c] 64 (0, 0)) := kg _ _ _ (by decide) h.box
  have b2 : Below w.heap.size w w2 := h.bel.grown hg h.bel.size (fun j hj => by have := (h.own.lt j hj).1; omega)
  have T : Touch (fun j => j = w.heap.size) w2 (w2.setCell ⟨w.heap.size, 0, none⟩ (.slice A2 (L ++ [x]).length c2)) := (Touch.refl (fun j => j = w.heap.size) w2).setCell (p := ⟨w.heap.size, 0, none⟩) (.inl rfl) _
  have kp := Kp.touch hb2 T
  refine ⟨?_, own_touch ho T (fun j hj e => by have := (ho.lt j hj).1; omega), fun y hy => ?_, b2.trans (T.below b2.size (fun j hj => by rw [hj]; exact Nat.le_refl _))⟩
  · have := blk_set hb2 0 (.slice A2 (L ++ [x]).length c2)
    simpa using this
  · have : RdPat wr y.gp y.m := by
      rcases List.mem_append.1 hy with hy | hy
      · exact h.pats y hy
      · rw [List.mem_singleton] at hy
        subst hy
        exact hx
    exact (this.kp kg (by decide) (by decide) (by decide) (by decide)).kp kp (by decide) (by decide) (by decide) (by decide)
def ReadTo (w : World) (s : ByteArray) (e : Ending) (w' : World) : Prop :=
  (readP (dat s) = none ∧ (∃ (n er : Int), e = .returned (.tuple #[.pointer none, .int .i64 n, .int .i64 er]) ∧ (er == 0) = false) ∧ Below w.heap.size w w') ∨
  ∃ (gr : Nat) (L : List RlM), readP (dat s) = some (L.map RlM.rl) ∧ e = .returned (.tuple #[.pointer (some ⟨gr, 0, none⟩), .int .i64 0, .int .i64 0]) ∧ RdRls w' gr L ∧ Below w.heap.size w w'
theorem dat_tail2 (x : ByteArray) : dat (x.extract 2 x.size) = (dat x).drop 2 := dat_from x 2
set_option maxHeartbeats 6400000 in
set_option maxRecDepth 100000 in
theorem read_any (w : World) (s : ByteArray) :
    Calls Tryd.prog 16 #[.string s] w fun e w' => ReadTo w s e w' := by
  obtain ⟨i0, hi0, hz0, hz1, hz2⟩ := info_parts infoRl
  by_cases h4 : 4096 < s.size
  · have HN : Hid (readP (dat s) = none) := by unfold Hid readP; rw [if_pos (by rw [datsz]; exact h4)]
    have hi : (4096 : Int) < (s.size : Int) := by omega
    go_enter Tryd.func16, Tryd.ntmps16
    go_wp2
    go_ret3
    exact .inl ⟨HN.out, ⟨0, 2, rfl, rfl⟩, Below.refl _ _⟩
  have hi4 : ¬ (4096 : Int) < (s.size : Int) := by omega
  obtain ⟨R, hR⟩ : ∃ R, R = readP (dat s) := ⟨_, rfl⟩
  obtain ⟨W1, hW1⟩ : ∃ W, W = w.alloc (.cells #[.slice none 0 0] 64) := ⟨_, rfl⟩
  have S1 : Hid (RSt w W1 none 0 []) := by rw [hW1]; exact RSt.first w
  have SP := Lib.hid (split_blk s 10 W1 (by omega))
  have QL : Hid (R = rdR [] (sep 10 (dat s))) := by unfold Hid; rw [hR]; unfold readP; rw [if_neg (by rw [datsz]; exact h4)]
  have HR := Lib.hid hR
  have HW1 := Lib.hid hW1
  have h4' : s.size ≤ 4096 := by omega
  clear hR hW1 h4
  go_enter Tryd.func16, Tryd.ntmps16
  go_wp2_with fail
  rw [← HW1.out]
  refine SP.out.mono ?_
  rintro e w1 ⟨g, ps, rfl, hb, hbk, hgg, b1⟩
  have SA := Lib.hid (S1.out.under b1)
  have BK := Lib.hid hbk
  have LB : Hid ((bytes ps).length = ps.length) := by unfold Hid bytes; rw [List.length_map]
  have hpl : ps.length ≤ 4097 := by
    have := sep_len 10 (dat s)
    rw [← hb, LB.out, datsz] at this
    omega
  have RQ : Hid (R = rdR ([].map RlM.rl) ((bytes ps).drop 0)) := by unfold Hid; rw [QL.out, ← hb]; rfl
  clear hbk b1 hb SP S1 QL
  go_wp2_with fail
  go_loopw [20] (fun iv wr => ∃ (k c : Nat) (A : Option Addr) (L : List RlM), iv = .int .i64 (k : Int) ∧ k ≤ ps.length ∧ L.length ≤ 64 ∧ Hid (RSt w wr A c L) ∧ Hid (Blk wr 9 (some ⟨g, 0, none⟩) (strsV ps)) ∧ Hid (R = rdR (L.map RlM.rl) ((bytes ps).drop k))) (fun iv _ => ps.length - (intOf iv).toNat)
  case atStart => exact ⟨0, 0, none, [], rfl, Nat.zero_le _, by decide, SA, BK, RQ⟩
  case round =>
    obtain ⟨k, c, A, L, rfl, hk, hL, hst, hbk, hq⟩ := hrel
    clear RQ SA BK
    by_cases hlt : k < ps.length
    case neg =>
      have hki : ¬ (k : Int) < (ps.length : Int) := by omega
      have QE : Hid (readP (dat s) = some (L.map RlM.rl)) := by
        unfold Hid
        rw [← HR.out, hq.out, List.drop_eq_nil_of_le (by have := LB.out; omega)]
        rfl
      have RP : Hid (RdRls wr w.heap.size L) := ⟨⟨A, c, hst.out.box, blk_own hst.out.own⟩, hL, hst.out.pats⟩
      go_wp2
      go_ret3
      exact .inr ⟨w.heap.size, L, QE.out, rfl, RP.out, hst.out.bel⟩
    have hki : (k : Int) < (ps.length : Int) := by omega
    obtain ⟨b, o, hbo, lc⟩ := hbk.out.cells (strsV_ne (by omega))
    obtain ⟨rfl, rfl⟩ : b = g ∧ o = 0 := by cases hbo; exact ⟨rfl, rfl⟩
    have cx := lc k (.string ps[k]) (by unfold strsV; rw [List.getElem?_map, List.getElem?_eq_getElem hlt]; rfl)
    rw [Nat.zero_add] at cx
    have DK : Hid ((bytes ps).drop k = dat ps[k] :: (bytes ps).drop (k + 1)) := by
      unfold Hid
      rw [List.drop_eq_getElem_cons (by have := LB.out; omega)]
      congr 1
      unfold bytes
      rw [List.getElem_map]
    generalize ps[k] = x at cx DK
    have wkk : IntKind.i64.wrap ((k : Int) + 1) = (k : Int) + 1 := by rw [IntKind.wrap_i64]; omega
    have SK : Hid (skipB (dat x) = true → R = rdR (L.map RlM.rl) ((bytes ps).drop (k + 1))) := fun h => by
      rw [hq.out, DK.out, rdR, if_pos h]
    clear lc hbo
    by_cases hx0 : dat x = []
    · have E0 : (x.toList == []) = true := by rw [Lib.toList_data]; exact beq_iff_eq.2 hx0
      have E1 : x.toList.isEmpty = true := by rw [Lib.toList_data]; show (dat x).isEmpty = true; rw [hx0]; rfl
      have QN := Lib.hid (SK.out (by rw [hx0]; rfl))
      clear hq DK hx0
      go_wp2
      go_roundw
      case rel => first | exact ⟨k + 1, c, A, L, by go_num, hlt, hL, hst, hbk, QN⟩ | ((repeat apply Exists.intro); refine ⟨?_, rfl⟩; exact ⟨k + 1, c, A, L, by go_num, hlt, hL, hst, hbk, QN⟩)
      case measure => simp [intOf]; omega
    have hxs : 0 < x.size := by rw [← datsz]; exact List.length_pos_iff.2 hx0
    have E0 : (x.toList == []) = false := by rw [Lib.toList_data]; exact beq_false_of_ne hx0
    have E1 : x.toList.isEmpty = false := by
      rw [Lib.toList_data]
      show (dat x).isEmpty = false
      cases h : dat x with
      | nil => exact absurd h hx0
      | cons a r => rfl
    have hxi : (0 : Int) < (x.size : Int) := by omega
    have E35 : ((((x[0]'hxs).toNat : Nat) : Int) == 35) = headIs (dat x) 35 := by
      rw [show ((((x[0]'hxs).toNat : Nat) : Int) == 35) = (x[0]'hxs == 35) from u8_lit _ 35]
      have := dat_drop hxs
      rw [List.drop_zero] at this
      rw [this]
      unfold headIs
      rw [Bool.eq_iff_iff, beq_iff_eq, beq_iff_eq]
      exact ⟨fun h => h.symm, fun h => h.symm⟩
    cases h35 : headIs (dat x) 35 with
    | true =>
      rw [h35] at E35
      have QN := Lib.hid (SK.out (by unfold skipB; rw [h35, Bool.or_true]))
      clear hq DK hx0 h35
      go_wp2
      go_roundw
      case rel => first | exact ⟨k + 1, c, A, L, by go_num, hlt, hL, hst, hbk, QN⟩ | ((repeat apply Exists.intro); refine ⟨?_, rfl⟩; exact ⟨k + 1, c, A, L, by go_num, hlt, hL, hst, hbk, QN⟩)
      case measure => simp [intOf]; omega
    | false =>
      rw [h35] at E35
      have hsk : skipB (dat x) = false := by
        unfold skipB
        rw [h35, Bool.or_false]
        cases h : dat x with
        | nil => exact absurd h hx0
        | cons a r => rfl
      have QS : Hid (R = if Lib.hasPrefix (dat x) [43, 32] || Lib.hasPrefix (dat x) [45, 32] then (match parseP ((dat x).drop 2) with
          | none => none
          | some P => if (L.map RlM.rl).length = 64 then none else rdR (L.map RlM.rl ++ [(Lib.hasPrefix (dat x) [43, 32], P)]) ((bytes ps).drop (k + 1))) else none) := by
        unfold Hid
        rw [hq.out, DK.out, rdR, if_neg (by rw [hsk]; decide)]
        cases parseP ((dat x).drop 2) <;> rfl
      have P2 : Hid ((Lib.hasPrefix (dat x) [43, 32] || Lib.hasPrefix (dat x) [45, 32]) = true → 2 ≤ x.size) := fun h => by
        rw [Bool.or_eq_true] at h
        rw [← datsz]
        rcases h with h | h <;>
        · have := (List.isPrefixOf_iff_prefix.1 h).length_le
          exact this
      have PX1 : Hid (∀ W : World, Calls Tryd.prog 32 #[.string x, .string ⟨#[43, 32]⟩] W fun e w' => e = .returned (.bool (Lib.hasPrefix (dat x) [43, 32])) ∧ W = w') := fun W => prefix_any x ⟨#[43, 32]⟩ W
      have PX2 : Hid (∀ W : World, Calls Tryd.prog 32 #[.string x, .string ⟨#[45, 32]⟩] W fun e w' => e = .returned (.bool (Lib.hasPrefix (dat x) [45, 32])) ∧ W = w') := fun W => prefix_any x ⟨#[45, 32]⟩ W
      clear hq DK hx0 h35 SK hsk
      generalize Lib.hasPrefix (dat x) [43, 32] = p1 at QS P2 PX1
      generalize Lib.hasPrefix (dat x) [45, 32] = p2 at QS P2 PX2
      go_wp2_with fail
      refine (PX1.out _).mono ?_
      rintro e w2 ⟨rfl, rfl⟩
      go_wp2_with fail
      refine (PX2.out _).mono ?_
      rintro e w2 ⟨rfl, rfl⟩
      obtain ⟨wo, hwo⟩ : ∃ wo, wo = wr := ⟨_, rfl⟩
      subst hwo
      obtain ⟨pq, hpq⟩ : ∃ b, b = (p1 || p2) := ⟨_, rfl⟩
      rw [← hpq] at QS P2
      have HPQ := Lib.hid hpq
      clear hpq
      go_upto_region 9 with fail
      go_cut [41] from 37 to 41 (fun cv wx => cv = .bool (!pq) ∧ wx = wo)
      case first =>
        cases p1 with
        | true =>
          have hz : Hid (pq = true) := by unfold Hid; rw [HPQ.out]; rfl
          go_wp2_with fail
          go_meet
          exact ⟨by rw [hz.out]; rfl, rfl⟩
        | false =>
          have hz : Hid (pq = p2) := by unfold Hid; rw [HPQ.out]; rfl
          go_wp2_with fail
          go_meet
          exact ⟨by rw [hz.out], rfl⟩
      case rest =>
        obtain ⟨rfl, rfl⟩ := hcut
        cases pq with
        | false =>
          have QN : Hid (readP (dat s) = none) := by unfold Hid; rw [← HR.out, QS.out]; rfl
          go_wp2
          go_ret3
          exact .inl ⟨QN.out, ⟨k, 4, rfl, rfl⟩, hst.out.bel⟩
        | true =>
          have h2x : (2 : Int) ≤ (x.size : Int) := by have := P2.out rfl; omega
          have PA := Lib.hid (parse_any wc (x.extract 2 x.size))
          obtain ⟨z, hz⟩ : ∃ z, z = x.extract 2 x.size := ⟨_, rfl⟩
          have DZ : Hid (dat z = (dat x).drop 2) := by unfold Hid; rw [hz]; exact dat_tail2 x
          have QP : Hid (R = match parseP (dat z) with
            | none => none
            | some P => if L.length = 64 then none else rdR (L.map RlM.rl ++ [(p1, P)]) ((bytes ps).drop (k + 1))) := by
            unfold Hid
            rw [QS.out, if_pos rfl, List.length_map, DZ.out]
          rw [← hz] at PA
          have HZ := Lib.hid hz
          clear QS hz DZ P2 HPQ PX1 PX2
          go_wp2_with fail
          rw [← HZ.out]
          refine PA.out.mono ?_
          rintro e w2 (⟨q0, rfl, b2⟩ | ⟨gp, m, q0, q1, rfl, rp, hgp, b2⟩)
          · have QN : Hid (readP (dat s) = none) := by unfold Hid; rw [← HR.out, QP.out, q0]
            have BB := Lib.hid (hst.out.under b2).bel
            obtain ⟨er, her⟩ : ∃ er : Int, er = if 64 < z.size then 2 else 4 := ⟨_, rfl⟩
            have ne : (er == 0) = false := by rw [her]; split <;> rfl
            rw [← her]
            clear b2 q0 her
            go_wp2
            go_ret3
            exact .inl ⟨QN.out, ⟨k, 4, rfl, rfl⟩, BB.out⟩
          · have QN : Hid (R = if L.length = 64 then none else rdR (L.map RlM.rl ++ [(p1, m.pat)]) ((bytes ps).drop (k + 1))) := by unfold Hid; rw [QP.out, q0]
            have S2 := Lib.hid (hst.out.under b2)
            have BK2 := Lib.hid (hbk.out.below b2)
            have RP := Lib.hid rp
            have cb := blk_cell S2.out.box 0
            simp at cb
            clear q0 q1 rp b2 QP
            by_cases h64 : L.length = 64
            · have h64i : ((L.length : Int) == 64) = true := beq_iff_eq.2 (by omega)
              have QR : Hid (readP (dat s) = none) := by unfold Hid; rw [← HR.out, QN.out, if_pos h64]
              clear h64
              go_wp2
              go_ret3
              exact .inl ⟨QR.out, ⟨k, 2, rfl, rfl⟩, S2.out.bel⟩
            have h64i : ((L.length : Int) == 64) = false := beq_false_of_ne (by omega)
            have QM : Hid (R = rdR ((L ++ [(⟨p1, gp, m⟩ : RlM)]).map RlM.rl) ((bytes ps).drop (k + 1))) := by unfold Hid; rw [QN.out, if_neg h64, List.map_append]; rfl
            have hL6 : L.length + 1 ≤ 64 := by omega
            obtain ⟨W4, hW4⟩ : ∃ W, W = w2.alloc (.cells #[.bool p1, .pointer (some ⟨gp, 0, none⟩)] 67) := ⟨_, rfl⟩
            have K4 : Below w2.heap.size w2 W4 := by rw [hW4]; exact (Below.refl _ w2).alloc (Nat.le_refl _) _
            have S4 := Lib.hid (S2.out.under K4)
            have P4 := Lib.hid (RP.out.under K4)
            have N4 : Hid (∀ j u, (rlv [⟨p1, gp, m⟩])[j]? = some u → W4.cell? ((⟨w2.heap.size, 0, none⟩ : Addr).add j) = some u) := by
              intro j u hj
              have hb := blk_new w2 (.cells #[.bool p1, .pointer (some ⟨gp, 0, none⟩)] 67)
              rw [← hW4] at hb
              match j, hj with
              | 0, hj => simp [rlv] at hj; subst hj; rw [show (⟨w2.heap.size, 0, none⟩ : Addr).add 0 = ⟨w2.heap.size, 0, none⟩ from rfl, blk_cell hb]; rfl
              | 1, hj => simp [rlv] at hj; subst hj; rw [show (⟨w2.heap.size, 0, none⟩ : Addr).add 1 = ⟨w2.heap.size, 1, none⟩ from rfl, blk_cell hb]; rfl
              | j + 2, hj => simp [rlv] at hj
            have O4 := Lib.hid S4.out.own
            have L4 : Hid (w.heap.size + 1 ≤ W4.heap.size) := lt_block S4.out.box
            have KB4 := Lib.hid (BK2.out.below K4)
            have HW4 := Lib.hid hW4
            clear K4 hW4 h64 QN
            go_wp2_with (at_builtin; rw [← HW4.out]; refine (wpList_append_own_at _ rfl (.tmp 63) (.tmp 67) 62 rfl (w.heap.size + 1) 67 i0 _ 2 16 Tryd.underlying62 hi0 hz0 hz1 hz2 rfl (by decide) (.slice A L.length c) L.length (rlv L) rfl O4.out ⟨w2.heap.size, 0, none⟩ 1 1 (rlv [⟨p1, gp, m⟩]) rfl rfl N4.out (rlv_one _) (by unfold maxLen; omega) (by omega) L4.out ?_))
            intro v6 w6 ho6 hg6 _ _
            rw [← rlv_app] at ho6
            have k6 := Kp.grown O4.out hg6
            have b6 := k6 _ _ _ (by decide) S4.out.box
            have fz6 := fz_no b6 0
            have c6 := blk_cell b6 0
            simp at c6
            have KB6 := Lib.hid (KB4.out.kp k6 (by decide))
            obtain ⟨L6, hL6⟩ : ∃ L6, L6 = L ++ [(⟨p1, gp, m⟩ : RlM)] := ⟨_, rfl⟩
            have e6 : L6.length = L.length + 1 := by rw [hL6]; simp
            rw [← hL6, ← e6] at ho6
            obtain ⟨A6, c6', rfl⟩ := own_slice ho6
            have S6 : Hid (RSt w (w6.setCell ⟨w.heap.size, 0, none⟩ (.slice A6 L6.length c6')) A6 c6' L6) := by
              have := RSt.more (x := ⟨p1, gp, m⟩) S4.out P4.out (by rw [← hL6]; exact ho6) hg6
              rw [← hL6] at this
              exact this
            rw [← hL6] at QM
            have Q6 : Hid (Blk (w6.setCell ⟨w.heap.size, 0, none⟩ (.slice A6 L6.length c6')) 9 (some ⟨b, 0, none⟩) (strsV ps)) := by
              exact KB6.out.kp (Kp.touch b6 ((Touch.refl (fun j => j = w.heap.size) w6).setCell (p := ⟨w.heap.size, 0, none⟩) (.inl rfl) (.slice A6 L6.length c6'))) (by decide)
            have HE6 := Lib.hid e6
            clear ho6 hg6 hL6 e6 k6 b6 O4 N4 S4 cb
            go_wp2
            go_roundw
            case rel => first | exact ⟨k + 1, c6', A6, L6, by go_num, by omega, by have := HE6.out; omega, S6, Q6, QM⟩ | ((repeat apply Exists.intro); refine ⟨?_, rfl⟩; exact ⟨k + 1, c6', A6, L6, by go_num, by omega, by have := HE6.out; omega, S6, Q6, QM⟩)
            case measure => simp [intOf]; omega
end Go.Proofs.YtmagidkgajmhoaaDoor
