/- GlZ: GlobLast's walk. -/
import Derived.Test.YtmagidkgajmhoaaDoorGlY
import Derived.Test.YtmagidkgajmhoaaDoorGlOq
set_option linter.unusedVariables false
set_option linter.unusedSimpArgs false
namespace Go.Proofs.YtmagidkgajmhoaaDoor
open Go.RowKit

theorem read_bad (w : World) (s : ByteArray) (h : readP (dat s) = none) :
    Calls Tryd.prog 16 #[.string s] w fun e w' => ∃ (n er : Int), e = .returned (.tuple #[.pointer none, .int .i64 n, .int .i64 er]) ∧ (er == 0) = false ∧ Below w.heap.size w w' := by
  refine (read_any w s).mono ?_
  rintro e w' (⟨h1, ⟨n, er, h2, h3⟩, h4⟩ | ⟨gr, L, h1, h2, h3, h4⟩)
  · exact ⟨n, er, h2, h3, h4⟩
  · rw [h] at h1; cases h1
theorem parse_bad (w : World) (s : ByteArray) (h : parseP (dat s) = none) :
    Calls Tryd.prog 10 #[.string s] w fun e w' => ∃ er : Int, e = .returned (.tuple #[.pointer none, .int .i64 er]) ∧ (er == 0) = false ∧ Below w.heap.size w w' := by
  refine (parse_any w s).mono ?_
  rintro e w' (⟨h1, h2, h3⟩ | ⟨gp, m, h1, h2, h3, h4, h5, h6⟩)
  · exact ⟨_, h2, by split <;> rfl, h3⟩
  · rw [h] at h1; cases h1
theorem parse_some_way (w : World) (s : ByteArray) :
    Calls Tryd.prog 10 #[.string s] w fun e w' => ∃ (pp : Option Addr) (er : Int), e = .returned (.tuple #[.pointer pp, .int .i64 er]) ∧ Below w.heap.size w w' := by
  refine (parse_any w s).mono ?_
  rintro e w' (⟨h1, h2, h3⟩ | ⟨gp, m, h1, h2, h3, h4, h5, h6⟩)
  · exact ⟨none, _, h2, h3⟩
  · exact ⟨_, 0, h3, h6⟩
def signS (b : Bool) : ByteArray := if b then ⟨#[43, 32]⟩ else ⟨#[45, 32]⟩
set_option maxHeartbeats 6400000 in
set_option maxRecDepth 100000 in
theorem globLast_walk (w : World) (v : Value) (tp : ByteArray × ByteArray) (hv : IsTwo w v tp) (q : ByteArray) (_hq : q.size ≤ 140737488351232) (b : Bool) :
    Calls Tryd.prog 5 #[v, .string q, .bool b] w fun e w' => e = .returned (.bool true) ∧ Below w.heap.size w w' := by
  clear _hq
  obtain ⟨T, p⟩ := tp
  obtain rfl : v = .agg #[.string T, .string p] := hv
  obtain ⟨W1, hW1⟩ : ∃ W, W = w.alloc (.cells #[.string T, .string p] 36) := ⟨_, rfl⟩
  have nb := blk_new w (.cells #[.string T, .string p] 36)
  rw [← hW1] at nb
  have c0 : W1.drew.cell? ⟨w.heap.size, 0, none⟩ = some (.string T) := by
    have := blk_cell nb 0
    simpa using this
  have c1 : W1.drew.cell? ⟨w.heap.size, 1, none⟩ = some (.string p) := by
    have := blk_cell nb 1
    simpa using this
  have B1 : Hid (Below w.heap.size w W1.drew) := by
    have h : Below w.heap.size w W1 := by rw [hW1]; exact (Below.refl _ w).alloc (Nat.le_refl _) _
    exact h.drew
  have HW1 := Lib.hid hW1
  clear nb hW1
  go_enter Tryd.func5, Tryd.ntmps5
  go_wp2_with fail
  rw [← HW1.out]
  refine wp_region_flag (fun w' => w'.cell? ⟨w.heap.size, 0, none⟩ = some (.string T) ∧ w'.cell? ⟨w.heap.size, 1, none⟩ = some (.string p)) [(0, 1), (2, 1), (1, 2), (4, 1), (3, 0), (5, 1)] (by kernel_rfl) (by kernel_rfl) ⟨c0, c1⟩ ?_
  simp only [ordered, List.map_cons, List.map_nil, List.getD_cons_zero, List.getD_cons_succ]
  repeat (refine wpF_dry (fun K hK => ?_); go_simp; refine hK _ ?_; clear hK K)
  refine wpF_read (.string T) rfl (fun w' hS => by obtain ⟨s0, s1⟩ := hS; go_simp) (fun K hK => ?_); go_simp; refine hK _ ?_; clear hK K
  repeat (refine wpF_dry (fun K hK => ?_); go_simp; refine hK _ ?_; clear hK K)
  refine wpF_do ?_
  go_wp2_with fail
  refine ⟨⟨c0, c1⟩, ?_⟩
  repeat (refine wpF_dry (fun K hK => ?_); go_simp; refine hK _ ?_; clear hK K)
  refine wpF_nil ?_
  obtain ⟨w1, hw1⟩ : ∃ w1, w1 = W1.drew := ⟨_, rfl⟩
  rw [← hw1] at B1 ⊢
  clear c0 c1 hw1 HW1
  by_cases h3 : 3000 < T.size
  · have i3 : (3000 : Int) < (T.size : Int) := by omega
    go_wp2_with fail
    refine (glives_any _).mono ?_
    rintro e wl ⟨rfl, bl⟩
    have BL : Hid (Below w.heap.size w wl) := B1.out.trans (bl.mono B1.out.size)
    clear bl
    go_wp2
    go_ret
    exact ⟨rfl, BL.out⟩
  have i3 : ¬ (3000 : Int) < (T.size : Int) := by omega
  by_cases h6 : 64 < p.size
  · have i6 : (64 : Int) < (p.size : Int) := by omega
    go_wp2_with fail
    refine (glives_any _).mono ?_
    rintro e wl ⟨rfl, bl⟩
    have BL : Hid (Below w.heap.size w wl) := B1.out.trans (bl.mono B1.out.size)
    clear bl
    go_wp2
    go_ret
    exact ⟨rfl, BL.out⟩
  have i6 : ¬ (64 : Int) < (p.size : Int) := by omega
  by_cases h2 : 200 < q.size
  · have i2 : (200 : Int) < (q.size : Int) := by omega
    go_wp2_with fail
    refine (glives_any _).mono ?_
    rintro e wl ⟨rfl, bl⟩
    have BL : Hid (Below w.heap.size w wl) := B1.out.trans (bl.mono B1.out.size)
    clear bl
    go_wp2
    go_ret
    exact ⟨rfl, BL.out⟩
  have i2 : ¬ (200 : Int) < (q.size : Int) := by omega
  cases hT : readP (dat T) with
  | none =>
    have HT := Lib.hid hT
    clear hT
    go_wp2_with fail
    refine (read_bad _ T HT.out).mono ?_
    rintro e w2 ⟨n, er, rfl, hne, b2⟩
    have hne3 : ¬ er = 0 := fun h => by rw [h] at hne; cases hne
    have hne2 : (er != 0) = true := by rw [bne, hne]; rfl
    have B2 : Hid (Below w.heap.size w w2) := B1.out.trans (b2.mono B1.out.size)
    clear b2
    go_wp2_with fail
    refine (parse_some_way _ p).mono ?_
    rintro e w3 ⟨pp, er3, rfl, b3⟩
    have B3 : Hid (Below w.heap.size w w3) := B2.out.trans (b3.mono B2.out.size)
    clear b3
    go_wp2_with fail
    refine (glives_any _).mono ?_
    rintro e wl ⟨rfl, bl⟩
    have BL : Hid (Below w.heap.size w wl) := B3.out.trans (bl.mono B3.out.size)
    clear bl
    go_wp2
    go_ret
    exact ⟨rfl, BL.out⟩
  | some R =>
  have HT := Lib.hid hT
  clear hT
  go_wp2_with fail
  refine (read_some _ T R HT.out).mono ?_
  rintro e w2 ⟨g1, L1, hL1, rfl, r1, b2⟩
  have Q1 := Lib.hid r1
  have HL1 := Lib.hid hL1
  have HLN : Hid (L1.length = R.length) := by unfold Hid; rw [← hL1, List.length_map]
  have R64 : R.length ≤ 64 := by have := r1.2.1; have := HLN.out; omega
  have B2 : Hid (Below w.heap.size w w2) := B1.out.trans (b2.mono B1.out.size)
  clear b2 r1 hL1
  cases hp : parseP (dat p) with
  | none =>
    have HP := Lib.hid hp
    clear hp
    go_wp2_with fail
    refine (parse_bad _ p HP.out).mono ?_
    rintro e w3 ⟨er, rfl, hne, b3⟩
    have hne3 : ¬ er = 0 := fun h => by rw [h] at hne; cases hne
    have hne2 : (er != 0) = true := by rw [bne, hne]; rfl
    have B3 : Hid (Below w.heap.size w w3) := B2.out.trans (b3.mono B2.out.size)
    clear b3
    go_wp2_with fail
    refine (glives_any _).mono ?_
    rintro e wl ⟨rfl, bl⟩
    have BL : Hid (Below w.heap.size w wl) := B3.out.trans (bl.mono B3.out.size)
    clear bl
    go_wp2
    go_ret
    exact ⟨rfl, BL.out⟩
  | some P =>
  have HP := Lib.hid hp
  clear hp
  go_wp2_with fail
  refine (parse_some _ p P HP.out).mono ?_
  rintro e w3 ⟨gp, m, hm, htx, rfl, rp, hgp, b3⟩
  have HM := Lib.hid hm
  have RP := Lib.hid rp
  have Q1 := Lib.hid (Q1.out.under b3)
  have B3 : Hid (Below w.heap.size w w3) := B2.out.trans (b3.mono B2.out.size)
  clear b3 rp hm htx hgp
  go_wp2_with fail
  refine (refgood_any q _).mono ?_
  rintro e w4 ⟨rfl, b4⟩
  have RP := Lib.hid (RP.out.under b4)
  have Q1 := Lib.hid (Q1.out.under b4)
  have B4 : Hid (Below w.heap.size w w4) := B3.out.trans (b4.mono B3.out.size)
  clear b4
  cases hg : goodB (dat q) with
  | false =>
    clear hg
    go_wp2_with fail
    refine (glives_any _).mono ?_
    rintro e wl ⟨rfl, bl⟩
    have BL : Hid (Below w.heap.size w wl) := B4.out.trans (bl.mono B4.out.size)
    clear bl
    go_wp2
    go_ret
    exact ⟨rfl, BL.out⟩
  | true =>
  have HG := Lib.hid hg
  clear hg
  have GL := Lib.hid (glives_any w4)
  go_wp2_with fail
  go_loopw [14] (fun jv wr => ∃ j : Nat, jv = .int .i64 (j : Int) ∧ j ≤ p.size ∧ wr = w4 ∧ Hid (∀ i (h : i < j) (hx : i < p.size), p[i] ≠ 10)) (fun jv _ => p.size - (intOf jv).toNat)
  case atStart => exact ⟨0, rfl, Nat.zero_le _, rfl, fun i h _ => by omega⟩
  case round =>
    obtain ⟨j, rfl, hj, rfl, hall⟩ := hrel
    have wkj : IntKind.i64.wrap ((j : Int) + 1) = (j : Int) + 1 := by rw [IntKind.wrap_i64]; omega
    by_cases hjl : j < p.size
    case pos =>
      have hji : (j : Int) < (p.size : Int) := by omega
      have E10 : ((((p[j]).toNat : Nat) : Int) == 10) = (p[j] == 10) := u8_lit _ 10
      by_cases h10 : p[j] = 10
      · rw [show (p[j] == 10) = true from beq_iff_eq.2 h10] at E10
        clear h10
        go_wp2_with fail
        refine GL.out.mono ?_
        rintro e wl ⟨rfl, bl⟩
        have BL : Hid (Below w.heap.size w wl) := B4.out.trans (bl.mono B4.out.size)
        clear bl
        go_wp2
        go_ret
        exact ⟨rfl, BL.out⟩
      · rw [show (p[j] == 10) = false from beq_false_of_ne h10] at E10
        have NN : Hid (∀ i (h : i < j + 1) (hx : i < p.size), p[i] ≠ 10) := fun i h hx => by
          by_cases e : i = j
          · subst e; exact h10
          · exact hall.out i (by omega) hx
        clear h10 hall
        go_wp2
        go_roundw
        case rel => first | exact ⟨j + 1, by go_num, hjl, by trivial, NN⟩ | ((repeat apply Exists.intro); refine ⟨?_, rfl⟩; exact ⟨j + 1, by go_num, hjl, by trivial, NN⟩)
        case measure => simp [intOf]; omega
    case neg =>
      have hji : ¬ (j : Int) < (p.size : Int) := by omega
      have NX : Hid ((10 : UInt8) ∉ dat p) := fun hmm => by
        obtain ⟨i, hi, e⟩ := List.mem_iff_getElem.1 hmm
        rw [datsz] at hi
        rw [dat_get p i hi] at e
        exact hall.out i (by omega) hi e
      obtain ⟨w4, hw4⟩ : ∃ w4, w4 = wr := ⟨_, rfl⟩
      subst hw4
      obtain ⟨sg, hsg⟩ : ∃ sg, sg = signS b := ⟨_, rfl⟩
      have HSG := Lib.hid hsg
      have sg2 : sg.size = 2 := by rw [hsg]; unfold signS; cases b <;> rfl
      have RM : Hid (readP (dat (T ++ ⟨#[10]⟩ ++ sg ++ p)) = if R.length = 64 then none else some (R ++ [(b, P)])) := by
        unfold Hid
        have e : dat (T ++ ⟨#[10]⟩ ++ sg ++ p) = dat T ++ 10 :: ((if b then [43, 32] else [45, 32]) ++ dat p) := by
          rw [dat_append, dat_append, dat_append, hsg]
          unfold signS
          cases b <;> simp [dat]
        rw [e]
        exact read_more b HT.out HP.out NX.out (by rw [datsz]; omega) (by rw [datsz]; omega)
      clear hall NX hsg
      go_upto_if 74 with fail
      go_cut [15] (fun sv wx => sv = .string sg ∧ wx = w4)
      case first =>
        have H2 := HSG.out
        unfold signS at H2
        cases b with
        | true =>
          have H3 : Hid (sg = ⟨#[43, 32]⟩) := H2
          clear H2
          go_wp2_with fail
          go_meet
          exact ⟨by rw [H3.out], rfl⟩
        | false =>
          have H3 : Hid (sg = ⟨#[45, 32]⟩) := H2
          clear H2
          go_wp2_with fail
          go_meet
          exact ⟨by rw [H3.out], rfl⟩
      case rest =>
        obtain ⟨rfl, rfl⟩ := hcut
        have nb1 : ¬ 9223372036854775807 < T.size + 1 := by omega
        have nb2 : ¬ 9223372036854775807 < T.size + 1 + sg.size := by omega
        have nb3 : ¬ 9223372036854775807 < T.size + 1 + sg.size + p.size := by omega
        clear GL
        by_cases h64 : R.length = 64
        · have RN : Hid (readP (dat (T ++ ⟨#[10]⟩ ++ sg ++ p)) = none) := by unfold Hid; rw [RM.out, if_pos h64]
          have LN : Hid (L1.length = 64) := by unfold Hid; rw [HLN.out, h64]
          clear RM h64
          go_wp2_with fail
          refine (read_bad _ _ RN.out).mono ?_
          rintro e w5 ⟨n, er, rfl, hne, b5⟩
          have hne3 : ¬ er = 0 := fun h => by rw [h] at hne; cases hne
          have hne2 : (er != 0) = true := by rw [bne, hne]; rfl
          have Q1 := Lib.hid (Q1.out.under b5)
          have B5 : Hid (Below w.heap.size w w5) := B4.out.trans (b5.mono B4.out.size)
          clear b5
          go_wp2_with fail
          refine (len_is _ _ _ 64 LN.out Q1.out).mono ?_
          rintro e w6 ⟨rfl, b6⟩
          have B6 : Hid (Below w.heap.size w w6) := B5.out.trans (b6.mono B5.out.size)
          clear b6
          go_wp2_with fail
          refine (glives_any _).mono ?_
          rintro e wl ⟨rfl, bl⟩
          have BL : Hid (Below w.heap.size w wl) := B6.out.trans (bl.mono B6.out.size)
          clear bl
          go_wp2
          go_ret
          exact ⟨rfl, BL.out⟩
        have RS : Hid (readP (dat (T ++ ⟨#[10]⟩ ++ sg ++ p)) = some (R ++ [(b, P)])) := by unfold Hid; rw [RM.out, if_neg h64]
        clear RM h64
        go_wp2_with fail
        refine (read_some _ _ _ RS.out).mono ?_
        rintro e w5 ⟨g2, L2, hL2, rfl, r2, b5⟩
        have Q2 := Lib.hid r2
        have Q1 := Lib.hid (Q1.out.under b5)
        have RP := Lib.hid (RP.out.under b5)
        have HL2 := Lib.hid hL2
        have HLM : Hid (L2.length = R.length + 1) := by
          unfold Hid
          have := congrArg List.length hL2
          rw [List.length_map, List.length_append] at this
          exact this
        have B5 : Hid (Below w.heap.size w w5) := B4.out.trans (b5.mono B4.out.size)
        clear b5 r2 hL2
        obtain ⟨mq, hmq⟩ : ∃ x, x = metU P (dat q) := ⟨_, rfl⟩
        obtain ⟨lq, hlq⟩ : ∃ x, x = letsP R (dat q) := ⟨_, rfl⟩
        have LQ : Hid (letsP R (dat q) = lq) := hlq.symm
        have MQ : Hid (letsP (R ++ [(b, P)]) (dat q) = if mq then b else lq) := by unfold Hid; rw [letsV_snoc _ _ _ _ HG.out, hmq, hlq]
        have M0 : Hid (mq = (false || metU P (dat q))) := by unfold Hid; rw [hmq]; rfl
        clear hmq hlq
        go_wp2_with fail
        go_loopw [19, 20] (fun mv xv wr => ∃ (y : Bool) (x : ByteArray), mv = .bool y ∧ xv = .string x ∧ Hid (mq = (y || metU P (dat x))) ∧ Hid (Below w5.heap.size w5 wr)) (fun _ xv _ => szOf xv)
        case atStart => exact ⟨false, q, rfl, rfl, M0, Below.refl _ _⟩
        case round =>
          obtain ⟨y, x, rfl, rfl, hq, hbx⟩ := hrel
          clear M0
          have RPx := Lib.hid (RP.out.under hbx.out)
          by_cases hx : dat x = []
          · have E0 : (x.toList == []) = true := by rw [Lib.toList_data]; exact beq_iff_eq.2 hx
            have E1 : x.toList.isEmpty = true := by rw [Lib.toList_data]; show (dat x).isEmpty = true; rw [hx]; rfl
            have QM : Hid (mq = y) := by unfold Hid; rw [hq.out, hx, metU_nil, Bool.or_false]
            have Q1 := Lib.hid (Q1.out.under hbx.out)
            have Q2 := Lib.hid (Q2.out.under hbx.out)
            have B6 : Hid (Below w.heap.size w wr) := B5.out.trans (hbx.out.mono B5.out.size)
            have MQ2 : Hid (letsP (R ++ [(b, P)]) (dat q) = if y then b else lq) := by unfold Hid; rw [MQ.out, QM.out]
            have wkr : IntKind.i64.wrap ((R.length : Int) + 1) = (R.length : Int) + 1 := by rw [IntKind.wrap_i64]; omega
            have EQL : (((R.length + 1 : Nat) : Int) == (R.length : Int) + 1) = true := beq_iff_eq.2 (by omega)
            clear hx hq MQ
            go_wp2_with fail
            refine (lets_is _ _ _ _ _ HL1.out Q1.out _ LQ.out).mono ?_
            rintro e w7 ⟨rfl, b7⟩
            have Q1 := Lib.hid (Q1.out.under b7)
            have Q2 := Lib.hid (Q2.out.under b7)
            have B7 : Hid (Below w.heap.size w w7) := B6.out.trans (b7.mono B6.out.size)
            clear b7
            obtain ⟨lv, hlv⟩ : ∃ x, x = if y then b else lq := ⟨_, rfl⟩
            have MQ3 : Hid (letsP (R ++ [(b, P)]) (dat q) = lv) := by unfold Hid; rw [MQ2.out, hlv]
            have HLV := Lib.hid hlv
            clear hlv MQ2
            obtain ⟨w8, hw8⟩ : ∃ w8, w8 = w7 := ⟨_, rfl⟩
            go_upto_if 108 with fail
            go_cut [21] (fun lvv wx => lvv = .bool lv ∧ wx = w8)
            case first =>
              cases y with
              | true =>
                have e : Hid (lv = b) := by unfold Hid; rw [HLV.out]; rfl
                go_wp2_with fail
                go_meet
                exact ⟨by rw [e.out], hw8.symm⟩
              | false =>
                have e : Hid (lv = lq) := by unfold Hid; rw [HLV.out]; rfl
                go_wp2_with fail
                go_meet
                exact ⟨by rw [e.out], hw8.symm⟩
            case rest =>
              obtain ⟨rfl, hwx⟩ := hcut
              rw [hw8] at hwx
              subst hwx
              clear hw8
              go_wp2_with fail
              refine (lets_is _ _ _ _ _ HL2.out Q2.out _ MQ3.out).mono ?_
              rintro e w9 ⟨rfl, b9⟩
              have Q1 := Lib.hid (Q1.out.under b9)
              have Q2 := Lib.hid (Q2.out.under b9)
              have B9 : Hid (Below w.heap.size w w9) := B7.out.trans (b9.mono B7.out.size)
              clear b9
              go_wp2_with fail
              refine (len_is _ _ _ _ HLM.out Q2.out).mono ?_
              rintro e w10 ⟨rfl, b10⟩
              have Q1 := Lib.hid (Q1.out.under b10)
              have B10 : Hid (Below w.heap.size w w10) := B9.out.trans (b10.mono B9.out.size)
              clear b10
              go_wp2_with fail
              refine (len_is _ _ _ _ HLN.out Q1.out).mono ?_
              rintro e w11 ⟨rfl, b11⟩
              have B11 : Hid (Below w.heap.size w w11) := B10.out.trans (b11.mono B10.out.size)
              clear b11
              go_wp2_with fail
              refine (glives_any _).mono ?_
              rintro e wl ⟨rfl, bl⟩
              have BL : Hid (Below w.heap.size w wl) := B11.out.trans (bl.mono B11.out.size)
              clear bl
              go_wp2
              go_ret
              exact ⟨rfl, BL.out⟩
          have E0 : (x.toList == []) = false := by rw [Lib.toList_data]; exact beq_false_of_ne hx
          have E1 : x.toList.isEmpty = false := by
            rw [Lib.toList_data]
            show (dat x).isEmpty = false
            cases h : dat x with
            | nil => exact absurd h hx
            | cons a r => rfl
          have QX : Hid (mq = ((y || patMeets P (dat x)) || metU P (aboveB (dat x)))) := by unfold Hid; rw [hq.out, metU_step _ hx, Bool.or_assoc]
          have LT : Hid ((aboveB (dat x)).length < (dat x).length) := above_lt hx
          clear hx hq
          cases y with
          | true =>
            go_wp2_with fail
            refine (refabove_any x _).mono ?_
            rintro e wy ⟨x2, rfl, hx2, by2⟩
            have HBY : Hid (Below w5.heap.size w5 wy) := hbx.out.trans (by2.mono hbx.out.size)
            have QN : Hid (mq = (true || metU P (dat x2))) := by unfold Hid; rw [QX.out, hx2]; rfl
            have LS : Hid (x2.size < x.size) := by
              have := LT.out
              rw [← hx2, datsz, datsz] at this
              exact this
            clear by2 hx2 QX
            go_wp2
            go_roundw
            case rel => first | exact ⟨true, x2, rfl, rfl, QN, HBY⟩ | ((repeat apply Exists.intro); refine ⟨?_, rfl⟩; exact ⟨true, x2, rfl, rfl, QN, HBY⟩)
            case measure => first | exact LS.out | (simp [szOf]; exact LS.out)
          | false =>
            obtain ⟨mb, hmb⟩ : ∃ z, z = patMeets P (dat x) := ⟨_, rfl⟩
            have MB : Hid (patMeets P (dat x) = mb) := hmb.symm
            rw [← hmb] at QX
            clear hmb
            go_wp2_with fail
            refine (meets_pat _ _ _ _ _ HM.out RPx.out _ MB.out).mono ?_
            rintro e wx ⟨rfl, bx⟩
            have HBX : Hid (Below w5.heap.size w5 wx) := hbx.out.trans (bx.mono hbx.out.size)
            clear bx
            go_wp2_with fail
            refine (refabove_any x _).mono ?_
            rintro e wy ⟨x2, rfl, hx2, by2⟩
            have HBY : Hid (Below w5.heap.size w5 wy) := HBX.out.trans (by2.mono HBX.out.size)
            have QN : Hid (mq = (mb || metU P (dat x2))) := by unfold Hid; rw [QX.out, hx2, Bool.false_or]
            have LS : Hid (x2.size < x.size) := by
              have := LT.out
              rw [← hx2, datsz, datsz] at this
              exact this
            clear by2 hx2 QX
            go_wp2
            go_roundw
            case rel => first | exact ⟨mb, x2, rfl, rfl, QN, HBY⟩ | ((repeat apply Exists.intro); refine ⟨?_, rfl⟩; exact ⟨mb, x2, rfl, rfl, QN, HBY⟩)
            case measure => first | exact LS.out | (simp [szOf]; exact LS.out)
end Go.Proofs.YtmagidkgajmhoaaDoor
