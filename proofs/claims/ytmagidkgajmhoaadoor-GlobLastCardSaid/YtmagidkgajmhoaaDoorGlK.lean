/- GlK: Pattern.Meets. -/
import Derived.Test.YtmagidkgajmhoaaDoorGlJ
set_option linter.unusedVariables false
set_option linter.unusedSimpArgs false
namespace Go.Proofs.YtmagidkgajmhoaaDoor
open Go.RowKit

/-- A pattern that is read. -/
structure PatM where
  text : ByteArray
  ps : List PtM
  A : Option Addr
  c : Nat
  deep : Bool
  below : Bool
def RdPat (w : World) (gp : Nat) (m : PatM) : Prop := w.heap[gp]? = some (.cells #[.string m.text, .slice m.A m.ps.length m.c, .bool m.deep, .bool m.below] 48 (0, 0)) ∧ RdPts w m.A m.ps ∧ m.ps.length ≤ 1000000 ∧ ∀ x ∈ m.ps, PtBnd x
theorem RdPat.under {w w' : World} {gp : Nat} {m : PatM} (h : RdPat w gp m) (hb : Below w.heap.size w w') : RdPat w' gp m := ⟨(hb.block _ (lt_block h.1)).trans h.1, h.2.1.below hb, h.2.2⟩
/-- Do parts meet names that end at n, from a place on? -/
def metF (W : List Bs → Bool) (deep : Bool) (N : List Bs) (n : Nat) : Nat → Nat → Bool
  | 0, _ => false
  | k + 1, f => W ((N.take n).drop f) || (deep && metF W deep N n k (f + 1))
def metE (W : List Bs → Bool) (deep : Bool) (N : List Bs) : Nat → Nat → Bool
  | 0, _ => false
  | k + 1, n => metF W deep N n n 0 || metE W deep N k (n + 1)
/-- Does a pattern meet names? -/
def metN (W : List Bs → Bool) (deep below : Bool) (N : List Bs) : Bool :=
  if N.length = 0 then false else if below then metE W deep N (N.length - 1) 1 else metE W deep N 1 N.length
def metP (m : PatM) (q : ByteArray) : Bool := metN (gm pmany phas m.ps) m.deep m.below (partsB (dat q))
/-- A part of a row of texts. -/
theorem strs_from {w : World} {A : Option Addr} {ps : List ByteArray} (h : Blk w 9 A (strsV ps)) (f n : Nat) (hn : n ≤ ps.length) (hf : f < n) : ∃ b o, A = some ⟨b, o, none⟩ ∧ Blk w 9 (some ⟨b, o + f, none⟩) (strsV ((ps.take n).drop f)) := by
  obtain ⟨b, o, cur, e, hb, hc⟩ := h (fun e => by
    have : (strsV ps).length = 0 := by rw [e]; rfl
    unfold strsV at this
    rw [List.length_map] at this
    omega)
  refine ⟨b, o, e, fun _ => ⟨b, o + f, cur, rfl, hb, fun j u hj => ?_⟩⟩
  have : (strsV ps)[f + j]? = some u := by
    unfold strsV at hj ⊢
    rw [List.getElem?_map, List.getElem?_drop] at hj
    have hl : f + j < n := by
      by_cases hh : f + j < n
      · exact hh
      · rw [List.getElem?_take_eq_none (by omega)] at hj
        cases hj
    rw [List.getElem?_take_of_lt hl] at hj
    rw [List.getElem?_map]
    exact hj
  rw [Nat.add_assoc]
  exact hc _ _ this
theorem Blk.pos {w : World} {t : TypeId} {A : Option Addr} {xs : List Value} (h : Blk w t A xs) (hx : xs ≠ []) : ∃ b o, A = some ⟨b, o, none⟩ := by
  obtain ⟨b, o, cur, e, _⟩ := h hx
  exact ⟨b, o, e⟩
set_option maxHeartbeats 3200000 in
set_option maxRecDepth 100000 in
theorem meets_any (w : World) (gp : Nat) (m : PatM) (q : ByteArray) (h : RdPat w gp m) :
    Calls Tryd.prog 11 #[.pointer (some ⟨gp, 0, none⟩), .string q] w fun e w' => e = .returned (.bool (metP m q)) ∧ Below w.heap.size w w' := by
  obtain ⟨R, hR⟩ : ∃ R, R = metP m q := ⟨_, rfl⟩
  rw [← hR]
  obtain ⟨text, P, A, c, deep, below⟩ := m
  have PA := Lib.hid (parts_blk q w)
  have HH := Lib.hid h
  have HR := Lib.hid hR
  have NE : (Value.pointer (some ⟨gp, 0, none⟩) = Value.pointer none) = False := by simp
  clear h hR
  go_enter Tryd.func11, Tryd.ntmps11
  go_wp2_with fail
  refine PA.out.mono ?_
  rintro e w1 ⟨An, cn, ps, rfl, hb, hc, h33, h32, hbk, b1⟩
  have H1 := Lib.hid (HH.out.under b1)
  have BK := Lib.hid hbk; have B1 := Lib.hid b1; have HB := Lib.hid hb; have H32 := Lib.hid h32
  have LB : Hid ((partsB (dat q)).length = ps.length) := by unfold Hid; rw [← hb]; unfold bytes; rw [List.length_map]
  clear hbk b1 hb h32 HH PA
  by_cases h0 : ps.length = 0
  · have QR : Hid (R = false) := by unfold Hid; rw [HR.out]; unfold metP metN; rw [if_pos (by rw [LB.out, h0])]
    go_wp2
    go_ret
    exact ⟨by rw [QR.out]; rfl, B1.out⟩
  have h0i : ((ps.length : Int) == 0) = false := beq_false_of_ne (by omega)
  obtain ⟨e0, -⟩ := H1.out
  have c1 := blk_cell e0 1; have c2 := blk_cell e0 2; have c3 := blk_cell e0 3
  simp at c1 c2 c3
  clear e0
  obtain ⟨last, hlast⟩ : ∃ x, x = if below then ps.length - 1 else ps.length := ⟨_, rfl⟩
  obtain ⟨first, hfirst⟩ : ∃ x, x = if below then 1 else ps.length := ⟨_, rfl⟩
  have hl0 : last ≤ ps.length := by rw [hlast]; split <;> omega
  have hf0 : first ≤ last + 1 := by rw [hlast, hfirst]; split <;> omega
  have hf1 : 1 ≤ first := by rw [hfirst]; split <;> omega
  have QR : Hid (R = metE (gm pmany phas P) deep (bytes ps) (last + 1 - first) first) := by
    unfold Hid
    rw [HR.out]
    unfold metP metN
    rw [if_neg (by rw [LB.out]; exact h0)]
    simp only
    rw [← HB.out]
    have : (bytes ps).length = ps.length := by unfold bytes; rw [List.length_map]
    rw [this, hlast, hfirst]
    cases below
    · simp [show ps.length + 1 - ps.length = 1 by omega]
    · simp [show ps.length - 1 + 1 - 1 = ps.length - 1 by omega]
  have HLA := Lib.hid hlast; have HFI := Lib.hid hfirst
  clear hlast hfirst HR
  have wk1 : IntKind.i64.wrap ((ps.length : Int) - 1) = (ps.length : Int) - 1 := by rw [IntKind.wrap_i64]; omega
  go_upto_if 25 with fail
  go_cut [6, 7] (fun lv fv wx => lv = .int .i64 (last : Int) ∧ fv = .int .i64 (first : Int) ∧ wx = w1)
  case first =>
    cases below with
    | true =>
      have z1 : (last : Int) = (ps.length : Int) - 1 := by have := HLA.out; simp at this; omega
      have z2 : (first : Int) = 1 := by have := HFI.out; simp at this; omega
      go_wp2_with fail
      go_meet
      exact ⟨by rw [z1], by rw [z2], rfl⟩
    | false =>
      have z1 : (last : Int) = (ps.length : Int) := by have := HLA.out; simp at this; omega
      have z2 : (first : Int) = (ps.length : Int) := by have := HFI.out; simp at this; omega
      go_wp2_with fail
      go_meet
      exact ⟨by rw [z1], by rw [z2], rfl⟩
  case rest =>
    obtain ⟨rfl, rfl, rfl⟩ := hcut
    clear HLA HFI wk1 c1 c2 c3
    obtain ⟨W, hW⟩ : ∃ W, W = gm pmany phas P := ⟨_, rfl⟩
    rw [← hW] at QR
    have HW := Lib.hid hW
    obtain ⟨w1, hw1⟩ : ∃ w1, w1 = wc := ⟨_, rfl⟩
    subst hw1
    clear hW
    go_wp2_with fail
    go_loopw [8] (fun nv wr => ∃ n : Nat, nv = .int .i64 (n : Int) ∧ first ≤ n ∧ n ≤ last + 1 ∧ Hid (R = metE W deep (bytes ps) (last + 1 - n) n) ∧ Hid (Below w1.heap.size w1 wr)) (fun nv _ => last + 1 - (intOf nv).toNat)
    case atStart => exact ⟨first, rfl, Nat.le_refl _, hf0, QR, Below.refl _ _⟩
    case round =>
      obtain ⟨n, rfl, hn1, hn2, hq, hb⟩ := hrel
      obtain ⟨wo, hwo⟩ : ∃ wo, wo = wr := ⟨_, rfl⟩
      subst hwo
      clear QR
      by_cases hnl : n ≤ last
      case neg =>
        have hni : ¬ (n : Int) ≤ (last : Int) := by omega
        have QF : Hid (R = false) := by unfold Hid; rw [hq.out, show last + 1 - n = 0 by omega]; rfl
        go_wp2
        go_ret
        exact ⟨by rw [QF.out]; rfl, B1.out.trans (hb.out.mono B1.out.size)⟩
      have hni : (n : Int) ≤ (last : Int) := by omega
      have Q2 : Hid (R = (metF W deep (bytes ps) n (n - 0) 0 || metE W deep (bytes ps) (last - n) (n + 1))) := by
        unfold Hid
        rw [hq.out, show last + 1 - n = (last - n) + 1 by omega]
        rfl
      have wkn : IntKind.i64.wrap ((n : Int) + 1) = (n : Int) + 1 := by rw [IntKind.wrap_i64]; omega
      have hnp : n ≤ ps.length := by omega
      have hnc : (n : Int) ≤ (cn : Int) := by omega
      clear hq
      go_wp2_with fail
      go_loopw [35] (fun fv wr => ∃ f : Nat, fv = .int .i64 (f : Int) ∧ f ≤ n ∧ Hid (R = (metF W deep (bytes ps) n (n - f) f || metE W deep (bytes ps) (last - n) (n + 1))) ∧ Hid (Below wo.heap.size wo wr)) (fun fv _ => n - (intOf fv).toNat)
      case atStart => exact ⟨0, rfl, Nat.zero_le _, Q2, Below.refl _ _⟩
      case round =>
        obtain ⟨f, rfl, hf, hq, hbx⟩ := hrel
        have HBW : Hid (Below w1.heap.size w1 wr) := hb.out.trans (hbx.out.mono hb.out.size)
        clear Q2
        by_cases hfn : f < n
        case neg =>
          have hfi : ¬ (f : Int) < (n : Int) := by omega
          have QE : Hid (R = metE W deep (bytes ps) (last + 1 - (n + 1)) (n + 1)) := by
            unfold Hid
            rw [hq.out, show n - f = 0 by omega, show last + 1 - (n + 1) = last - n by omega]
            rfl
          go_wp2
          go_roundw
          case rel => first | exact ⟨n + 1, by go_num, by omega, by omega, QE, HBW⟩ | ((repeat apply Exists.intro); refine ⟨?_, rfl⟩; exact ⟨n + 1, by go_num, by omega, by omega, QE, HBW⟩)
          case measure => simp [intOf]; omega
        have hfi : (f : Int) < (n : Int) := by omega
        have hfi' : (f : Int) ≤ (n : Int) := by omega
        have wkf : IntKind.i64.wrap ((f : Int) + 1) = (f : Int) + 1 := by rw [IntKind.wrap_i64]; omega
        have H2 := H1.out.under HBW.out
        have BK2 := BK.out.below HBW.out
        obtain ⟨bn, on, hAn, hBK3⟩ := strs_from BK2 f n hnp hfn
        subst hAn
        obtain ⟨e0, rp, hpl, hpb⟩ := H2
        have c1 := blk_cell e0 1; have c2 := blk_cell e0 2
        simp at c1 c2
        have d1 : wr.drew.cell? ⟨gp, 1, none⟩ = some (.slice A P.length c) := c1
        have c2d : wr.drew.cell? ⟨gp, 2, none⟩ = some (.bool deep) := c2
        obtain ⟨qs, hqs⟩ : ∃ qs, qs = (ps.take n).drop f := ⟨_, rfl⟩
        have ql : qs.length = n - f := by rw [hqs, List.length_drop, List.length_take]; omega
        have qlz : ((n : Int) - (f : Int)) = ((qs.length : Nat) : Int) := by omega
        rw [← hqs] at hBK3
        have WH0 := (whole_any wr.drew A c P (rp.below (Below.refl _ _).drew) hpl hpb (some ⟨bn, on + f, none⟩) (cn - f) qs (hBK3.below (Below.refl _ _).drew) (by omega) (fun p hp => by
          have := H32.out p (List.mem_of_mem_take (List.mem_of_mem_drop (by rw [← hqs]; exact hp)))
          omega))
        rw [ql] at WH0
        have WH := Lib.hid WH0
        have BQ : Hid (bytes qs = ((bytes ps).take n).drop f) := by unfold Hid bytes; rw [hqs, List.map_drop, List.map_take]
        have QF : Hid (R = ((gm pmany phas P (bytes qs) || (deep && metF W deep (bytes ps) n (n - (f + 1)) (f + 1))) || metE W deep (bytes ps) (last - n) (n + 1))) := by
          unfold Hid
          rw [hq.out, show n - f = (n - (f + 1)) + 1 by omega, BQ.out, ← HW.out]
          rfl
        have FC : ((cn : Int) == (f : Int)) = false := beq_false_of_ne (by omega)
        have FC2 : ¬ cn = f := by omega
        have HQL := Lib.hid ql
        obtain ⟨bv, hbv⟩ : ∃ b, b = gm pmany phas P (bytes qs) := ⟨_, rfl⟩
        rw [← hbv] at WH QF
        clear hbv WH0 e0 rp hpl hpb hBK3 BK2 hqs ql hq BQ
        go_wp2_with fail
        refine wp_region_flag (fun w' => w'.cell? ⟨gp, 1, none⟩ = some (.slice A P.length c)) [(0, 1), (1, 1), (2, 1), (4, 1), (5, 1), (6, 1), (7, 1), (3, 0), (8, 0)] (by kernel_rfl) (by kernel_rfl) d1 ?_
        simp only [ordered, List.map_cons, List.map_nil, List.getD_cons_zero, List.getD_cons_succ]
        repeat (refine wpF_dry (fun K hK => ?_); go_simp; refine hK _ ?_; clear hK K)
        refine wpF_do ?_
        go_wp2_with fail
        refine ⟨d1, ?_⟩
        refine wpF_do ?_
        go_wp2_with fail
        refine WH.out.mono ?_
        rintro e wx ⟨rfl, bx⟩
        have B0 : Below wr.heap.size wr wx := (Below.refl _ wr).drew.trans bx
        have e1x := bx.block gp
        have c1x := cell_below bx d1
        have c2x := cell_below bx c2d
        have HB0 := Lib.hid B0
        have HBX : Hid (Below wo.heap.size wo wx) := hbx.out.trans (B0.mono hbx.out.size)
        have HBF : Hid (Below w.heap.size w wx) := B1.out.trans ((HBW.out.trans (B0.mono HBW.out.size)).mono B1.out.size)
        clear bx e1x B0 c1 d1 c2 c2d WH
        go_wp2_with fail
        refine ⟨c1x, ?_⟩
        refine wpF_nil ?_
        cases bv with
        | true =>
          have QT : Hid (R = true) := by unfold Hid; rw [QF.out]; rfl
          go_wp2
          go_ret
          exact ⟨by rw [QT.out]; rfl, HBF.out⟩
        | false =>
          cases deep with
          | true =>
            have QN : Hid (R = (metF W true (bytes ps) n (n - (f + 1)) (f + 1) || metE W true (bytes ps) (last - n) (n + 1))) := by unfold Hid; rw [QF.out]; rfl
            clear QF
            go_wp2
            go_roundw
            case rel => first | exact ⟨f + 1, by go_num, by omega, QN, HBX⟩ | ((repeat apply Exists.intro); refine ⟨?_, rfl⟩; exact ⟨f + 1, by go_num, by omega, QN, HBX⟩)
            case measure => simp [intOf]; omega
          | false =>
            have QN : Hid (R = metE W false (bytes ps) (last + 1 - (n + 1)) (n + 1)) := by
              unfold Hid
              rw [QF.out, show last + 1 - (n + 1) = last - n by omega]
              rfl
            have HBO : Hid (Below w1.heap.size w1 wx) := HBW.out.trans (HB0.out.mono HBW.out.size)
            clear QF
            go_wp2
            go_roundw
            case rel => first | exact ⟨n + 1, by go_num, by omega, by omega, QN, HBO⟩ | ((repeat apply Exists.intro); refine ⟨?_, rfl⟩; exact ⟨n + 1, by go_num, by omega, by omega, QN, HBO⟩)
            case measure => simp [intOf]; omega
end Go.Proofs.YtmagidkgajmhoaaDoor
