/- GlW: Len, Lets. -/
import Derived.Test.YtmagidkgajmhoaaDoorGlV
set_option linter.unusedVariables false
set_option linter.unusedSimpArgs false
namespace Go.Proofs.YtmagidkgajmhoaaDoor
open Go.RowKit

def szOf : Value → Nat
  | .string x => x.size
  | _ => 0
set_option maxRecDepth 100000 in
theorem len_any (w : World) (gr : Nat) (L : List RlM) (h : RdRls w gr L) :
    Calls Tryd.prog 17 #[.pointer (some ⟨gr, 0, none⟩)] w fun e w' => e = .returned (.int .i64 (L.length : Int)) ∧ Below w.heap.size w w' := by
  obtain ⟨⟨A, c, h1, h2⟩, h3, h4⟩ := h
  have c1 := blk_cell h1 0
  simp at c1
  clear h1 h2 h4
  go_enter Tryd.func17, Tryd.ntmps17
  go_wp2
  go_ret
  exact ⟨rfl, Below.refl _ _⟩
set_option maxRecDepth 100000 in
theorem len_nil (w : World) :
    Calls Tryd.prog 17 #[.pointer none] w fun e w' => e = .returned (.int .i64 0) ∧ Below w.heap.size w w' := by
  go_enter Tryd.func17, Tryd.ntmps17
  go_wp2
  go_ret
  exact ⟨rfl, Below.refl _ _⟩
set_option maxRecDepth 100000 in
theorem lets_nil (w : World) (q : ByteArray) :
    Calls Tryd.prog 19 #[.pointer none, .string q] w fun e w' => e = .returned (.bool false) ∧ Below w.heap.size w w' := by
  go_enter Tryd.func19, Tryd.ntmps19
  go_wp2
  go_ret
  exact ⟨rfl, Below.refl _ _⟩
theorem take_rev {α : Type} (l : List α) (j : Nat) (h : j < l.length) : (l.take (j + 1)).reverse = l[j] :: (l.take j).reverse := by
  rw [List.take_succ_eq_append_getElem h, List.reverse_append]
  rfl
set_option maxHeartbeats 6400000 in
set_option maxRecDepth 100000 in
theorem lets_any (w : World) (gr : Nat) (L : List RlM) (q : ByteArray) (h : RdRls w gr L) :
    Calls Tryd.prog 19 #[.pointer (some ⟨gr, 0, none⟩), .string q] w fun e w' => e = .returned (.bool (letsP (L.map RlM.rl) (dat q))) ∧ Below w.heap.size w w' := by
  have HH := Lib.hid h
  obtain ⟨R, hR⟩ : ∃ R, R = letsP (L.map RlM.rl) (dat q) := ⟨_, rfl⟩
  rw [← hR]
  have HR := Lib.hid hR
  clear hR
  have NE : (Value.pointer (some ⟨gr, 0, none⟩) = Value.pointer none) = False := by simp
  clear h
  go_enter Tryd.func19, Tryd.ntmps19
  go_wp2_with fail
  refine (good_any q w).mono ?_
  rintro e w1 ⟨rfl, b1⟩
  have H1 := Lib.hid (HH.out.under b1)
  have B1 := Lib.hid b1
  clear b1 HH
  have GB : goodB (dat q) = goodB q.data.toList := rfl
  rw [← GB]
  clear GB
  cases hg : goodB (dat q) with
  | false =>
    have HG : Hid (R = false) := by unfold Hid; rw [HR.out]; unfold letsP; rw [hg]; rfl
    clear hg
    go_wp2
    go_ret
    exact ⟨by rw [HG.out]; rfl, B1.out⟩
  | true =>
    have QR : Hid (R = letsV ((L.map RlM.rl).take L.length).reverse (dat q)) := by
      unfold Hid
      rw [HR.out, List.take_of_length_le (by rw [List.length_map]; exact Nat.le_refl _)]
      unfold letsP
      rw [hg, Bool.true_and]
    clear hg
    obtain ⟨⟨A, c, h1, h2⟩, h3, h4⟩ := H1.out
    have c1 := blk_cell h1 0
    simp at c1
    have wk1 : IntKind.i64.wrap ((L.length : Int) - 1) = (L.length : Int) - 1 := by rw [IntKind.wrap_i64]; omega
    clear h1 h2 h4
    go_wp2_with fail
    go_loopw [5] (fun iv wr => ∃ (k : Nat) (iz : Int), iv = .int .i64 iz ∧ iz = (k : Int) - 1 ∧ k ≤ L.length ∧ Hid (R = letsV ((L.map RlM.rl).take k).reverse (dat q)) ∧ Hid (Below w1.heap.size w1 wr)) (fun iv _ => (intOf iv + 1).toNat)
    case atStart => exact ⟨L.length, _, rfl, rfl, Nat.le_refl _, QR, Below.refl _ _⟩
    case round =>
      obtain ⟨k, iz, rfl, hz, hk, hq, hb⟩ := hrel
      clear QR c1
      obtain ⟨wo, hwo⟩ : ∃ wo, wo = wr := ⟨_, rfl⟩
      subst hwo
      cases k with
      | zero =>
        obtain rfl : iz = -1 := by omega
        have QE : Hid (R = true) := by unfold Hid; rw [hq.out]; rfl
        clear hz
        go_wp2
        go_ret
        exact ⟨by rw [QE.out]; rfl, B1.out.trans (hb.out.mono B1.out.size)⟩
      | succ j =>
        obtain rfl : iz = (j : Int) := by omega
        have hj0 : (0 : Int) ≤ (j : Int) := by omega
        have wkj : IntKind.i64.wrap ((j : Int) - 1) = (j : Int) - 1 := by rw [IntKind.wrap_i64]; omega
        have hjl : j < L.length := by omega
        have QJ : Hid (R = if metU L[j].m.pat (dat q) then L[j].i else letsV ((L.map RlM.rl).take j).reverse (dat q)) := by
          unfold Hid
          rw [hq.out, take_rev _ _ (by rw [List.length_map]; exact hjl), List.getElem_map]
          rfl
        have XM : Hid (L[j] ∈ L) := List.getElem_mem _
        obtain ⟨y, hy⟩ : ∃ y, y = L[j] := ⟨_, rfl⟩
        rw [← hy] at QJ XM
        have HY := Lib.hid hy
        obtain ⟨rest, hrest⟩ : ∃ b, b = letsV ((L.map RlM.rl).take j).reverse (dat q) := ⟨_, rfl⟩
        rw [← hrest] at QJ
        have HRE := Lib.hid hrest
        clear hz hq hy hrest
        go_wp2_with fail
        go_loopw [6] (fun xv wr => ∃ x : ByteArray, xv = .string x ∧ Hid (R = if metU y.m.pat (dat x) then y.i else rest) ∧ Hid (Below wo.heap.size wo wr)) (fun xv _ => szOf xv)
        case atStart => exact ⟨q, rfl, QJ, Below.refl _ _⟩
        case round =>
          obtain ⟨x, rfl, hq, hbx⟩ := hrel
          have HBW : Hid (Below w1.heap.size w1 wr) := hb.out.trans (hbx.out.mono hb.out.size)
          clear QJ
          by_cases hx : dat x = []
          · have E0 : (x.toList == []) = true := by rw [Lib.toList_data]; exact beq_iff_eq.2 hx
            have E1 : x.toList.isEmpty = true := by rw [Lib.toList_data]; show (dat x).isEmpty = true; rw [hx]; rfl
            have QN : Hid (R = letsV ((L.map RlM.rl).take j).reverse (dat q)) := by unfold Hid; rw [hq.out, hx, metU_nil, ← HRE.out]; rfl
            clear hx hq
            go_wp2
            go_roundw
            case rel => first | exact ⟨j, _, rfl, by first | rfl | omega, by omega, QN, HBW⟩ | ((repeat apply Exists.intro); refine ⟨?_, rfl⟩; exact ⟨j, _, rfl, by first | rfl | omega, by omega, QN, HBW⟩)
            case measure => simp [intOf] <;> omega
          have E0 : (x.toList == []) = false := by rw [Lib.toList_data]; exact beq_false_of_ne hx
          have E1 : x.toList.isEmpty = false := by
            rw [Lib.toList_data]
            show (dat x).isEmpty = false
            cases h : dat x with
            | nil => exact absurd h hx
            | cons a r => rfl
          obtain ⟨⟨A, c, h1, h2⟩, h3, h4⟩ := H1.out.under HBW.out
          have c1 := blk_cell h1 0
          simp at c1
          obtain ⟨bb, oo, rfl, hc⟩ := h2.cells (fun e => by
            have := rlv_len L
            rw [e] at this
            simp at this
            omega)
          obtain ⟨y0, y1⟩ := rlv_get L j hjl
          have z0 := hc _ _ y0; have z1 := hc _ _ y1
          rw [show oo + (j * 2 + 1) = oo + j * 2 + 1 by omega] at z1
          rw [← HY.out] at z0 z1
          have RP := Lib.hid (h4 y XM.out)
          have ME := Lib.hid (meets_any wr y.gp y.m x RP.out)
          obtain ⟨mb, hmb⟩ : ∃ b, b = metP y.m x := ⟨_, rfl⟩
          rw [← hmb] at ME
          have HMB : Hid (mb = patMeets y.m.pat (dat x)) := by unfold Hid; rw [hmb, metP_pat]
          have QX : Hid (R = if (mb || metU y.m.pat (aboveB (dat x))) then y.i else rest) := by unfold Hid; rw [hq.out, metU_step _ hx, HMB.out]
          have LT : Hid ((aboveB (dat x)).length < (dat x).length) := above_lt hx
          obtain ⟨yi, hyi⟩ : ∃ b, b = y.i := ⟨_, rfl⟩
          obtain ⟨yg, hyg⟩ : ∃ b, b = y.gp := ⟨_, rfl⟩
          rw [← hyi] at z0 QX
          rw [← hyg] at z1 ME
          have HYI := Lib.hid hyi
          have jl2 : (j : Int) < (L.length : Int) := by omega
          clear h1 h2 h4 hc y0 y1 hmb hq hx hyi hyg
          go_wp2_with fail
          refine ME.out.mono ?_
          rintro e wx ⟨rfl, bx⟩
          have c1x := cell_below bx c1
          have z0x := cell_below bx z0
          have HBX : Hid (Below wo.heap.size wo wx) := hbx.out.trans (bx.mono hbx.out.size)
          have HBF : Hid (Below w.heap.size w wx) := B1.out.trans ((HBW.out.trans (bx.mono HBW.out.size)).mono B1.out.size)
          clear bx c1 z0 z1 ME
          cases mb with
          | true =>
            have QT : Hid (R = yi) := by unfold Hid; rw [QX.out]; rfl
            go_wp2
            go_ret
            exact ⟨by rw [QT.out]; rfl, HBF.out⟩
          | false =>
            go_wp2_with fail
            refine (above_any x wx).mono ?_
            rintro e wy ⟨x2, rfl, hx2, by2⟩
            have HBY : Hid (Below wo.heap.size wo wy) := HBX.out.trans (by2.mono HBX.out.size)
            have QN : Hid (R = if metU y.m.pat (dat x2) then y.i else rest) := by unfold Hid; rw [QX.out, hx2, Bool.false_or, HYI.out]
            have LS : Hid (x2.size < x.size) := by
              have := LT.out
              rw [← hx2, datsz, datsz] at this
              exact this
            clear by2 hx2 QX
            go_wp2
            go_roundw
            case rel => first | exact ⟨x2, rfl, QN, HBY⟩ | ((repeat apply Exists.intro); refine ⟨?_, rfl⟩; exact ⟨x2, rfl, QN, HBY⟩)
            case measure => first | exact LS.out | (simp [szOf]; exact LS.out)
end Go.Proofs.YtmagidkgajmhoaaDoor
