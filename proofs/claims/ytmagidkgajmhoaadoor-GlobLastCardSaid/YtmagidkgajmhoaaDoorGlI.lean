/- GlI: glob.whole: whether parts meet names. -/
import Derived.Test.YtmagidkgajmhoaaDoorGlIp
set_option linter.unusedVariables false
set_option linter.unusedSimpArgs false
namespace Go.Proofs.YtmagidkgajmhoaaDoor
open Go.RowKit

def pmany (x : PtM) : Bool := x.any
/-- What the closure of marks meets. -/
structure pMk (w : World) (B1 B2 g : Nat) (A : Option Addr) (c : Nat) (L : List PtM) (r : List Bool) : Prop where
  b1 : w.heap[B1]? = some (.cells #[.slice A L.length c] 46 (0, 0))
  b2 : w.heap[B2]? = some (.cells #[.slice (some ⟨g, 0, none⟩) (L.length + 1) (L.length + 1)] 61 (0, 0))
  row : BRow w g r
  len : r.length = L.length + 1
  rd : RdPts w A L
theorem pMk.ne {w : World} {B1 B2 g : Nat} {A : Option Addr} {c : Nat} {L : List PtM} {r : List Bool} (h : pMk w B1 B2 g A c L r) : B1 ≠ g ∧ B2 ≠ g := by
  constructor
  · intro e; subst e
    have h1 := h.b1; have h2 := h.row
    unfold BRow at h2
    rw [h1] at h2
    simp at h2
  · intro e; subst e
    have h1 := h.b2; have h2 := h.row
    unfold BRow at h2
    rw [h1] at h2
    simp at h2
theorem pMk.kp {w w' : World} {B1 B2 g : Nat} {A : Option Addr} {c : Nat} {L : List PtM} {r r' : List Bool} (h : pMk w B1 B2 g A c L r) (ht : Touch (fun j => j = g) w w') (hr : BRow w' g r') (hl : r'.length = r.length) : pMk w' B1 B2 g A c L r' :=
  ⟨blk_touch ht h.b1 h.ne.1, blk_touch ht h.b2 h.ne.2, hr, by rw [hl, h.len], h.rd.kp (Kp.touch h.row ht) (by decide) (by decide) (by decide)⟩
set_option maxHeartbeats 1600000 in
set_option maxRecDepth 100000 in
theorem pspr_any (w : World) (B1 B2 g : Nat) (A : Option Addr) (c : Nat) (L : List PtM) (r : List Bool) (h : pMk w B1 B2 g A c L r) (hn : L.length ≤ 1000000) :
    Calls Tryd.prog 37 #[.pointer (some ⟨B1, 0, none⟩), .pointer (some ⟨B2, 0, none⟩)] w fun e w' => e = .returned (.tuple #[]) ∧ pMk w' B1 B2 g A c L (spr pmany L r) ∧ Touch (fun j => j = g) w w' := by
  have H := Lib.hid h
  have c1 := blk_cell h.b1 0
  simp at c1
  have NE := Lib.hid h.ne
  clear h
  go_enter Tryd.func37, Tryd.ntmps37
  go_wp2_with fail
  go_loopw [6] (fun iv wr => ∃ k : Nat, k ≤ L.length ∧ iv = .int .i64 k ∧ Hid (pMk wr B1 B2 g A c L (sprK pmany L r k)) ∧ Hid (Touch (fun j => j = g) w wr)) (fun iv _ => L.length - (intOf iv).toNat)
  case atStart => exact ⟨0, Nat.zero_le _, rfl, H, Touch.refl _ _⟩
  case round =>
    obtain ⟨k, hk, rfl, hm, ht⟩ := hrel
    by_cases hlt : k < L.length
    case neg =>
      have hkl : k = L.length := by omega
      have hki : ¬ (k : Int) < (L.length : Int) := by omega
      subst hkl
      go_wp2
      go_end0
      exact ⟨rfl, hm.out, ht.out⟩
    have hki : (k : Int) < (L.length : Int) := by omega
    have xne : ptv L ≠ [] := fun e => by
      have := ptv_len L
      rw [e] at this
      simp at this
      omega
    obtain ⟨b, o, rfl, hc⟩ := hm.out.rd.1.cells xne
    obtain ⟨y0, y1⟩ := ptv_get L k hlt
    have z0 := hc _ _ y0; have z1 := hc _ _ y1
    rw [show o + (k * 2 + 1) = o + k * 2 + 1 by omega] at z1
    have e1 := blk_cell hm.out.b1 0; have e2 := blk_cell hm.out.b2 0
    simp at e1 e2
    have SK : Hid (sprK pmany L r (k + 1) = if bget (sprK pmany L r k) k && pmany L[k] then (sprK pmany L r k).set (k + 1) true else sprK pmany L r k) := by unfold Hid; rw [sprK, dif_pos hlt]
    have rl : (sprK pmany L r k).length = L.length + 1 := hm.out.len
    have bk := hm.out.row.cell (i := k) (by omega)
    have bk1 := hm.out.row.cell (i := k + 1) (by omega)
    generalize L[k] = x at z0 z1 SK
    obtain ⟨mn, sl, xa, xc⟩ := x
    simp only at z0 z1
    obtain ⟨W1, hW1⟩ : ∃ W, W = wr.alloc (.cells #[.bool mn, .slice xa sl.length xc] 51) := ⟨_, rfl⟩
    have K1 : Below wr.heap.size wr W1 := by rw [hW1]; exact (Below.refl _ wr).alloc (Nat.le_refl _) _
    have T1 : Touch (fun j => j = g) wr W1 := Touch.of_below K1
    have M1 := Lib.hid (hm.out.kp T1 ((K1.block _ (lt_block hm.out.row)).trans hm.out.row) rfl)
    have TT1 : Hid (Touch (fun j => j = g) w W1) := ht.out.trans T1 (fun _ _ y => y)
    have xb : W1.heap[wr.heap.size]? = some (.cells #[.bool mn, .slice xa sl.length xc] 51 (0, 0)) := by rw [hW1]; exact blk_new wr _
    have x0 := blk_cell xb 0
    simp at x0
    have f1 := cell_below K1 e1; have f2 := cell_below K1 e2; have g1 := cell_below K1 bk; have g2 := cell_below K1 bk1
    have fz := fz_no M1.out.row (k + 1)
    obtain ⟨q, hq⟩ : ∃ q, q = bget (sprK pmany L r k) k := ⟨_, rfl⟩
    obtain ⟨q2, hq2⟩ : ∃ q, q = bget (sprK pmany L r k) (k + 1) := ⟨_, rfl⟩
    have SK : Hid (sprK pmany L r (k + 1) = if q && mn then (sprK pmany L r k).set (k + 1) true else sprK pmany L r k) := by unfold Hid; rw [SK.out, hq]; rfl
    rw [← hq] at bk g1
    rw [← hq2] at bk1 g2
    have wk : IntKind.i64.wrap ((k : Int) + 1) = (k : Int) + 1 := by rw [IntKind.wrap_i64]; omega
    have ki1 : (k : Int) + 1 < (L.length : Int) + 1 := by omega
    have ki0 : (k : Int) < (L.length : Int) + 1 := by omega
    have ksn : ((k : Int) + 1).toNat = k + 1 := by omega
    have HS : Hid (BRow (W1.setCell ⟨g, k + 1, none⟩ (.bool true)) g ((sprK pmany L r k).set (k + 1) true)) := M1.out.row.set (k + 1)
    have TS : Hid (Touch (fun j => j = g) W1 (W1.setCell ⟨g, k + 1, none⟩ (.bool true))) := (Touch.refl (fun j => j = g) W1).setCell (p := ⟨g, k + 1, none⟩) (.inl rfl) _
    have SL : Hid (((sprK pmany L r k).set (k + 1) true).length = (sprK pmany L r k).length) := List.length_set ..
    rw [hW1] at x0 f1 f2 g1 g2 fz
    have HW1 := Lib.hid hW1
    clear hc y0 y1 hq hq2 K1 T1 xb hW1 ht hm xne rl
    cases q with
    | false =>
      have SE : Hid (sprK pmany L r (k + 1) = sprK pmany L r k) := by unfold Hid; rw [SK.out]; rfl
      clear SK
      go_wp2
      rw [← HW1.out]
      go_roundw
      case rel => first | exact ⟨k + 1, hlt, by go_num, by rw [SE.out]; exact M1, TT1⟩ | ((repeat apply Exists.intro); refine ⟨?_, rfl⟩; exact ⟨k + 1, hlt, by go_num, by rw [SE.out]; exact M1, TT1⟩)
      case measure => simp [intOf]; omega
    | true =>
      cases mn with
      | false =>
        have SE : Hid (sprK pmany L r (k + 1) = sprK pmany L r k) := by unfold Hid; rw [SK.out]; rfl
        clear SK
        go_wp2
        rw [← HW1.out]
        go_roundw
        case rel => first | exact ⟨k + 1, hlt, by go_num, by rw [SE.out]; exact M1, TT1⟩ | ((repeat apply Exists.intro); refine ⟨?_, rfl⟩; exact ⟨k + 1, hlt, by go_num, by rw [SE.out]; exact M1, TT1⟩)
        case measure => simp [intOf]; omega
      | true =>
        have SE : Hid (sprK pmany L r (k + 1) = (sprK pmany L r k).set (k + 1) true) := by unfold Hid; rw [SK.out]; rfl
        clear SK
        go_wp2
        rw [← HW1.out]
        go_roundw
        case rel => first | exact ⟨k + 1, hlt, by go_num, by rw [SE.out]; exact M1.out.kp TS.out HS.out SL.out, TT1.out.trans TS.out (fun _ _ y => y)⟩ | ((repeat apply Exists.intro); refine ⟨?_, rfl⟩; exact ⟨k + 1, hlt, by go_num, by rw [SE.out]; exact M1.out.kp TS.out HS.out SL.out, TT1.out.trans TS.out (fun _ _ y => y)⟩)
        case measure => simp [intOf]; omega
end Go.Proofs.YtmagidkgajmhoaaDoor
