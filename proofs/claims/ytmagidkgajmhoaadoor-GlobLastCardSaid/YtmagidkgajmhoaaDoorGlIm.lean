/- GlIm: glob.whole: whether parts meet names. -/
import Derived.Test.YtmagidkgajmhoaaDoorGlI
set_option linter.unusedVariables false
set_option linter.unusedSimpArgs false
namespace Go.Proofs.YtmagidkgajmhoaaDoor
open Go.RowKit


theorem pMk.other {w w' : World} {B1 B2 g gn : Nat} {A : Option Addr} {c : Nat} {L : List PtM} {r r' : List Bool} (h : pMk w B1 B2 g A c L r) (ht : Touch (fun j => j = gn) w w') (hg : BRow w gn r') (hne : gn ≠ g) : pMk w' B1 B2 g A c L r := by
  have kp := Kp.touch hg ht
  exact ⟨kp _ _ _ (by decide) h.b1, kp _ _ _ (by decide) h.b2, blk_touch ht h.row (fun e => hne e.symm), h.len, h.rd.kp kp (by decide) (by decide) (by decide)⟩
theorem pMk.below {w w' : World} {B1 B2 g : Nat} {A : Option Addr} {c : Nat} {L : List PtM} {r : List Bool} (h : pMk w B1 B2 g A c L r) (hb : Below w.heap.size w w') : pMk w' B1 B2 g A c L r :=
  ⟨(hb.block _ (lt_block h.b1)).trans h.b1, (hb.block _ (lt_block h.b2)).trans h.b2, (hb.block _ (lt_block h.row)).trans h.row, h.len, h.rd.below hb⟩
/-- The marks are others. -/
theorem pMk.swap {w : World} {B1 B2 g gn : Nat} {A : Option Addr} {c : Nat} {L : List PtM} {r r' : List Bool} (h : pMk w B1 B2 g A c L r) (hg : BRow w gn r') (hl : r'.length = L.length + 1) : pMk (w.setCell ⟨B2, 0, none⟩ (.slice (some ⟨gn, 0, none⟩) (L.length + 1) (L.length + 1))) B1 B2 gn A c L r' := by
  have T : Touch (fun j => j = B2) w (w.setCell ⟨B2, 0, none⟩ (.slice (some ⟨gn, 0, none⟩) (L.length + 1) (L.length + 1))) := (Touch.refl (fun j => j = B2) w).setCell (p := ⟨B2, 0, none⟩) (.inl rfl) _
  have kp := Kp.touch h.b2 T
  refine ⟨kp _ _ _ (by decide) h.b1, ?_, kp _ _ _ (by decide) hg, hl, h.rd.kp kp (by decide) (by decide) (by decide)⟩
  have := blk_set h.b2 0 (.slice (some ⟨gn, 0, none⟩) (L.length + 1) (L.length + 1))
  simpa using this
def phas (x : PtM) (n : Bs) : Bool := gm tmany thas x.L n
set_option maxHeartbeats 6400000 in
set_option maxRecDepth 100000 in
theorem whole_any (w : World) (A : Option Addr) (c : Nat) (L : List PtM) (h : RdPts w A L) (hn : L.length ≤ 1000000) (hsl : ∀ x ∈ L, PtBnd x) (An : Option Addr) (cn : Nat) (ps : List ByteArray) (hps : Blk w 9 An (strsV ps)) (hnp : ps.length ≤ 1000000) (hnl : ∀ p ∈ ps, p.size ≤ 1000000) :
    Calls Tryd.prog 26 #[.slice A L.length c, .slice An ps.length cn] w fun e w' => e = .returned (.bool (gm pmany phas L (bytes ps))) ∧ Below w.heap.size w w' := by
  have HSL := Lib.hid hsl
  have wkL : IntKind.i64.wrap ((L.length : Int) + 1) = (L.length : Int) + 1 := by rw [IntKind.wrap_i64]; omega
  have MK := fun W => run_make_bools W L.length hn
  have MB := made_bls (L.length + 1)
  obtain ⟨R, hR⟩ : ∃ R, R = gm pmany phas L (bytes ps) := ⟨_, rfl⟩
  rw [← hR]
  have HR := Lib.hid hR
  clear hR
  obtain ⟨W1, hW1⟩ : ∃ W, W = w.alloc (.cells #[.slice A L.length c] 46) := ⟨_, rfl⟩
  obtain ⟨W2, hW2⟩ : ∃ W, W = W1.alloc (.cells ((bls (List.replicate (L.length + 1) false)).set 0 (.bool true)).toArray 4) := ⟨_, rfl⟩
  obtain ⟨W3, hW3⟩ : ∃ W, W = W2.alloc (.cells #[.slice (some ⟨w.heap.size + 1, 0, none⟩) (L.length + 1) (L.length + 1)] 61) := ⟨_, rfl⟩
  have K1 : Below w.heap.size w W1 := by rw [hW1]; exact (Below.refl _ w).alloc (Nat.le_refl _) _
  have K2 : Below W1.heap.size W1 W2 := by rw [hW2]; exact (Below.refl _ W1).alloc (Nat.le_refl _) _
  have K3 : Below W2.heap.size W2 W3 := by rw [hW3]; exact (Below.refl _ W2).alloc (Nat.le_refl _) _
  have sz1 : W1.heap.size = w.heap.size + 1 := by rw [hW1]; simp
  have sz2 : W2.heap.size = w.heap.size + 1 + 1 := by rw [hW2]; simp [sz1]
  have sz3 : W3.heap.size = w.heap.size + 1 + 1 + 1 := by rw [hW3]; simp [sz2]
  have KK : Below w.heap.size w W3 := K1.trans ((K2.trans (K3.mono K2.size)).mono K1.size)
  have M3 : pMk W3 w.heap.size (w.heap.size + 1 + 1) (w.heap.size + 1) A c L ((List.replicate (L.length + 1) false).set 0 true) := by
    refine ⟨?_, ?_, ?_, by simp, h.below KK⟩
    · have : W1.heap[w.heap.size]? = some (.cells #[.slice A L.length c] 46 (0, 0)) := by rw [hW1]; exact blk_new w _
      rw [K3.block _ (by omega), K2.block _ (by omega), this]
    · rw [← sz2, hW3]; exact blk_new W2 _
    · unfold BRow
      rw [K3.block _ (by omega), ← sz1, hW2, blk_new W1 _]
      unfold bls
      rw [List.map_set]
  have SP := Lib.hid (pspr_any W3 w.heap.size (w.heap.size + 1 + 1) (w.heap.size + 1) A c L _ M3 hn)
  have HKK := Lib.hid KK
  have SZ3 : Hid (W3.heap.size = w.heap.size + 1 + 1 + 1) := sz3
  have HW1 := Lib.hid hW1; have HW2 := Lib.hid hW2; have HW3 := Lib.hid hW3
  have MF := Lib.hid (marks_first (many := pmany) (has := phas) L)
  have HPS := Lib.hid hps
  have HNL := Lib.hid hnl
  have SZD : Hid ((bytes ps).length = ps.length) := by unfold Hid bytes; rw [List.length_map]
  clear hps hnl
  clear K1 K2 K3 KK M3 sz1 sz2 sz3 hW1 hW2 hW3 h hsl
  go_enter Tryd.func26, Tryd.ntmps26
  go_wp2_with fail
  rw [← HW1.out, ← HW2.out, ← HW3.out]
  refine SP.out.mono ?_
  rintro e w4 ⟨rfl, m4, t4⟩
  have B4 : Hid (Below w.heap.size w w4) := HKK.out.trans (t4.below (by have := SZ3.out; omega) (fun j hj => by rw [hj]; omega))
  have T4 := Lib.hid t4
  have M4 := Lib.hid m4
  have SZ4 : Hid (w.heap.size + 1 + 1 + 1 ≤ w4.heap.size) := by have := t4.size; have := SZ3.out; unfold Hid; omega
  clear m4 t4 SP MB
  have MB := fun n => made_bls n
  have EL4 : Hid (Blk w4 9 An (strsV ps)) := HPS.out.below B4.out
  have LT4 : Hid (w.heap.size + 1 < w4.heap.size) := by have := SZ4.out; unfold Hid; omega
  go_wp2_with fail
  go_loopw [23] (fun iv wr => ∃ (k g : Nat) (r : List Bool), k ≤ ps.length ∧ iv = .int .i64 k ∧ w.heap.size < g ∧ g ≠ w.heap.size + 1 + 1 ∧ g < wr.heap.size ∧ Hid (Marks pmany phas L ((bytes ps).take k) r) ∧ Hid (pMk wr w.heap.size (w.heap.size + 1 + 1) g A c L r) ∧ Hid (Blk wr 9 An (strsV ps)) ∧ Hid (Below w.heap.size w wr)) (fun iv _ => ps.length - (intOf iv).toNat)
  case atStart => exact ⟨0, w.heap.size + 1, _, Nat.zero_le _, rfl, by omega, by omega, LT4.out, MF, M4, EL4, B4⟩
  case round =>
    obtain ⟨k, g, r, hk, rfl, hg1, hg2, hg3, hmk, hm, helr, hb⟩ := hrel
    obtain ⟨wo, hwo⟩ : ∃ wo, wo = wr := ⟨_, rfl⟩
    subst hwo
    by_cases hlt : k < ps.length
    case neg =>
      have hkl : k = ps.length := by omega
      have hki : ¬ (k : Int) < (ps.length : Int) := by omega
      have e1 := blk_cell hm.out.b1 0; have e2 := blk_cell hm.out.b2 0
      simp at e1 e2
      have MKF : Hid (Marks pmany phas L (bytes ps) r) := by
        have := hmk.out
        rw [hkl, List.take_of_length_le (by have := SZD.out; omega)] at this
        exact this
      have bk := hm.out.row.cell (i := L.length) (by rw [hm.out.len]; omega)
      have RE : bget r L.length = R := by rw [HR.out]; exact marks_last MKF.out
      rw [RE] at bk
      clear RE
      go_wp2
      go_ret
      exact ⟨rfl, hb.out⟩
    have hki : (k : Int) < (ps.length : Int) := by omega
    obtain ⟨el, hel⟩ : ∃ el, el = (bytes ps)[k]'(by have := SZD.out; omega) := ⟨_, rfl⟩
    have sne : strsV ps ≠ [] := fun e => by
      have h0 : ps.length = 0 := by
        have := congrArg List.length e
        unfold strsV at this
        rw [List.length_map] at this
        exact this
      omega
    obtain ⟨bn, on, hAn, hcn⟩ := helr.out.cells sne
    have zc := hcn k (.string ps[k]) (by unfold strsV; rw [List.getElem?_map, List.getElem?_eq_getElem hlt]; rfl)
    subst hAn
    have hde : el = dat ps[k] := by rw [hel]; unfold bytes; rw [List.getElem_map]
    have nsz := HNL.out ps[k] (List.getElem_mem _)
    generalize ps[k] = ns at zc hde nsz
    have HDE := Lib.hid hde
    clear hcn sne hde
    have MN := Lib.hid (marks_next hmk.out el)
    have TKE : Hid ((bytes ps).take (k + 1) = (bytes ps).take k ++ [el]) := by unfold Hid; rw [List.take_succ_eq_append_getElem (by have := SZD.out; omega)]; exact congrArg (fun z => (bytes ps).take k ++ [z]) hel.symm
    have e1 := blk_cell hm.out.b1 0
    simp at e1
    have HEL := Lib.hid hel
    obtain ⟨Wn, hWn⟩ : ∃ W, W = wo.alloc (.cells (bls (List.replicate (L.length + 1) false)).toArray 4) := ⟨_, rfl⟩
    have KN : Below wo.heap.size wo Wn := by rw [hWn]; exact (Below.refl _ wo).alloc (Nat.le_refl _) _
    have szn : Wn.heap.size = wo.heap.size + 1 := by rw [hWn]; simp
    have RN : BRow Wn wo.heap.size (List.replicate (L.length + 1) false) := by rw [hWn]; exact blk_new wo _
    have MM := Lib.hid (hm.out.below KN)
    have HKN := Lib.hid KN; have HSZN := Lib.hid szn; have HRN := Lib.hid RN
    have HWn := Lib.hid hWn
    have MB2 := made_bls (L.length + 1)
    have e1n := cell_below KN e1
    rw [hWn] at e1n
    have NXL := Lib.hid (nxtK_len pmany phas L r el)
    have N0 : Hid (BRow Wn wo.heap.size (nxtK pmany phas L r el 0)) := RN
    clear hel KN szn RN hWn hmk
    go_wp2_with fail
    rw [← HWn.out]
    go_loopw [33] (fun jv wr => ∃ j : Nat, j ≤ L.length ∧ jv = .int .i64 j ∧ Hid (Touch (fun q => q = wo.heap.size) Wn wr) ∧ Hid (BRow wr wo.heap.size (nxtK pmany phas L r el j))) (fun jv _ => L.length - (intOf jv).toNat)
    case atStart => exact ⟨0, Nat.zero_le _, rfl, Touch.refl _ _, N0⟩
    case round =>
      obtain ⟨j, hj, rfl, htx, hrow⟩ := hrel
      have hmx := Lib.hid (MM.out.other htx.out HRN.out (by omega))
      by_cases hjl : j < L.length
      case neg =>
        have hjn : j = L.length := by omega
        have hji : ¬ (j : Int) < (L.length : Int) := by omega
        have e2 := blk_cell hmx.out.b2 0
        simp at e2
        have fz2 := fz_no hmx.out.b2 0
        have MS := Lib.hid (hmx.out.swap (by have := hrow.out; rw [hjn] at this; exact this) (NXL.out _))
        have SP2 := Lib.hid (pspr_any _ _ _ _ _ _ _ _ MS.out hn)
        have TB : Hid (Touch (fun q => q = w.heap.size + 1 + 1) wr (wr.setCell ⟨w.heap.size + 1 + 1, 0, none⟩ (.slice (some ⟨wo.heap.size, 0, none⟩) (L.length + 1) (L.length + 1)))) := (Touch.refl (fun q => q = w.heap.size + 1 + 1) wr).setCell (p := ⟨w.heap.size + 1 + 1, 0, none⟩) (.inl rfl) _
        go_wp2_with fail
        refine SP2.out.mono ?_
        rintro e wz ⟨rfl, mz, tz⟩
        have MZ := Lib.hid mz
        have bx : Below w.heap.size w wr := (hb.out.trans (HKN.out.mono hb.out.size)).trans (htx.out.below (by have := HKN.out.size; have := hb.out.size; omega) (fun q hq => by rw [hq]; exact hb.out.size))
        have by1 : Below w.heap.size w (wr.setCell ⟨w.heap.size + 1 + 1, 0, none⟩ (.slice (some ⟨wo.heap.size, 0, none⟩) (L.length + 1) (L.length + 1))) := bx.trans (TB.out.below bx.size (fun q hq => by rw [hq]; omega))
        have BZ : Hid (Below w.heap.size w wz) := by1.trans (tz.below by1.size (fun q hq => by rw [hq]; exact hb.out.size))
        have OBZ : Hid (Blk wz 9 _ (strsV ps)) := ((((helr.out.below HKN.out).kp (Kp.touch HRN.out htx.out) (by decide)).kp (Kp.touch hmx.out.b2 TB.out) (by decide))).kp (Kp.touch MS.out.row tz) (by decide)
        have MKZ : Hid (Marks pmany phas L ((bytes ps).take (k + 1)) (spr pmany L (nxtK pmany phas L r el L.length))) := by unfold Hid; rw [TKE.out]; exact MN.out
        have LTZ : Hid (wo.heap.size < wz.heap.size) := lt_block mz.row
        clear mz tz bx by1 SP2 MS
        go_wp2
        go_roundw
        case rel => first | exact ⟨k + 1, wo.heap.size, _, hlt, by go_num, by omega, (by have := lt_block hm.out.b2; omega), LTZ.out, MKZ, MZ, OBZ, BZ⟩ | ((repeat apply Exists.intro); refine ⟨?_, rfl⟩; exact ⟨k + 1, wo.heap.size, _, hlt, by go_num, by omega, (by have := lt_block hm.out.b2; omega), LTZ.out, MKZ, MZ, OBZ, BZ⟩)
        case measure => simp [intOf]; omega
      have hji : (j : Int) < (L.length : Int) := by omega
      have xne : ptv L ≠ [] := fun e => by
        have := ptv_len L
        rw [e] at this
        simp at this
        omega
      obtain ⟨b, o, rfl, hc⟩ := hmx.out.rd.1.cells xne
      obtain ⟨y0, y1⟩ := ptv_get L j hjl
      have z0 := hc _ _ y0; have z1 := hc _ _ y1
      rw [show o + (j * 2 + 1) = o + j * 2 + 1 by omega] at z1
      have e2 := blk_cell hmx.out.b2 0
      simp at e2
      have SK : Hid (nxtK pmany phas L r el (j + 1) = if bget r j && pmany L[j] then (nxtK pmany phas L r el j).set j true else if bget r j && phas L[j] el then (nxtK pmany phas L r el j).set (j + 1) true else nxtK pmany phas L r el j) := by unfold Hid; rw [nxtK, dif_pos hjl]
      have rl := hmx.out.len
      have nl := NXL.out j
      have bk := hmx.out.row.cell (i := j) (by omega)
      have nk := hrow.out.cell (i := j) (by omega)
      have nk1 := hrow.out.cell (i := j + 1) (by omega)
      have XB := HSL.out L[j] (List.getElem_mem _)
      have XS := hmx.out.rd.2 L[j] (List.getElem_mem _)
      generalize L[j] = x at z0 z1 SK XB XS
      obtain ⟨mn, sl, xa, xc⟩ := x
      simp only at z0 z1 XB XS
      obtain ⟨Wc, hWc⟩ : ∃ W, W = wr.alloc (.cells #[.bool mn, .slice xa sl.length xc] 51) := ⟨_, rfl⟩
      have KC : Below wr.heap.size wr Wc := by rw [hWc]; exact (Below.refl _ wr).alloc (Nat.le_refl _) _
      have TC : Touch (fun q => q = wo.heap.size) wr Wc := Touch.of_below KC
      have RC : Hid (BRow Wc wo.heap.size (nxtK pmany phas L r el j)) := (KC.block _ (lt_block hrow.out)).trans hrow.out
      have TX := Lib.hid (htx.out.trans TC (fun _ _ y => y))
      have xb : Wc.heap[wr.heap.size]? = some (.cells #[.bool mn, .slice xa sl.length xc] 51 (0, 0)) := by rw [hWc]; exact blk_new wr _
      have f2 := cell_below KC e2; have g1 := cell_below KC bk; have h1 := cell_below KC nk; have h2 := cell_below KC nk1
      have fz := fz_no RC.out j; have fz1 := fz_no RC.out (j + 1)
      obtain ⟨q, hq⟩ : ∃ q, q = bget r j := ⟨_, rfl⟩
      have SK : Hid (nxtK pmany phas L r el (j + 1) = if q && mn then (nxtK pmany phas L r el j).set j true else if q && gm tmany thas sl el then (nxtK pmany phas L r el j).set (j + 1) true else nxtK pmany phas L r el j) := by unfold Hid; rw [SK.out, hq]; rfl
      rw [← hq] at bk g1
      have wk : IntKind.i64.wrap ((j : Int) + 1) = (j : Int) + 1 := by rw [IntKind.wrap_i64]; omega
      have ji1 : (j : Int) + 1 < (L.length : Int) + 1 := by omega
      have ji0 : (j : Int) < (L.length : Int) + 1 := by omega
      have ksn : ((j : Int) + 1).toNat = j + 1 := by omega
      have HC := Lib.hid ((show Calls Tryd.prog 29 #[.slice xa sl.length xc, .string ns] Wc (fun e w' => e = .returned (.bool (gm tmany thas sl el)) ∧ Below Wc.heap.size Wc w') by rw [HDE.out]; exact meet_any Wc xa xc sl (XS.below KC) XB.1 XB.2 ns nsz))
      obtain ⟨hv, hhv⟩ : ∃ q, q = gm tmany thas sl el := ⟨_, rfl⟩
      rw [← hhv] at HC SK
      have XBK := Lib.hid xb
      have HWc := Lib.hid hWc
      have xc0 := blk_cell xb 0; have xc1 := blk_cell xb 1
      simp at xc0 xc1
      rw [hWc] at f2 g1 h1 h2 fz fz1 xc0 xc1
      clear hc y0 y1 hq KC TC xb hWc hhv e2 bk nk nk1 xne rl nl hrow htx
      cases q with
      | false =>
        have SE : Hid (nxtK pmany phas L r el (j + 1) = nxtK pmany phas L r el j) := by unfold Hid; rw [SK.out]; rfl
        clear SK
        go_wp2
        rw [← HWc.out]
        go_roundw
        case rel => first | exact ⟨j + 1, hjl, by go_num, TX, by rw [SE.out]; exact RC⟩ | ((repeat apply Exists.intro); refine ⟨?_, rfl⟩; exact ⟨j + 1, hjl, by go_num, TX, by rw [SE.out]; exact RC⟩)
        case measure => simp [intOf]; omega
      | true =>
        cases mn with
        | true =>
          have SE : Hid (nxtK pmany phas L r el (j + 1) = (nxtK pmany phas L r el j).set j true) := by unfold Hid; rw [SK.out]; rfl
          have HS : Hid (BRow (Wc.setCell ⟨wo.heap.size, j, none⟩ (.bool true)) wo.heap.size ((nxtK pmany phas L r el j).set j true)) := RC.out.set j
          have TS : Hid (Touch (fun q => q = wo.heap.size) Wn (Wc.setCell ⟨wo.heap.size, j, none⟩ (.bool true))) := TX.out.setCell (p := ⟨wo.heap.size, j, none⟩) (.inl rfl) _
          clear SK
          go_wp2
          rw [← HWc.out]
          go_roundw
          case rel => first | exact ⟨j + 1, hjl, by go_num, TS, by rw [SE.out]; exact HS⟩ | ((repeat apply Exists.intro); refine ⟨?_, rfl⟩; exact ⟨j + 1, hjl, by go_num, TS, by rw [SE.out]; exact HS⟩)
          case measure => simp [intOf]; omega
        | false =>
          go_wp2_with fail
          rw [← HWc.out]
          refine HC.out.mono ?_
          rintro e wy ⟨rfl, by0⟩
          have RY : Hid (BRow wy wo.heap.size (nxtK pmany phas L r el j)) := (by0.block _ (lt_block RC.out)).trans RC.out
          have TY := Lib.hid (TX.out.trans (Touch.of_below by0 : Touch (fun q => q = wo.heap.size) Wc wy) (fun _ _ y => y))
          rw [← HWc.out] at h2 fz1
          have h2y := cell_below by0 h2
          have fzy := fz_no RY.out (j + 1)
          clear by0 HC h2 fz1
          cases hv with
          | false =>
            have SE : Hid (nxtK pmany phas L r el (j + 1) = nxtK pmany phas L r el j) := by unfold Hid; rw [SK.out]; rfl
            clear SK
            go_wp2
            go_roundw
            case rel => first | exact ⟨j + 1, hjl, by go_num, TY, by rw [SE.out]; exact RY⟩ | ((repeat apply Exists.intro); refine ⟨?_, rfl⟩; exact ⟨j + 1, hjl, by go_num, TY, by rw [SE.out]; exact RY⟩)
            case measure => simp [intOf]; omega
          | true =>
            have SE : Hid (nxtK pmany phas L r el (j + 1) = (nxtK pmany phas L r el j).set (j + 1) true) := by unfold Hid; rw [SK.out]; rfl
            have HS : Hid (BRow (wy.setCell ⟨wo.heap.size, j + 1, none⟩ (.bool true)) wo.heap.size ((nxtK pmany phas L r el j).set (j + 1) true)) := RY.out.set (j + 1)
            have TS : Hid (Touch (fun q => q = wo.heap.size) Wn (wy.setCell ⟨wo.heap.size, j + 1, none⟩ (.bool true))) := TY.out.setCell (p := ⟨wo.heap.size, j + 1, none⟩) (.inl rfl) _
            clear SK
            go_wp2
            go_roundw
            case rel => first | exact ⟨j + 1, hjl, by go_num, TS, by rw [SE.out]; exact HS⟩ | ((repeat apply Exists.intro); refine ⟨?_, rfl⟩; exact ⟨j + 1, hjl, by go_num, TS, by rw [SE.out]; exact HS⟩)
            case measure => simp [intOf]; omega
end Go.Proofs.YtmagidkgajmhoaaDoor
