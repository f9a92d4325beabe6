/- GlHm: glob.meet: whether tokens meet a name. -/
import Derived.Test.YtmagidkgajmhoaaDoorGlH
import Derived.Lib.ConvBytes
set_option linter.unusedVariables false
set_option linter.unusedSimpArgs false
namespace Go.Proofs.YtmagidkgajmhoaaDoor
open Go.RowKit

theorem run_make_bools (W : World) (n : Nat) (hn : n ≤ 1000000) : (Instr.makeSlice 61 (.int .i64 ((n : Int) + 1)) (.int .i64 ((n : Int) + 1))).run Tryd.prog W = .ok (.slice (some ⟨W.heap.size, 0, none⟩) (n + 1) (n + 1)) (W.alloc (.cells (madeCells #[.bool false] (n + 1)) 4)) := by
  have := run_make_row' (P := Tryd.prog) 61 4 (.bool false) 1 Tryd.underlying61 infoBl rfl .i64 .i64 (n + 1) (by omega) (by omega) W
  simpa using this
theorem made_bls (n : Nat) : madeCells #[Value.bool false] n = (bls (List.replicate n false)).toArray := by
  apply Array.ext'
  rw [toList_madeCells_one]
  simp [bls]

theorem tMk.other {w w' : World} {B1 B2 g gn : Nat} {A : Option Addr} {c : Nat} {L : List TkM} {r r' : List Bool} (h : tMk w B1 B2 g A c L r) (ht : Touch (fun j => j = gn) w w') (hg : BRow w gn r') (hne : gn ≠ g) : tMk w' B1 B2 g A c L r := by
  have kp := Kp.touch hg ht
  exact ⟨kp _ _ _ (by decide) h.b1, kp _ _ _ (by decide) h.b2, blk_touch ht h.row (fun e => hne e.symm), h.len, h.rd.kp kp (by decide) (by decide)⟩
theorem tMk.below {w w' : World} {B1 B2 g : Nat} {A : Option Addr} {c : Nat} {L : List TkM} {r : List Bool} (h : tMk w B1 B2 g A c L r) (hb : Below w.heap.size w w') : tMk w' B1 B2 g A c L r :=
  ⟨(hb.block _ (lt_block h.b1)).trans h.b1, (hb.block _ (lt_block h.b2)).trans h.b2, (hb.block _ (lt_block h.row)).trans h.row, h.len, h.rd.below hb⟩
/-- The marks are others. -/
theorem tMk.swap {w : World} {B1 B2 g gn : Nat} {A : Option Addr} {c : Nat} {L : List TkM} {r r' : List Bool} (h : tMk w B1 B2 g A c L r) (hg : BRow w gn r') (hl : r'.length = L.length + 1) : tMk (w.setCell ⟨B2, 0, none⟩ (.slice (some ⟨gn, 0, none⟩) (L.length + 1) (L.length + 1))) B1 B2 gn A c L r' := by
  have T : Touch (fun j => j = B2) w (w.setCell ⟨B2, 0, none⟩ (.slice (some ⟨gn, 0, none⟩) (L.length + 1) (L.length + 1))) := (Touch.refl (fun j => j = B2) w).setCell (p := ⟨B2, 0, none⟩) (.inl rfl) _
  have kp := Kp.touch h.b2 T
  refine ⟨kp _ _ _ (by decide) h.b1, ?_, kp _ _ _ (by decide) hg, hl, h.rd.kp kp (by decide) (by decide)⟩
  have := blk_set h.b2 0 (.slice (some ⟨gn, 0, none⟩) (L.length + 1) (L.length + 1))
  simpa using this
def thas (x : TkM) (c : UInt8) : Bool := tokHas x.t c
set_option maxHeartbeats 6400000 in
set_option maxRecDepth 100000 in
theorem meet_any (w : World) (A : Option Addr) (c : Nat) (L : List TkM) (h : RdTks w A L) (hn : L.length ≤ 1000000) (hsl : ∀ x ∈ L, x.t.l.length ≤ 1000000) (name : ByteArray) (hnm : name.size ≤ 1000000) :
    Calls Tryd.prog 29 #[.slice A L.length c, .string name] w fun e w' => e = .returned (.bool (gm tmany thas L (dat name))) ∧ Below w.heap.size w w' := by
  have HSL := Lib.hid hsl
  have wkL : IntKind.i64.wrap ((L.length : Int) + 1) = (L.length : Int) + 1 := by rw [IntKind.wrap_i64]; omega
  have MK := fun W => run_make_bools W L.length hn
  have MB := made_bls (L.length + 1)
  obtain ⟨R, hR⟩ : ∃ R, R = gm tmany thas L (dat name) := ⟨_, rfl⟩
  rw [← hR]
  have HR := Lib.hid hR
  clear hR
  obtain ⟨W1, hW1⟩ : ∃ W, W = w.alloc (.cells #[.slice A L.length c] 49) := ⟨_, rfl⟩
  obtain ⟨W2, hW2⟩ : ∃ W, W = W1.alloc (.cells ((bls (List.replicate (L.length + 1) false)).set 0 (.bool true)).toArray 4) := ⟨_, rfl⟩
  obtain ⟨W3, hW3⟩ : ∃ W, W = W2.alloc (.cells #[.slice (some ⟨w.heap.size + 1, 0, none⟩) (L.length + 1) (L.length + 1)] 61) := ⟨_, rfl⟩
  have K1 : Below w.heap.size w W1 := by rw [hW1]; exact (Below.refl _ w).alloc (Nat.le_refl _) _
  have K2 : Below W1.heap.size W1 W2 := by rw [hW2]; exact (Below.refl _ W1).alloc (Nat.le_refl _) _
  have K3 : Below W2.heap.size W2 W3 := by rw [hW3]; exact (Below.refl _ W2).alloc (Nat.le_refl _) _
  have sz1 : W1.heap.size = w.heap.size + 1 := by rw [hW1]; simp
  have sz2 : W2.heap.size = w.heap.size + 1 + 1 := by rw [hW2]; simp [sz1]
  have sz3 : W3.heap.size = w.heap.size + 1 + 1 + 1 := by rw [hW3]; simp [sz2]
  have KK : Below w.heap.size w W3 := K1.trans ((K2.trans (K3.mono K2.size)).mono K1.size)
  have M3 : tMk W3 w.heap.size (w.heap.size + 1 + 1) (w.heap.size + 1) A c L ((List.replicate (L.length + 1) false).set 0 true) := by
    refine ⟨?_, ?_, ?_, by simp, h.below KK⟩
    · have : W1.heap[w.heap.size]? = some (.cells #[.slice A L.length c] 49 (0, 0)) := by rw [hW1]; exact blk_new w _
      rw [K3.block _ (by omega), K2.block _ (by omega), this]
    · rw [← sz2, hW3]; exact blk_new W2 _
    · unfold BRow
      rw [K3.block _ (by omega), ← sz1, hW2, blk_new W1 _]
      unfold bls
      rw [List.map_set]
  have SP := Lib.hid (tspr_any W3 w.heap.size (w.heap.size + 1 + 1) (w.heap.size + 1) A c L _ M3 hn)
  have HKK := Lib.hid KK
  have SZ3 : Hid (W3.heap.size = w.heap.size + 1 + 1 + 1) := sz3
  have HW1 := Lib.hid hW1; have HW2 := Lib.hid hW2; have HW3 := Lib.hid hW3
  have MF := Lib.hid (marks_first (many := tmany) (has := thas) L)
  clear K1 K2 K3 KK M3 sz1 sz2 sz3 hW1 hW2 hW3 h hsl
  go_enter Tryd.func29, Tryd.ntmps29
  go_wp2_with fail
  rw [← HW1.out, ← HW2.out, ← HW3.out]
  refine SP.out.mono ?_
  rintro e w4 ⟨rfl, m4, t4⟩
  have B4 : Hid (Below w.heap.size w w4) := HKK.out.trans (t4.below (by have := SZ3.out; omega) (fun j hj => by rw [hj]; omega))
  have T4 := Lib.hid t4
  have M4 := Lib.hid m4
  have SZ4 : Hid (w.heap.size + 1 + 1 + 1 ≤ w4.heap.size) := by have := t4.size; have := SZ3.out; unfold Hid; omega
  clear m4 t4 SP MB
  have MB := fun n => made_bls n
  have CV := Lib.run_convert_string_bytes (P := Tryd.prog) w4 9 77 5 name Tryd.underlying9 Tryd.underlying77 Tryd.underlying5
  obtain ⟨W5, hW5⟩ : ∃ W, W = Lib.bytesWorld w4 5 name := ⟨_, rfl⟩
  rw [← hW5] at CV
  have szd : (dat name).length = name.size := by unfold dat; rw [Array.length_toList]; rfl
  have K5 : Below w4.heap.size w4 W5 := by
    rw [hW5]
    exact ⟨rfl, rfl, rfl, by rw [Lib.bytesWorld_size]; omega, fun j hj => Lib.bytesWorld_at_old w4 _ name j hj⟩
  have EC : Hid (∀ j (hj : j < name.size), W5.cell? ⟨w4.heap.size, j, none⟩ = some (.int .u8 (((dat name).getD j 0).toNat : Int))) := fun j hj => by rw [hW5]; exact Lib.bytesWorld_cell w4 _ name j hj
  obtain ⟨ob, hob⟩ : ∃ ob, W5.heap[w4.heap.size]? = some ob := ⟨_, by rw [hW5]; exact Lib.bytesWorld_at_new w4 _ name⟩
  have HOB := Lib.hid hob
  have M5 := Lib.hid (M4.out.below K5)
  have B5 : Hid (Below w.heap.size w W5) := B4.out.trans (K5.mono (by have := SZ4.out; omega))
  have LT5 : Hid (w.heap.size + 1 < W5.heap.size) := by have := SZ4.out; have := K5.size; unfold Hid; omega
  have SZD := Lib.hid szd
  clear hW5 hob K5 szd
  go_wp2_with fail
  go_loopw [24] (fun iv wr => ∃ (k g : Nat) (r : List Bool), k ≤ name.size ∧ iv = .int .i64 k ∧ w.heap.size < g ∧ g ≠ w.heap.size + 1 + 1 ∧ g < wr.heap.size ∧ Hid (Marks tmany thas L ((dat name).take k) r) ∧ Hid (tMk wr w.heap.size (w.heap.size + 1 + 1) g A c L r) ∧ w4.heap.size ≠ g ∧ Hid (wr.heap[w4.heap.size]? = some ob) ∧ Hid (Below w.heap.size w wr)) (fun iv _ => name.size - (intOf iv).toNat)
  case atStart => exact ⟨0, w.heap.size + 1, _, Nat.zero_le _, rfl, by omega, by omega, LT5.out, MF, M5, by have := SZ4.out; omega, HOB, B5⟩
  case round =>
    obtain ⟨k, g, r, hk, rfl, hg1, hg2, hg3, hmk, hm, hge, hobr, hb⟩ := hrel
    obtain ⟨wo, hwo⟩ : ∃ wo, wo = wr := ⟨_, rfl⟩
    subst hwo
    by_cases hlt : k < name.size
    case neg =>
      have hkl : k = name.size := by omega
      have hki : ¬ (k : Int) < (name.size : Int) := by omega
      have e1 := blk_cell hm.out.b1 0; have e2 := blk_cell hm.out.b2 0
      simp at e1 e2
      have MKF : Hid (Marks tmany thas L (dat name) r) := by
        have := hmk.out
        rw [hkl, List.take_of_length_le (by have := SZD.out; omega)] at this
        exact this
      have bk := hm.out.row.cell (i := L.length) (by rw [hm.out.len]; omega)
      have RE : bget r L.length = R := by rw [HR.out]; exact marks_last MKF.out
      rw [RE] at bk
      clear RE
      go_wp2
      go_ret
      exact ⟨rfl, hb.out⟩
    have hki : (k : Int) < (name.size : Int) := by omega
    obtain ⟨el, hel⟩ : ∃ el, el = (dat name)[k]'(by have := SZD.out; omega) := ⟨_, rfl⟩
    have zc : wo.cell? ⟨w4.heap.size, k, none⟩ = some (.int .u8 (el.toNat : Int)) := by
      have := EC.out k hlt
      rw [World.cell?_of_block (hobr.out.trans HOB.out.symm), this, hel, List.getD_eq_getElem?_getD, List.getElem?_eq_getElem (by have := SZD.out; omega)]
      rfl
    have MN := Lib.hid (marks_next hmk.out el)
    have TKE : Hid ((dat name).take (k + 1) = (dat name).take k ++ [el]) := by unfold Hid; rw [List.take_succ_eq_append_getElem (by have := SZD.out; omega)]; exact congrArg (fun z => (dat name).take k ++ [z]) hel.symm
    have e1 := blk_cell hm.out.b1 0
    simp at e1
    have HEL := Lib.hid hel
    obtain ⟨Wn, hWn⟩ : ∃ W, W = wo.alloc (.cells (bls (List.replicate (L.length + 1) false)).toArray 4) := ⟨_, rfl⟩
    have KN : Below wo.heap.size wo Wn := by rw [hWn]; exact (Below.refl _ wo).alloc (Nat.le_refl _) _
    have szn : Wn.heap.size = wo.heap.size + 1 := by rw [hWn]; simp
    have RN : BRow Wn wo.heap.size (List.replicate (L.length + 1) false) := by rw [hWn]; exact blk_new wo _
    have MM := Lib.hid (hm.out.below KN)
    have HKN := Lib.hid KN; have HSZN := Lib.hid szn; have HRN := Lib.hid RN
    have HWn := Lib.hid hWn
    have MB2 := made_bls (L.length + 1)
    have e1n := cell_below KN e1
    rw [hWn] at e1n
    have NXL := Lib.hid (nxtK_len tmany thas L r el)
    have N0 : Hid (BRow Wn wo.heap.size (nxtK tmany thas L r el 0)) := RN
    clear hel KN szn RN hWn hmk
    go_wp2_with fail
    rw [← HWn.out]
    go_loopw [34] (fun jv wr => ∃ j : Nat, j ≤ L.length ∧ jv = .int .i64 j ∧ Hid (Touch (fun q => q = wo.heap.size) Wn wr) ∧ Hid (BRow wr wo.heap.size (nxtK tmany thas L r el j))) (fun jv _ => L.length - (intOf jv).toNat)
    case atStart => exact ⟨0, Nat.zero_le _, rfl, Touch.refl _ _, N0⟩
    case round =>
      obtain ⟨j, hj, rfl, htx, hrow⟩ := hrel
      have hmx := Lib.hid (MM.out.other htx.out HRN.out (by omega))
      by_cases hjl : j < L.length
      case neg =>
        have hjn : j = L.length := by omega
        have hji : ¬ (j : Int) < (L.length : Int) := by omega
        have e2 := blk_cell hmx.out.b2 0
        simp at e2
        have fz2 := fz_no hmx.out.b2 0
        have MS := Lib.hid (hmx.out.swap (by have := hrow.out; rw [hjn] at this; exact this) (NXL.out _))
        have SP2 := Lib.hid (tspr_any _ _ _ _ _ _ _ _ MS.out hn)
        have TB : Hid (Touch (fun q => q = w.heap.size + 1 + 1) wr (wr.setCell ⟨w.heap.size + 1 + 1, 0, none⟩ (.slice (some ⟨wo.heap.size, 0, none⟩) (L.length + 1) (L.length + 1)))) := (Touch.refl (fun q => q = w.heap.size + 1 + 1) wr).setCell (p := ⟨w.heap.size + 1 + 1, 0, none⟩) (.inl rfl) _
        go_wp2_with fail
        refine SP2.out.mono ?_
        rintro e wz ⟨rfl, mz, tz⟩
        have MZ := Lib.hid mz
        have bx : Below w.heap.size w wr := (hb.out.trans (HKN.out.mono hb.out.size)).trans (htx.out.below (by have := HKN.out.size; have := hb.out.size; omega) (fun q hq => by rw [hq]; exact hb.out.size))
        have by1 : Below w.heap.size w (wr.setCell ⟨w.heap.size + 1 + 1, 0, none⟩ (.slice (some ⟨wo.heap.size, 0, none⟩) (L.length + 1) (L.length + 1))) := bx.trans (TB.out.below bx.size (fun q hq => by rw [hq]; omega))
        have BZ : Hid (Below w.heap.size w wz) := by1.trans (tz.below by1.size (fun q hq => by rw [hq]; exact hb.out.size))
        have OBZ : Hid (wz.heap[w4.heap.size]? = some ob) := by
          have o1 : wr.heap[w4.heap.size]? = some ob := (htx.out.block _ (Nat.lt_of_lt_of_le (lt_block hobr.out) HKN.out.size) (fun e => by have := lt_block hobr.out; omega)).trans ((HKN.out.block _ (lt_block hobr.out)).trans hobr.out)
          have o2 := blk_touch TB.out o1 (fun e => by have := SZ4.out; omega)
          exact blk_touch tz o2 (fun e => by have := lt_block hobr.out; omega)
        have MKZ : Hid (Marks tmany thas L ((dat name).take (k + 1)) (spr tmany L (nxtK tmany thas L r el L.length))) := by unfold Hid; rw [TKE.out]; exact MN.out
        have LTZ : Hid (wo.heap.size < wz.heap.size) := lt_block mz.row
        clear mz tz bx by1 SP2 MS
        go_wp2
        go_roundw
        case rel => first | exact ⟨k + 1, wo.heap.size, _, hlt, by go_num, by omega, (by have := lt_block hm.out.b2; omega), LTZ.out, MKZ, MZ, (by have := lt_block hobr.out; omega), OBZ, BZ⟩ | ((repeat apply Exists.intro); refine ⟨?_, rfl⟩; exact ⟨k + 1, wo.heap.size, _, hlt, by go_num, by omega, (by have := lt_block hm.out.b2; omega), LTZ.out, MKZ, MZ, (by have := lt_block hobr.out; omega), OBZ, BZ⟩)
        case measure => simp [intOf]; omega
      have hji : (j : Int) < (L.length : Int) := by omega
      have xne : tkv L ≠ [] := fun e => by
        have := tkv_len L
        rw [e] at this
        simp at this
        omega
      obtain ⟨b, o, rfl, hc⟩ := hmx.out.rd.1.cells xne
      obtain ⟨y0, y1, y2⟩ := tkv_get L j hjl
      have z0 := hc _ _ y0; have z1 := hc _ _ y1; have z2 := hc _ _ y2
      rw [show o + (j * 3 + 1) = o + j * 3 + 1 by omega] at z1
      rw [show o + (j * 3 + 2) = o + j * 3 + 2 by omega] at z2
      have e2 := blk_cell hmx.out.b2 0
      simp at e2
      have SK : Hid (nxtK tmany thas L r el (j + 1) = if bget r j && tmany L[j] then (nxtK tmany thas L r el j).set j true else if bget r j && thas L[j] el then (nxtK tmany thas L r el j).set (j + 1) true else nxtK tmany thas L r el j) := by unfold Hid; rw [nxtK, dif_pos hjl]
      have rl := hmx.out.len
      have nl := NXL.out j
      have bk := hmx.out.row.cell (i := j) (by omega)
      have nk := hrow.out.cell (i := j) (by omega)
      have nk1 := hrow.out.cell (i := j + 1) (by omega)
      have XB := HSL.out L[j] (List.getElem_mem _)
      have XS := hmx.out.rd.2 L[j] (List.getElem_mem _)
      generalize L[j] = x at z0 z1 z2 SK XB XS
      obtain ⟨⟨mn, no, sl⟩, xa, xc⟩ := x
      simp only at z0 z1 z2 XB XS
      obtain ⟨Wc, hWc⟩ : ∃ W, W = wr.alloc (.cells #[.bool mn, .bool no, .slice xa sl.length xc] 74) := ⟨_, rfl⟩
      have KC : Below wr.heap.size wr Wc := by rw [hWc]; exact (Below.refl _ wr).alloc (Nat.le_refl _) _
      have TC : Touch (fun q => q = wo.heap.size) wr Wc := Touch.of_below KC
      have RC : Hid (BRow Wc wo.heap.size (nxtK tmany thas L r el j)) := (KC.block _ (lt_block hrow.out)).trans hrow.out
      have TX := Lib.hid (htx.out.trans TC (fun _ _ y => y))
      have xb : Wc.heap[wr.heap.size]? = some (.cells #[.bool mn, .bool no, .slice xa sl.length xc] 74 (0, 0)) := by rw [hWc]; exact blk_new wr _
      have f2 := cell_below KC e2; have g1 := cell_below KC bk; have h1 := cell_below KC nk; have h2 := cell_below KC nk1
      have fz := fz_no RC.out j; have fz1 := fz_no RC.out (j + 1)
      obtain ⟨q, hq⟩ : ∃ q, q = bget r j := ⟨_, rfl⟩
      have SK : Hid (nxtK tmany thas L r el (j + 1) = if q && mn then (nxtK tmany thas L r el j).set j true else if q && (sl.any (inSp el) != no) then (nxtK tmany thas L r el j).set (j + 1) true else nxtK tmany thas L r el j) := by unfold Hid; rw [SK.out, hq]; rfl
      rw [← hq] at bk g1
      have wk : IntKind.i64.wrap ((j : Int) + 1) = (j : Int) + 1 := by rw [IntKind.wrap_i64]; omega
      have ji1 : (j : Int) + 1 < (L.length : Int) + 1 := by omega
      have ji0 : (j : Int) < (L.length : Int) + 1 := by omega
      have ksn : ((j : Int) + 1).toNat = j + 1 := by omega
      have HC := Lib.hid (has_any Wc mn no sl xa xc el (XS.below KC) XB)
      obtain ⟨hv, hhv⟩ : ∃ q, q = (sl.any (inSp el) != no) := ⟨_, rfl⟩
      rw [← hhv] at HC SK
      have XBK := Lib.hid xb
      have HWc := Lib.hid hWc
      have xc0 := blk_cell xb 0; have xc1 := blk_cell xb 1; have xc2 := blk_cell xb 2
      simp at xc0 xc1 xc2
      rw [hWc] at f2 g1 h1 h2 fz fz1 xc0 xc1 xc2
      clear hc y0 y1 y2 hq KC TC xb hWc hhv e2 bk nk nk1 xne rl nl hrow htx
      cases q with
      | false =>
        have SE : Hid (nxtK tmany thas L r el (j + 1) = nxtK tmany thas L r el j) := by unfold Hid; rw [SK.out]; rfl
        clear SK
        go_wp2
        rw [← HWc.out]
        go_roundw
        case rel => first | exact ⟨j + 1, hjl, by go_num, TX, by rw [SE.out]; exact RC⟩ | ((repeat apply Exists.intro); refine ⟨?_, rfl⟩; exact ⟨j + 1, hjl, by go_num, TX, by rw [SE.out]; exact RC⟩)
        case measure => simp [intOf]; omega
      | true =>
        cases mn with
        | true =>
          have SE : Hid (nxtK tmany thas L r el (j + 1) = (nxtK tmany thas L r el j).set j true) := by unfold Hid; rw [SK.out]; rfl
          have HS : Hid (BRow (Wc.setCell ⟨wo.heap.size, j, none⟩ (.bool true)) wo.heap.size ((nxtK tmany thas L r el j).set j true)) := RC.out.set j
          have TS : Hid (Touch (fun q => q = wo.heap.size) Wn (Wc.setCell ⟨wo.heap.size, j, none⟩ (.bool true))) := TX.out.setCell (p := ⟨wo.heap.size, j, none⟩) (.inl rfl) _
          clear SK
          go_wp2
          rw [← HWc.out]
          go_roundw
          case rel => first | exact ⟨j + 1, hjl, by go_num, TS, by rw [SE.out]; exact HS⟩ | ((repeat apply Exists.intro); refine ⟨?_, rfl⟩; exact ⟨j + 1, hjl, by go_num, TS, by rw [SE.out]; exact HS⟩)
          case measure => simp [intOf]; omega
        | false =>
          go_wp2_with fail
          rw [← HWc.out]
          refine HC.out.mono ?_
          rintro e wy ⟨rfl, by0⟩
          have RY : Hid (BRow wy wo.heap.size (nxtK tmany thas L r el j)) := (by0.block _ (lt_block RC.out)).trans RC.out
          have TY := Lib.hid (TX.out.trans (Touch.of_below by0 : Touch (fun q => q = wo.heap.size) Wc wy) (fun _ _ y => y))
          rw [← HWc.out] at h2 fz1
          have h2y := cell_below by0 h2
          have fzy := fz_no RY.out (j + 1)
          clear by0 HC h2 fz1
          cases hv with
          | false =>
            have SE : Hid (nxtK tmany thas L r el (j + 1) = nxtK tmany thas L r el j) := by unfold Hid; rw [SK.out]; rfl
            clear SK
            go_wp2
            go_roundw
            case rel => first | exact ⟨j + 1, hjl, by go_num, TY, by rw [SE.out]; exact RY⟩ | ((repeat apply Exists.intro); refine ⟨?_, rfl⟩; exact ⟨j + 1, hjl, by go_num, TY, by rw [SE.out]; exact RY⟩)
            case measure => simp [intOf]; omega
          | true =>
            have SE : Hid (nxtK tmany thas L r el (j + 1) = (nxtK tmany thas L r el j).set (j + 1) true) := by unfold Hid; rw [SK.out]; rfl
            have HS : Hid (BRow (wy.setCell ⟨wo.heap.size, j + 1, none⟩ (.bool true)) wo.heap.size ((nxtK tmany thas L r el j).set (j + 1) true)) := RY.out.set (j + 1)
            have TS : Hid (Touch (fun q => q = wo.heap.size) Wn (wy.setCell ⟨wo.heap.size, j + 1, none⟩ (.bool true))) := TY.out.setCell (p := ⟨wo.heap.size, j + 1, none⟩) (.inl rfl) _
            clear SK
            go_wp2
            go_roundw
            case rel => first | exact ⟨j + 1, hjl, by go_num, TS, by rw [SE.out]; exact HS⟩ | ((repeat apply Exists.intro); refine ⟨?_, rfl⟩; exact ⟨j + 1, hjl, by go_num, TS, by rw [SE.out]; exact HS⟩)
            case measure => simp [intOf]; omega
end Go.Proofs.YtmagidkgajmhoaaDoor
