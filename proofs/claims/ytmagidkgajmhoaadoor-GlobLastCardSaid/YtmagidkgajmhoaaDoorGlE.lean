/- GlE: a reader of a part: a token. -/
import Derived.Test.YtmagidkgajmhoaaDoorGlD
set_option linter.unusedVariables false
set_option linter.unusedSimpArgs false
namespace Go.Proofs.YtmagidkgajmhoaaDoor
open Go.RowKit

structure PTok where
  many : Bool
  no : Bool
  l : Spans
/-- A token, and what is behind it. -/
def tokP : Bs → Option (PTok × Bs)
  | [] => none
  | c :: r => if c = 93 ∨ c = 47 then none else if c = 42 then some (⟨true, false, []⟩, r) else if c = 63 then some (⟨false, false, [(0, 255)]⟩, r)
    else if c = 91 then (setQ r).map (fun x => (⟨false, x.1, x.2.1⟩, x.2.2)) else if c = 92 then (match r with | [] => none | d :: r' => some (⟨false, false, [(d, d)]⟩, r')) else some (⟨false, false, [(c, c)]⟩, r)
/-- What token makes of a reader. -/
def TokTo (w : World) (gr : Nat) (s : ByteArray) (k : Nat) (e : Ending) (w' : World) : Prop :=
  (tokP ((dat s).drop k) = none ∧ ∃ (mn nt : Bool) (A : Option Addr) (m c k' : Nat), e = .returned (.tuple #[.agg #[.bool mn, .bool nt, .slice A m c], .bool false]) ∧ k' ≤ s.size ∧ RdTo w gr s k' w') ∨
  ∃ (t : PTok) (A : Option Addr) (c k' : Nat), tokP ((dat s).drop k) = some (t, (dat s).drop k') ∧ k < k' ∧ k' ≤ s.size ∧ e = .returned (.tuple #[.agg #[.bool t.many, .bool t.no, .slice A t.l.length c], .bool true]) ∧ OwnS w' w.heap.size (.slice A t.l.length c) t.l ∧ RdTo w gr s k' w'
/-- What holds amid the reading of a token. -/
structure TkW (w wr : World) (gr b2 : Nat) (s : ByteArray) (k : Nat) : Prop where
  rd : RdTo w gr s k wr
  c2 : ∃ x y z, wr.heap[b2]? = some (.cells #[x, y, z] 74 (0, 0))
  g2 : w.heap.size ≤ b2
  gr : gr < w.heap.size
theorem TkW.read {w wr w' : World} {gr b2 k k' : Nat} {s : ByteArray} (h : TkW w wr gr b2 s k) (hr : RdTo wr gr s k' w') : TkW w w' gr b2 s k' := by
  have := h.g2; have := h.gr
  obtain ⟨x, y, z, hc⟩ := h.c2
  exact ⟨h.rd.trans hr, ⟨x, y, z, blk_touch hr.2 hc (by omega)⟩, h.g2, h.gr⟩
theorem TkW.below {w wr w' : World} {gr b2 k : Nat} {s : ByteArray} (h : TkW w wr gr b2 s k) (hb : Below wr.heap.size wr w') : TkW w w' gr b2 s k := h.read (RdTo.below ⟨h.rd.1, Touch.refl _ wr⟩ hb)
theorem TkW.out3 {w wr : World} {gr b2 k : Nat} {s : ByteArray} (h : TkW w wr gr b2 s k) (x y z : Value) {v : Value} {l : Spans} (ho : OwnS wr w.heap.size v l) :
    (((wr.setCell ⟨b2, 0, none⟩ x).setCell ⟨b2, 1, none⟩ y).setCell ⟨b2, 2, none⟩ z).heap[b2]? = some (.cells #[x, y, z] 74 (0, 0)) ∧ OwnS (((wr.setCell ⟨b2, 0, none⟩ x).setCell ⟨b2, 1, none⟩ y).setCell ⟨b2, 2, none⟩ z) w.heap.size v l ∧ RdTo w gr s k (((wr.setCell ⟨b2, 0, none⟩ x).setCell ⟨b2, 1, none⟩ y).setCell ⟨b2, 2, none⟩ z) := by
  have g2 := h.g2; have gl := h.gr
  obtain ⟨x0, y0, z0, hc2⟩ := h.c2
  have T2 : Touch (fun j => j = b2) wr (((wr.setCell ⟨b2, 0, none⟩ x).setCell ⟨b2, 1, none⟩ y).setCell ⟨b2, 2, none⟩ z) := (((Touch.refl (fun j => j = b2) wr).setCell (p := ⟨b2, 0, none⟩) (.inl rfl) _).setCell (p := ⟨b2, 1, none⟩) (.inl rfl) _).setCell (p := ⟨b2, 2, none⟩) (.inl rfl) _
  refine ⟨?_, own_touch ho T2 (fun j hj e => by
      subst e
      exact own_ne_tok0 ho hc2 hj), blk_touch T2 h.rd.1 (by omega), ((h.rd.2.setCell (p := ⟨b2, 0, none⟩) (.inr g2) _).setCell (p := ⟨b2, 1, none⟩) (.inr g2) _).setCell (p := ⟨b2, 2, none⟩) (.inr g2) _⟩
  have h1 := blk_set hc2 0 x
  have h2 := blk_set h1 1 y
  have h3 := blk_set h2 2 z
  simpa using h3
theorem own_lit1 {w0 w : World} (hb : w0.heap.size ≤ w.heap.size) (a b : UInt8) : OwnS (w.alloc (.cells #[.int .u8 (a.toNat : Int), .int .u8 (b.toNat : Int)] 86)) w0.heap.size (.slice (some ⟨w.heap.size, 0, none⟩) 1 1) [(a, b)] := by
  have := World.ownsRow_lit (base := w0.heap.size) (e := 86) (size := 2) w #[.int .u8 (a.toNat : Int), .int .u8 (b.toNat : Int)] 1 hb (by decide) rfl
  exact this
theorem own_low {w : World} {b b' : Nat} {v : Value} {l : Spans} (h : OwnS w b v l) (hb : b' ≤ b) : OwnS w b' v l := by
  obtain ⟨h1, h2⟩ := h
  rcases h2 with h2 | ⟨g, c, cur, e, h3, h4⟩
  · exact ⟨h1, .inl h2⟩
  · exact ⟨h1, .inr ⟨g, c, cur, e, Nat.le_trans hb h3, h4⟩⟩
theorem u8_ne {c d : UInt8} (h : ¬ c = d) : ((c.toNat : Int) == (d.toNat : Int)) = false ∧ (c.toNat == d.toNat) = false := by
  have : c.toNat ≠ d.toNat := fun e => h (UInt8.toNat_inj.1 e)
  constructor
  · rw [beq_eq_false_iff_ne]; omega
  · rw [beq_eq_false_iff_ne]; exact this
set_option maxHeartbeats 6400000 in
set_option maxRecDepth 100000 in
theorem token_any (w : World) (gr : Nat) (s : ByteArray) (k : Nat) (h : Rdr w gr s k) (hk : k ≤ s.size) (hs : s.size ≤ 1000000) :
    Calls Tryd.prog 36 #[.pointer (some ⟨gr, 0, none⟩)] w fun e w' => TokTo w gr s k e w' := by
  have hgr := lt_block h
  obtain ⟨W1, hW1⟩ : ∃ W, W = w.alloc (.cells #[.bool false, .bool false, .slice none 0 0] 74) := ⟨_, rfl⟩
  have K1 : Below w.heap.size w W1 := by rw [hW1]; exact (Below.refl _ w).alloc (Nat.le_refl _) _
  have S1 : TkW w W1 gr w.heap.size s k := ⟨RdTo.below ⟨h, Touch.refl _ w⟩ K1, ⟨.bool false, .bool false, .slice none 0 0, by rw [hW1]; exact blk_new w _⟩, Nat.le_refl _, hgr⟩
  have HS1 := Lib.hid S1
  have NX := Lib.hid (next_to W1 gr s k S1.rd.1 hk hs)
  have HW1 := Lib.hid hW1
  clear K1 S1 hW1 h
  go_enter Tryd.func36, Tryd.ntmps36
  go_wp2_with fail
  rw [← HW1.out]
  refine NX.out.mono ?_
  rintro e w2 (⟨h0, rfl, r1⟩ | ⟨c, h0, hlt, rfl, r1⟩)
  · have TP : Hid (tokP ((dat s).drop k) = none) := by unfold Hid; rw [h0]; rfl
    have S2 := HS1.out.read r1
    obtain ⟨z0, z1, z2, hc2⟩ := S2.c2
    have c20 := blk_cell hc2 0; have c21 := blk_cell hc2 1; have c22 := blk_cell hc2 2
    simp at c20 c21 c22
    have f20 := fz_no hc2 0; have f21 := fz_no hc2 1; have f22 := fz_no hc2 2
    have OUT := Lib.hid (S2.out3 (.bool false) (.bool false) (.slice none 0 0) (own_nil w2 w.heap.size))
    clear h0 r1 S2 hc2
    go_wp2
    obtain ⟨o1, o2, o3⟩ := OUT.out
    refine bodyPost_ret (results_tk rfl _ _ w.heap.size _ _ _ rfl o1) rfl ?_
    exact .inl ⟨TP.out, false, false, none, 0, 0, k, rfl, hk, o3⟩
  · have TQ : Hid (tokP ((dat s).drop k) = tokP (c :: (dat s).drop (k + 1))) := by unfold Hid; rw [h0]
    have S2 := Lib.hid (HS1.out.read r1)
    obtain ⟨z0, z1, z2, hc2⟩ := S2.out.c2
    have c20 := blk_cell hc2 0; have c21 := blk_cell hc2 1; have c22 := blk_cell hc2 2
    simp at c20 c21 c22
    have f20 := fz_no hc2 0; have f21 := fz_no hc2 1; have f22 := fz_no hc2 2
    clear h0
    by_cases h1 : c = 93 ∨ c = 47
    · have TP : Hid (tokP ((dat s).drop k) = none) := by unfold Hid; rw [TQ.out]; simp [tokP, h1]
      have OUT := Lib.hid (S2.out.out3 (.bool false) (.bool false) (.slice none 0 0) (own_nil w2 w.heap.size))
      clear r1 S2 hc2
      rcases h1 with rfl | rfl
      all_goals
        go_wp2
        obtain ⟨o1, o2, o3⟩ := OUT.out
        refine bodyPost_ret (results_tk rfl _ _ w.heap.size _ _ _ rfl o1) rfl ?_
        exact .inl ⟨TP.out, false, false, none, 0, 0, k + 1, rfl, hlt, o3⟩
    have h1a : ¬ c = 93 := fun e => h1 (.inl e)
    have h1b : ¬ c = 47 := fun e => h1 (.inr e)
    have na : ((c.toNat : Int) == 93) = false := (u8_ne h1a).1
    have na' : (c.toNat == 93) = false := (u8_ne h1a).2
    have nb : ((c.toNat : Int) == 47) = false := (u8_ne h1b).1
    have nb' : (c.toNat == 47) = false := (u8_ne h1b).2
    by_cases h2 : c = 42
    · have TP : Hid (tokP ((dat s).drop k) = some (⟨true, false, []⟩, (dat s).drop (k + 1))) := by unfold Hid; rw [TQ.out]; subst h2; simp [tokP]
      have OUT := Lib.hid (S2.out.out3 (.bool true) (.bool false) (.slice none 0 0) (own_nil w2 w.heap.size))
      clear r1 S2 hc2 na na' nb nb' h1 h1a h1b
      subst h2
      go_wp2
      obtain ⟨o1, o2, o3⟩ := OUT.out
      refine bodyPost_ret (results_tk rfl _ _ w.heap.size _ _ _ rfl o1) rfl ?_
      exact .inr ⟨⟨true, false, []⟩, none, 0, k + 1, TP.out, by omega, hlt, rfl, o2, o3⟩
    have nc : ((c.toNat : Int) == 42) = false := (u8_ne h2).1
    have nc' : (c.toNat == 42) = false := (u8_ne h2).2
    by_cases h3 : c = 63
    · have TP : Hid (tokP ((dat s).drop k) = some (⟨false, false, [(0, 255)]⟩, (dat s).drop (k + 1))) := by unfold Hid; rw [TQ.out]; subst h3; simp [tokP]
      obtain ⟨W3, hW3⟩ : ∃ W, W = w2.alloc (.cells #[.int .u8 0, .int .u8 255] 86) := ⟨_, rfl⟩
      have S3 : TkW w W3 gr w.heap.size s (k + 1) := S2.out.below (by rw [hW3]; exact (Below.refl _ w2).alloc (Nat.le_refl _) _)
      have O3 : OwnS W3 w.heap.size (.slice (some ⟨w2.heap.size, 0, none⟩) 1 1) [(0, 255)] := by rw [hW3]; exact own_lit1 S2.out.rd.2.size 0 255
      have OUT := Lib.hid (S3.out3 (.bool false) (.bool false) (.slice (some ⟨w2.heap.size, 0, none⟩) 1 1) O3)
      obtain ⟨y0, y1, y2, hc3⟩ := S3.c2
      have c30 := blk_cell hc3 0; have c31 := blk_cell hc3 1; have c32 := blk_cell hc3 2
      simp at c30 c31 c32
      have f30 := fz_no hc3 0; have f31 := fz_no hc3 1; have f32 := fz_no hc3 2
      rw [hW3] at c30 c31 c32 f30 f31 f32 OUT
      clear r1 S2 hc2 na na' nb nb' nc nc' h1 h1a h1b h2 S3 O3 hc3 hW3
      subst h3
      go_wp2
      obtain ⟨o1, o2, o3⟩ := OUT.out
      refine bodyPost_ret (results_tk rfl _ _ w.heap.size _ _ _ rfl o1) rfl ?_
      exact .inr ⟨⟨false, false, [(0, 255)]⟩, _, 1, k + 1, TP.out, by omega, hlt, rfl, o2, o3⟩
    have nd : ((c.toNat : Int) == 63) = false := (u8_ne h3).1
    have nd' : (c.toNat == 63) = false := (u8_ne h3).2
    by_cases h4 : c = 91
    · have TP : Hid (tokP ((dat s).drop k) = (setQ ((dat s).drop (k + 1))).map (fun x => (⟨false, x.1, x.2.1⟩, x.2.2))) := by unfold Hid; rw [TQ.out]; subst h4; simp [tokP]
      have ST := Lib.hid (set_any w2 gr s (k + 1) S2.out.rd.1 hlt hs)
      clear r1 hc2 na na' nb nb' nc nc' nd nd' h1 h1a h1b h2 h3 c20 c21 c22 f20 f21 f22
      subst h4
      go_wp2_with fail
      refine ST.out.mono ?_
      rintro e w5 (⟨q0, nt, A, m, cc, k', rfl, hk', hr⟩ | ⟨nt, l, A, cc, k', q0, hk1, hk', rfl, ho, hr⟩)
      · have TN : Hid (tokP ((dat s).drop k) = none) := by unfold Hid; rw [TP.out, q0]; rfl
        have S5 := S2.out.read hr
        obtain ⟨y0, y1, y2, hc3⟩ := S5.c2
        have c30 := blk_cell hc3 0; have c31 := blk_cell hc3 1; have c32 := blk_cell hc3 2
        simp at c30 c31 c32
        have f30 := fz_no hc3 0; have f31 := fz_no hc3 1; have f32 := fz_no hc3 2
        have OUT := Lib.hid (S5.out3 (.bool false) (.bool nt) (.slice A m cc) (own_nil w5 w.heap.size))
        clear q0 S5 hc3 hr ST
        go_wp2
        obtain ⟨o1, o2, o3⟩ := OUT.out
        refine bodyPost_ret (results_tk rfl _ _ w.heap.size _ _ _ rfl o1) rfl ?_
        exact .inl ⟨TN.out, false, nt, A, m, cc, k', rfl, hk', o3⟩
      · have TN : Hid (tokP ((dat s).drop k) = some (⟨false, nt, l⟩, (dat s).drop k')) := by unfold Hid; rw [TP.out, q0]; rfl
        have S5 := S2.out.read hr
        have O5 : OwnS w5 w.heap.size (.slice A l.length cc) l := own_low ho S2.out.rd.2.size
        obtain ⟨y0, y1, y2, hc3⟩ := S5.c2
        have c30 := blk_cell hc3 0; have c31 := blk_cell hc3 1; have c32 := blk_cell hc3 2
        simp at c30 c31 c32
        have f30 := fz_no hc3 0; have f31 := fz_no hc3 1; have f32 := fz_no hc3 2
        have OUT := Lib.hid (S5.out3 (.bool false) (.bool nt) (.slice A l.length cc) O5)
        have HK1 : Hid (k < k') := by unfold Hid; omega
        clear q0 S5 hc3 hr ST ho O5
        go_wp2
        obtain ⟨o1, o2, o3⟩ := OUT.out
        refine bodyPost_ret (results_tk rfl _ _ w.heap.size _ _ _ rfl o1) rfl ?_
        exact .inr ⟨⟨false, nt, l⟩, A, cc, k', TN.out, HK1.out, hk', rfl, o2, o3⟩
    have ne : ((c.toNat : Int) == 91) = false := (u8_ne h4).1
    have ne' : (c.toNat == 91) = false := (u8_ne h4).2
    by_cases h5 : c = 92
    · have TP : Hid (tokP ((dat s).drop k) = match (dat s).drop (k + 1) with | [] => none | d :: r' => some (⟨false, false, [(d, d)]⟩, r')) := by unfold Hid; rw [TQ.out]; subst h5; simp [tokP]
      have NX2 := Lib.hid (next_to w2 gr s (k + 1) S2.out.rd.1 hlt hs)
      clear r1 hc2 na na' nb nb' nc nc' nd nd' ne ne' h1 h1a h1b h2 h3 h4 c20 c21 c22 f20 f21 f22
      subst h5
      go_wp2_with fail
      refine NX2.out.mono ?_
      rintro e w3 (⟨q0, rfl, hr⟩ | ⟨d, q0, hlt2, rfl, hr⟩)
      · have TN : Hid (tokP ((dat s).drop k) = none) := by unfold Hid; rw [TP.out, q0]
        obtain ⟨W4, hW4⟩ : ∃ W, W = w3.alloc (.cells #[.int .u8 0, .int .u8 0] 86) := ⟨_, rfl⟩
        have S4 : TkW w W4 gr w.heap.size s (k + 1) := (S2.out.read hr).below (by rw [hW4]; exact (Below.refl _ w3).alloc (Nat.le_refl _) _)
        have OUT := Lib.hid (S4.out3 (.bool false) (.bool false) (.slice (some ⟨w3.heap.size, 0, none⟩) 1 1) (own_nil W4 w.heap.size))
        obtain ⟨y0, y1, y2, hc3⟩ := S4.c2
        have c30 := blk_cell hc3 0; have c31 := blk_cell hc3 1; have c32 := blk_cell hc3 2
        simp at c30 c31 c32
        have f30 := fz_no hc3 0; have f31 := fz_no hc3 1; have f32 := fz_no hc3 2
        rw [hW4] at c30 c31 c32 f30 f31 f32 OUT
        clear q0 S4 hc3 hr NX2 hW4
        go_wp2
        obtain ⟨o1, o2, o3⟩ := OUT.out
        refine bodyPost_ret (results_tk rfl _ _ w.heap.size _ _ _ rfl o1) rfl ?_
        exact .inl ⟨TN.out, false, false, _, 1, 1, k + 1, rfl, hlt, o3⟩
      · have TN : Hid (tokP ((dat s).drop k) = some (⟨false, false, [(d, d)]⟩, (dat s).drop (k + 1 + 1))) := by unfold Hid; rw [TP.out, q0]
        have S3 := S2.out.read hr
        obtain ⟨W4, hW4⟩ : ∃ W, W = w3.alloc (.cells #[.int .u8 (d.toNat : Int), .int .u8 (d.toNat : Int)] 86) := ⟨_, rfl⟩
        have S4 : TkW w W4 gr w.heap.size s (k + 1 + 1) := S3.below (by rw [hW4]; exact (Below.refl _ w3).alloc (Nat.le_refl _) _)
        have O4 : OwnS W4 w.heap.size (.slice (some ⟨w3.heap.size, 0, none⟩) 1 1) [(d, d)] := by rw [hW4]; exact own_lit1 S3.rd.2.size d d
        have OUT := Lib.hid (S4.out3 (.bool false) (.bool false) (.slice (some ⟨w3.heap.size, 0, none⟩) 1 1) O4)
        obtain ⟨y0, y1, y2, hc3⟩ := S4.c2
        have c30 := blk_cell hc3 0; have c31 := blk_cell hc3 1; have c32 := blk_cell hc3 2
        simp at c30 c31 c32
        have f30 := fz_no hc3 0; have f31 := fz_no hc3 1; have f32 := fz_no hc3 2
        rw [hW4] at c30 c31 c32 f30 f31 f32 OUT
        clear q0 S3 S4 O4 hc3 hr NX2 hW4
        go_wp2
        obtain ⟨o1, o2, o3⟩ := OUT.out
        refine bodyPost_ret (results_tk rfl _ _ w.heap.size _ _ _ rfl o1) rfl ?_
        exact .inr ⟨⟨false, false, [(d, d)]⟩, _, 1, k + 1 + 1, TN.out, by omega, hlt2, rfl, o2, o3⟩
    have nf : ((c.toNat : Int) == 92) = false := (u8_ne h5).1
    have nf' : (c.toNat == 92) = false := (u8_ne h5).2
    have TP : Hid (tokP ((dat s).drop k) = some (⟨false, false, [(c, c)]⟩, (dat s).drop (k + 1))) := by unfold Hid; rw [TQ.out]; simp [tokP, h1a, h1b, h2, h3, h4, h5]
    obtain ⟨W3, hW3⟩ : ∃ W, W = w2.alloc (.cells #[.int .u8 (c.toNat : Int), .int .u8 (c.toNat : Int)] 86) := ⟨_, rfl⟩
    have S3 : TkW w W3 gr w.heap.size s (k + 1) := S2.out.below (by rw [hW3]; exact (Below.refl _ w2).alloc (Nat.le_refl _) _)
    have O3 : OwnS W3 w.heap.size (.slice (some ⟨w2.heap.size, 0, none⟩) 1 1) [(c, c)] := by rw [hW3]; exact own_lit1 S2.out.rd.2.size c c
    have OUT := Lib.hid (S3.out3 (.bool false) (.bool false) (.slice (some ⟨w2.heap.size, 0, none⟩) 1 1) O3)
    obtain ⟨y0, y1, y2, hc3⟩ := S3.c2
    have c30 := blk_cell hc3 0; have c31 := blk_cell hc3 1; have c32 := blk_cell hc3 2
    simp at c30 c31 c32
    have f30 := fz_no hc3 0; have f31 := fz_no hc3 1; have f32 := fz_no hc3 2
    rw [hW3] at c30 c31 c32 f30 f31 f32 OUT
    clear r1 S2 hc2 h1 h1a h1b h2 h3 h4 h5 S3 O3 hc3 hW3
    go_wp2
    obtain ⟨o1, o2, o3⟩ := OUT.out
    refine bodyPost_ret (results_tk rfl _ _ w.heap.size _ _ _ rfl o1) rfl ?_
    exact .inr ⟨⟨false, false, [(c, c)]⟩, _, 1, k + 1, TP.out, by omega, hlt, rfl, o2, o3⟩
end Go.Proofs.YtmagidkgajmhoaaDoor
