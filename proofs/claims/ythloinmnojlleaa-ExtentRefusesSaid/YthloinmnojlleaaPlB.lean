/- PlB: the walks of the document's Within, All, Set. -/
import Derived.Test.YthloinmnojlleaaPlA
import Derived.Deep.Cut
import Derived.Deep.CutRange
import Derived.Deep.DeepCutAuto
set_option linter.unusedVariables false
set_option linter.unusedSimpArgs false
namespace Go.Proofs.Ythloinmnojlleaa
open Go.RowKit

/-- The document's word for an extent. -/
def rwithin (n : Nat) (f z : Int) : Bool := decide (0 ≤ f) && (decide (1 ≤ z) && (decide (f < n) && decide (z ≤ n - f)))
theorem rwithin_eq (a : Ar) (f z : Int) : a.within f z = rwithin a.size f z := by
  unfold Ar.within rwithin
  cases decide (1 ≤ z) <;> cases decide (0 ≤ f) <;> simp
/-- Two boxes laid one behind the other. -/
theorem two_boxes (w : World) (a b c d : Value) (t u : TypeId) : Hid (((w.alloc (.cells #[a, b] t)).alloc (.cells #[c, d] u)).heap[w.heap.size]? = some (.cells #[a, b] t (0, 0)) ∧ ((w.alloc (.cells #[a, b] t)).alloc (.cells #[c, d] u)).heap[w.heap.size + 1]? = some (.cells #[c, d] u (0, 0)) ∧ Below w.heap.size w ((w.alloc (.cells #[a, b] t)).alloc (.cells #[c, d] u))) := by
  have g1 := blk_new (w.alloc (.cells #[a, b] t)) (.cells #[c, d] u)
  rw [World.size_alloc] at g1
  exact ⟨blk_alloc (blk_new w _) _, g1, ((Below.refl _ w).alloc (Nat.le_refl _) _).alloc (by simp) _⟩
theorem rwithin_any (w : World) (B : Nat) (s : Value) (bits : List Bool) (nx : Int) (hs : OwnL w B s bits) (hl : bits.length ≤ 1048576) (f z : Int) :
    Calls Try.prog 24 #[.agg #[s, .int .i64 nx], .agg #[.int .i64 f, .int .i64 z]] w fun e w' => e = .returned (.bool (rwithin bits.length f z)) ∧ Below w.heap.size w w' := by
  obtain ⟨A, c, rfl⟩ := hs.slice
  have TB := two_boxes w (.slice A bits.length c) (.int .i64 nx) (.int .i64 f) (.int .i64 z) 46 30
  have k0 := blk_cell TB.out.1 0; have k1 := blk_cell TB.out.2.1 0; have k2 := blk_cell TB.out.2.1 1
  simp only [List.getElem?_toArray, List.getElem?_cons_zero, List.getElem?_cons_succ] at k0 k1 k2
  clear hs
  have hh : ∀ b : Bool, rwithin bits.length f z = b → Hid (rwithin bits.length f z = b) := fun _ x => x
  by_cases q1 : 0 ≤ f
  · by_cases q2 : 1 ≤ z
    · by_cases q3 : f < bits.length
      · have HV := hh (decide (z ≤ bits.length - f)) (by unfold rwithin; simp [q1, q2, q3])
        have d1 : decide (0 ≤ f) = true := by simpa using q1
        have d2 : decide (1 ≤ z) = true := by simpa using q2
        have d3 : decide (f < (bits.length : Int)) = true := by simpa using q3
        have hw : IntKind.i64.wrap ((bits.length : Int) - f) = bits.length - f := by rw [IntKind.wrap_i64]; omega
        clear hh
        go_enter Try.func24, Try.ntmps24
        go_wp2
        go_ret
        exact ⟨by rw [HV.out]; rfl, TB.out.2.2⟩
      · have HV := hh false (by unfold rwithin; simp [q1, q2, q3])
        have d1 : decide (0 ≤ f) = true := by simpa using q1
        have d2 : decide (1 ≤ z) = true := by simpa using q2
        have d3 : decide (f < (bits.length : Int)) = false := by simpa using q3
        clear hh
        go_enter Try.func24, Try.ntmps24
        go_wp2
        go_ret
        exact ⟨by rw [HV.out]; rfl, TB.out.2.2⟩
    · have HV := hh false (by unfold rwithin; simp [q1, q2])
      have d1 : decide (0 ≤ f) = true := by simpa using q1
      have d2 : decide (1 ≤ z) = false := by simpa using q2
      clear hh
      go_enter Try.func24, Try.ntmps24
      go_wp2
      go_ret
      exact ⟨by rw [HV.out]; rfl, TB.out.2.2⟩
  · have HV := hh false (by unfold rwithin; simp [q1])
    have d1 : decide (0 ≤ f) = false := by simpa using q1
    clear hh
    go_enter Try.func24, Try.ntmps24
    go_wp2
    go_ret
    exact ⟨by rw [HV.out]; rfl, TB.out.2.2⟩

/-- Are the z bits from f on all b? -/
def allK (b : Bool) (l : List Bool) (f : Nat) : Nat → Bool
  | 0 => true
  | k + 1 => allK b l f k && decide (l.getD (f + k) (!b) = b)
theorem allK_iff {b : Bool} {l : List Bool} {f : Nat} : ∀ {z : Nat}, allK b l f z = true ↔ ∀ i, f ≤ i → i < f + z → l.getD i (!b) = b
  | 0 => by
    constructor
    · intro _ i h1 h2; omega
    · intro _; rfl
  | z + 1 => by
    rw [allK, Bool.and_eq_true, allK_iff (z := z), decide_eq_true_eq]
    constructor
    · rintro ⟨h1, h2⟩ i h3 h4
      by_cases e : i = f + z
      · subst e; exact h2
      · exact h1 i h3 (by omega)
    · exact fun h => ⟨fun i h1 h2 => h i h1 (by omega), h (f + z) (by omega) (by omega)⟩
theorem allK_false {b : Bool} {l : List Bool} {f k : Nat} : ∀ {z : Nat}, k < z → l.getD (f + k) (!b) ≠ b → allK b l f z = false
  | z + 1, hk, h => by
    rw [allK]
    by_cases e : k = z
    · subst e
      rw [Bool.and_eq_false_iff]
      exact .inr (decide_eq_false h)
    · rw [allK_false (z := z) (by omega) h]
      rfl
set_option maxHeartbeats 800000 in
theorem rall_any (w : World) (B : Nat) (s : Value) (bits : List Bool) (nx : Int) (hs : OwnL w B s bits) (hl : bits.length ≤ 1048576) (f z : Nat) (hfz : f + z ≤ bits.length) (b : Bool) :
    Calls Try.prog 25 #[.agg #[s, .int .i64 nx], .agg #[.int .i64 f, .int .i64 z], .bool b] w fun e w' => e = .returned (.bool (allK b bits f z)) ∧ Below w.heap.size w w' := by
  have HS := Lib.hid hs
  obtain ⟨A, c, rfl⟩ := hs.slice
  have TB := two_boxes w (.slice A bits.length c) (.int .i64 nx) (.int .i64 (f : Nat)) (.int .i64 (z : Nat)) 46 30
  clear hs
  go_enter Try.func25, Try.ntmps25
  go_wp2_with fail
  go_loopw [7, 8] (fun ii i2 wr => ∃ k : Nat, k ≤ z ∧ ii = .int .i64 k ∧ Hid (allK b bits f k = true) ∧ Hid (((w.alloc (.cells #[.slice A bits.length c, .int .i64 nx] 46)).alloc (.cells #[.int .i64 (f : Nat), .int .i64 (z : Nat)] 30)) = wr)) (fun ii _ _ => z - (intOf ii).toNat)
  case atStart => exact ⟨0, Nat.zero_le _, rfl, rfl, rfl⟩
  case round =>
    obtain ⟨k, hk, rfl, HK, HW⟩ := hrel
    have TB2 := TB.out
    rw [HW.out] at TB2
    have TB := Lib.hid TB2
    clear TB2
    have k0 := blk_cell TB.out.1 0; have k1 := blk_cell TB.out.2.1 0; have k2 := blk_cell TB.out.2.1 1
    simp only [List.getElem?_toArray, List.getElem?_cons_zero, List.getElem?_cons_succ] at k0 k1 k2
    by_cases hlt : k < z
    · obtain ⟨g, cc, e1, _, _, _, hc⟩ := HS.out.at_ (by omega)
      injection e1 with e1 e2 e3
      subst e1
      obtain ⟨q, hq⟩ : ∃ q, q = f + k := ⟨_, rfl⟩
      have hq1 : (f : Int) + (k : Int) = (q : Int) := by omega
      have hq2 : IntKind.i64.wrap (q : Int) = (q : Int) := by rw [IntKind.wrap_i64]; omega
      have hql : q < bits.length := by omega
      have c0 := cell_below (w' := wr) (by have := TB.out.2.2; exact this) (hc q hql)
      have hx : bits.getD q (!b) = bits[q] := by simp [hql]
      generalize bits[q] = x at c0 hx
      have HX : Hid (bits.getD (f + k) (!b) = x) := by rw [← hq]; exact hx
      have HQ := Lib.hid hq
      clear hc e2 e3 hx hq
      by_cases hb : x = b
      · have HSN : Hid (allK b bits f (k + 1) = true) := by unfold Hid; rw [allK, HK.out, HX.out, hb]; simp
        subst hb
        go_wp2
        go_roundw
        case rel => exact ⟨k + 1, hlt, by go_num, HSN, HW⟩
        case measure => simp [intOf]; omega
      · have HSN : Hid (allK b bits f z = false) := allK_false hlt (by rw [HX.out]; exact hb)
        have db : (x == b) = false := by simpa using hb
        have HB := Lib.hid hb
        clear hb
        go_wp2
        go_ret
        exact ⟨by rw [HSN.out]; rfl, TB.out.2.2⟩
    · obtain rfl : k = z := by omega
      go_wp2
      go_ret
      exact ⟨by rw [HK.out]; rfl, TB.out.2.2⟩

/-- z bits from f on, set. -/
def setK (b : Bool) (l : List Bool) (f : Nat) : Nat → List Bool
  | 0 => l
  | k + 1 => (setK b l f k).set (f + k) b
theorem setK_length (b : Bool) (l : List Bool) (f : Nat) : ∀ k, (setK b l f k).length = l.length
  | 0 => rfl
  | k + 1 => by rw [setK, List.length_set, setK_length b l f k]
theorem setK_getD {b : Bool} {l : List Bool} {f : Nat} {d : Bool} : ∀ {k i : Nat}, i < l.length → (setK b l f k).getD i d = if f ≤ i ∧ i < f + k then b else l.getD i d
  | 0, i, hi => by rw [setK, if_neg (by omega)]
  | k + 1, i, hi => by
    have ih := setK_getD (b := b) (l := l) (f := f) (d := d) (k := k) hi
    have hlen := setK_length b l f k
    rw [setK]
    simp only [List.getD_eq_getElem?_getD] at ih ⊢
    rw [List.getElem?_set]
    by_cases e : f + k = i
    · rw [if_pos e, if_pos (by omega), if_pos (by omega)]
      rfl
    · rw [if_neg e, ih]
      by_cases h : f ≤ i ∧ i < f + k
      · rw [if_pos h, if_pos (by omega)]
      · rw [if_neg h, if_neg (by omega)]
set_option maxHeartbeats 1600000 in
theorem rset_any (w : World) (B : Nat) (s : Value) (bits : List Bool) (nx : Int) (hs : OwnL w B s bits) (hl : bits.length ≤ 1048576) (hp : 0 < bits.length) (f z : Nat) (hfz : f + z ≤ bits.length) (b : Bool) :
    Calls Try.prog 41 #[.agg #[s, .int .i64 nx], .agg #[.int .i64 f, .int .i64 z], .bool b] w fun e w' => ∃ s', e = .returned (.agg #[s', .int .i64 nx]) ∧ OwnL w' w.heap.size s' (setK b bits f z) ∧ Below w.heap.size w w' := by
  obtain ⟨A, c, rfl⟩ := hs.slice
  have TB := two_boxes w (.slice A bits.length c) (.int .i64 nx) (.int .i64 (f : Nat)) (.int .i64 (z : Nat)) 46 30
  obtain ⟨w2, hw2⟩ : ∃ w2, w2 = (w.alloc (.cells #[.slice A bits.length c, .int .i64 nx] 46)).alloc (.cells #[.int .i64 (f : Nat), .int .i64 (z : Nat)] 30) := ⟨_, rfl⟩
  rw [← hw2] at TB
  have hsz2 : w2.heap.size = w.heap.size + 2 := by rw [hw2, World.size_alloc, World.size_alloc]
  have TC := two_boxes w2 (.slice none 0 0) (.int .i64 0) (.slice none 0 0) (.int .i64 nx) 46 46
  obtain ⟨w4, hw4⟩ : ∃ w4, w4 = (w2.alloc (.cells #[.slice none 0 0, .int .i64 0] 46)).alloc (.cells #[.slice none 0 0, .int .i64 nx] 46) := ⟨_, rfl⟩
  rw [← hw4] at TC
  rw [hsz2] at TC
  have B4 : Hid (Below w.heap.size w w4) := TB.out.2.2.trans (TC.out.2.2.mono (by omega))
  have G0 : Hid (w4.heap[w.heap.size]? = some (.cells #[.slice A bits.length c, .int .i64 nx] 46 (0, 0))) := (TC.out.2.2.block _ (by omega)).trans TB.out.1
  have G1 : Hid (w4.heap[w.heap.size + 1]? = some (.cells #[.int .i64 (f : Nat), .int .i64 (z : Nat)] 30 (0, 0))) := (TC.out.2.2.block _ (by omega)).trans TB.out.2.1
  have G2 : Hid (w4.heap[w.heap.size + 2]? = some (.cells #[.slice none 0 0, .int .i64 0] 46 (0, 0))) := TC.out.1
  have G3 : Hid (w4.heap[w.heap.size + 2 + 1]? = some (.cells #[.slice none 0 0, .int .i64 nx] 46 (0, 0))) := TC.out.2.1
  have RD : Hid (RdL w4 (.slice A bits.length c) bits) := hs.rd.below B4.out
  have OL : Hid (OwnL w4 w.heap.size (.slice none 0 0) []) := World.ownsRow_nil _ _ _ _
  have k0 := blk_cell G0.out 0; have k1 := blk_cell G0.out 1; have k3 := blk_cell G3.out 0; have k4 := blk_cell G3.out 1
  have f3 := blk_free G3.out 0; have f4 := blk_free G3.out 1
  have HW4 : Hid (((((w.alloc (.cells #[.slice A bits.length c, .int .i64 nx] 46)).alloc (.cells #[.int .i64 (f : Nat), .int .i64 (z : Nat)] 30)).alloc (.cells #[.slice none 0 0, .int .i64 0] 46)).alloc (.cells #[.slice none 0 0, .int .i64 nx] 46)) = w4) := by unfold Hid; rw [hw4, hw2]
  simp only [List.getElem?_toArray, List.getElem?_cons_zero, List.getElem?_cons_succ] at k0 k1 k3 k4
  clear hs hw2 hw4 hsz2 TB TC
  go_enter Try.func41, Try.ntmps41
  go_upto_region 2 with fail
  rw [HW4.out]
  obtain ⟨g0, hg0⟩ : ∃ g0, g0 = w.heap.size := ⟨_, rfl⟩
  obtain ⟨g1, hg1⟩ : ∃ g1, g1 = w.heap.size + 1 := ⟨_, rfl⟩
  obtain ⟨g2, hg2⟩ : ∃ g2, g2 = w.heap.size + 1 + 1 := ⟨_, rfl⟩
  obtain ⟨g3, hg3⟩ : ∃ g3, g3 = w.heap.size + 1 + 1 + 1 := ⟨_, rfl⟩
  rw [show w.heap.size + 2 + 1 = g3 from hg3.symm] at G3 k3 k4 f3 f4
  rw [show w.heap.size + 2 = g2 from hg2.symm] at G2
  rw [← hg1] at G1
  rw [← hg0] at G0 k0 k1
  simp only [← hg3]
  simp only [← hg2]
  simp only [← hg1]
  rw [show (Value.pointer (some { block := w.heap.size, off := 0 })) = Value.pointer (some { block := g0, off := 0 }) by rw [hg0], show (Value.pointer (some { block := w.heap.size, off := 1 })) = Value.pointer (some { block := g0, off := 1 }) by rw [hg0]]
  have HG : Hid (g0 = w.heap.size ∧ g1 = w.heap.size + 1 ∧ g2 = w.heap.size + 2 ∧ g3 = w.heap.size + 3) := ⟨hg0, hg1, hg2, hg3⟩
  clear hg0 hg1 hg2 hg3 HW4
  go_wp2_with (at_builtin; refine wpList_append_bl rfl (.tmp 13) (.tmp 15) 44 rfl Try.underlying44 w.heap.size B4.out.size _ _ [] bits rfl rfl OL.out RD.out (by simp; omega) ?_)
  intro v5 w5 ho5 hg5
  obtain ⟨A5, c5, rfl⟩ := ho5.slice
  have B5 : Hid (Below w.heap.size w w5) := B4.out.grown hg5 B4.out.size (fun k e => by simp [Value.ownBlock] at e)
  have b1 := blk_grown hg5 G1.out (by simp [Value.ownBlock]); have b2 := blk_grown hg5 G2.out (by simp [Value.ownBlock]); have b3 := blk_grown hg5 G3.out (by simp [Value.ownBlock])
  have f3 := blk_free b3 0
  have k3 := blk_cell b3 0
  simp only [List.getElem?_toArray, List.getElem?_cons_zero] at k3
  have O6 : Hid (OwnL (w5.setCell ⟨g3, 0, none⟩ (.slice A5 bits.length c5)) w.heap.size (.slice A5 bits.length c5) bits) := OwnL.set (p := 0) ho5 b3 (by decide)
  have B6 : Hid (Below w.heap.size w (w5.setCell ⟨g3, 0, none⟩ (.slice A5 bits.length c5))) := B5.out.setCell (p := ⟨g3, 0, none⟩) (by have := HG.out; show w.heap.size ≤ g3; omega) _
  have b1' : Hid ((w5.setCell ⟨g3, 0, none⟩ (.slice A5 bits.length c5)).heap[g1]? = _) := (blk_set_ne (p := ⟨g3, 0, none⟩) (by have := HG.out; show g3 ≠ g1; omega) _).trans b1
  have b2' : Hid ((w5.setCell ⟨g3, 0, none⟩ (.slice A5 bits.length c5)).heap[g2]? = _) := (blk_set_ne (p := ⟨g3, 0, none⟩) (by have := HG.out; show g3 ≠ g2; omega) _).trans b2
  have b3' : Hid ((w5.setCell ⟨g3, 0, none⟩ (.slice A5 bits.length c5)).heap[g3]? = some (.cells #[.slice A5 bits.length c5, .int .i64 nx] 46 (0, 0))) := by unfold Hid; rw [blk_set b3 0 _]; rfl
  clear ho5 hg5 b1 b2 b3 k0 k1 k4 f4 G0 G1 G2 G3 B4 RD OL B5
  go_wp2_with fail
  clear k3 f3
  go_loopw [8, 18] (fun ii i2 wr => ∃ (k : Nat), k ≤ z ∧ ii = .int .i64 k ∧ Hid (wr.heap[g1]? = some (.cells #[.int .i64 (f : Nat), .int .i64 (z : Nat)] 30 (0, 0))) ∧ Hid (wr.heap[g2]? = some (.cells #[.slice none 0 0, .int .i64 0] 46 (0, 0))) ∧ Hid (wr.heap[g3]? = some (.cells #[.slice A5 bits.length c5, .int .i64 nx] 46 (0, 0))) ∧ Hid (OwnL wr w.heap.size (.slice A5 bits.length c5) (setK b bits f k)) ∧ Hid (Below w.heap.size w wr)) (fun ii _ _ => z - (intOf ii).toNat)
  case atStart => exact ⟨0, Nat.zero_le _, rfl, b1', b2', b3', O6, B6⟩
  case round =>
    obtain ⟨k, hk, rfl, G1, G2, G3, OS, BW⟩ := hrel
    clear b1' b2' b3' O6 B6
    have k0 := blk_cell G3.out 0; have k4 := blk_cell G3.out 1; have k1 := blk_cell G1.out 0; have k2 := blk_cell G1.out 1
    have j0 := blk_cell G2.out 0; have j1 := blk_cell G2.out 1; have f0 := blk_free G2.out 0; have f1 := blk_free G2.out 1
    simp only [List.getElem?_toArray, List.getElem?_cons_zero, List.getElem?_cons_succ] at k0 k1 k2 k4 j0 j1
    by_cases hlt : k < z
    · have hlen := setK_length b bits f k
      obtain ⟨g, cc, e1, _, hgB, hgs, hc⟩ := OS.out.at_ (by omega)
      rw [hlen] at e1
      injection e1 with e1 e2 e3
      subst e1 e3
      obtain ⟨q, hq⟩ : ∃ q, q = f + k := ⟨_, rfl⟩
      have hq1 : (f : Int) + (k : Int) = (q : Int) := by omega
      have hq2 : IntKind.i64.wrap (q : Int) = (q : Int) := by rw [IntKind.wrap_i64]; omega
      have hql : q < bits.length := by omega
      have c0 := hc q (by omega)
      have fz := World.ownsRow.frozenAt (g := g) (by have := OS.out; unfold OwnL at this; rw [hlen] at this; exact this) q
      have hn3 := own_ne_blk OS.out G3.out (by decide); have hn2 := own_ne_blk OS.out G2.out (by decide); have hn1 := own_ne_blk OS.out G1.out (by decide)
      have ST : Hid (OwnL (wr.setCell ⟨g, q, none⟩ (.bool b)) w.heap.size (.slice (some ⟨g, 0, none⟩) bits.length c5) (setK b bits f (k + 1))) := by
        have := (World.ownsRow.stored (g := g) (by have := OS.out; unfold OwnL at this; rw [hlen] at this; exact this) q (.bool b)).1
        unfold Hid OwnL
        rw [setK, List.length_set, hlen, ← hq]
        unfold bls at this ⊢
        rw [List.map_set]
        exact this
      have BS : Hid (Below w.heap.size w (wr.setCell ⟨g, q, none⟩ (.bool b))) := BW.out.setCell (p := ⟨g, q, none⟩) hgB _
      have m1 : Hid ((wr.setCell ⟨g, q, none⟩ (.bool b)).heap[g1]? = _) := (blk_set_ne (p := ⟨g, q, none⟩) (fun e => hn1 (by simp [Value.ownBlock]; exact e)) _).trans G1.out
      have m2 : Hid ((wr.setCell ⟨g, q, none⟩ (.bool b)).heap[g2]? = _) := (blk_set_ne (p := ⟨g, q, none⟩) (fun e => hn2 (by simp [Value.ownBlock]; exact e)) _).trans G2.out
      have m3 : Hid ((wr.setCell ⟨g, q, none⟩ (.bool b)).heap[g3]? = _) := (blk_set_ne (p := ⟨g, q, none⟩) (fun e => hn3 (by simp [Value.ownBlock]; exact e)) _).trans G3.out
      generalize (setK b bits f k)[q]'(by omega) = x at c0
      clear hc e2 hq hn1 hn2 hn3 OS BW
      go_wp2
      go_roundw
      case rel => exact ⟨k + 1, hlt, by go_num, m1, m2, m3, ST, BS⟩
      case measure => simp [intOf]; omega
    · obtain rfl : k = z := by omega
      go_wp2
      refine bodyPost_ret (ret_ra1 rfl _ rfl (set2_blk G2.out)) rfl ?_
      refine ⟨_, rfl, ?_, (BW.out.setCell (p := ⟨g2, 0, none⟩) (by have := HG.out; show w.heap.size ≤ g2; omega) _).setCell (p := ⟨g2, 1, none⟩) (by have := HG.out; show w.heap.size ≤ g2; omega) _⟩
      exact OwnL.set (p := 1) (OwnL.set (p := 0) OS.out G2.out (by decide)) (blk_set G2.out 0 _) (by decide)
end Go.Proofs.Ythloinmnojlleaa
