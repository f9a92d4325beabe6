/- PlK: the walk of the document's Alloc. -/
import Derived.Test.YthloinmnojlleaaPlD
import Derived.Test.YthloinmnojlleaaPlJ
set_option linter.unusedVariables false
set_option linter.unusedSimpArgs false
namespace Go.Proofs.Ythloinmnojlleaa
open Go.RowKit

set_option maxHeartbeats 1600000 in
theorem ralloc_bad (w : World) (A : Option Addr) (k c : Nat) (nx : Int) (n r : Int) (h : n < 1 ∨ r < 0 ∨ 4 ≤ r) :
    Calls Try.prog 37 #[.agg #[.slice A k c, .int .i64 nx], .int .i64 n, .int .i64 r] w fun e w' => e = .returned (.tuple #[.agg #[.slice A k c, .int .i64 nx], .int .i64 0, .int .i64 1]) ∧ Below w.heap.size w w' := by
  have TB := two_boxes w (.slice A k c) (.int .i64 nx) (.slice none 0 0) (.int .i64 0) 46 46
  have k0 := blk_cell TB.out.1 0; have k1 := blk_cell TB.out.1 1; have j0 := blk_cell TB.out.2.1 0; have j1 := blk_cell TB.out.2.1 1; have f0 := blk_free TB.out.2.1 0; have f1 := blk_free TB.out.2.1 1
  simp only [List.getElem?_toArray, List.getElem?_cons_zero, List.getElem?_cons_succ] at k0 k1 j0 j1
  have hc : decide (n < 1) = true ∨ (decide (n < 1) = false ∧ decide (r < 0) = true) ∨ (decide (n < 1) = false ∧ decide (r < 0) = false ∧ decide (3 < r) = true) := by
    by_cases h1 : n < 1
    · exact .inl (by simpa using h1)
    · by_cases h2 : r < 0
      · exact .inr (.inl ⟨by simpa using h1, by simpa using h2⟩)
      · exact .inr (.inr ⟨by simpa using h1, by simpa using h2, by simp; omega⟩)
  clear h
  rcases hc with d1 | ⟨d1, d2⟩ | ⟨d1, d2, d3⟩
  all_goals
    go_enter Try.func37, Try.ntmps37
    go_wp2
    refine bodyPost_ret (ret_ra3 rfl _ rfl (by rw [show w.heap.size + 1 = (w.alloc (.cells #[.slice A k c, .int .i64 nx] 46)).heap.size from (World.size_alloc _ _).symm]; exact blk_new _ _)) rfl ?_
    exact ⟨rfl, ((Below.refl _ w).alloc (Nat.le_refl _) _).alloc (by simp) _⟩
/-- What the document's Alloc answers. -/
def RAllocTo (w : World) (s : Value) (l : List Bool) (nx : Nat) (H : List (Nat × Nat)) (m r : Nat) (e : Ending) (w' : World) : Prop :=
  (match choose H m (bet r nx) H.length with
    | none => e = .returned (.tuple #[.agg #[s, .int .i64 nx], .int .i64 0, .int .i64 5])
    | some j => ∃ s', e = .returned (.tuple #[.agg #[s', .int .i64 ((if r = 3 then (H.getD j (0, 0)).1 + m else nx : Nat) : Int)], .int .i64 ((H.getD j (0, 0)).1 : Nat), .int .i64 0]) ∧ OwnL w' w.heap.size s' (setK false l (H.getD j (0, 0)).1 m)) ∧ Below w.heap.size w w'
set_option maxHeartbeats 1600000 in
set_option maxRecDepth 100000 in
theorem ralloc_any (w : World) (B : Nat) (s : Value) (l : List Bool) (nx : Nat) (hs : OwnL w B s l) (hl : l.length ≤ 1048576) (hp : 0 < l.length) (H : List (Nat × Nat)) (hH : runsA true l = H) (hHL : Lies l.length 0 H) (few : H.length ≤ 1048577) (m r : Nat) (hm : 1 ≤ m) (hr : r < 4) (hmi : m ≤ 9223372036854775807) :
    Calls Try.prog 37 #[.agg #[s, .int .i64 nx], .int .i64 m, .int .i64 r] w fun e w' => RAllocTo w s l nx H m r e w' := by
  have HS := Lib.hid hs
  obtain ⟨A, c, rfl⟩ := hs.slice
  have TB := two_boxes w (.slice A l.length c) (.int .i64 (nx : Nat)) (.slice none 0 0) (.int .i64 0) 46 46
  obtain ⟨w2, hw2⟩ : ∃ w2, w2 = (w.alloc (.cells #[.slice A l.length c, .int .i64 (nx : Nat)] 46)).alloc (.cells #[.slice none 0 0, .int .i64 0] 46) := ⟨_, rfl⟩
  rw [← hw2] at TB
  have hsz2 : w2.heap.size = w.heap.size + 1 + 1 := by rw [hw2, World.size_alloc, World.size_alloc]
  have k0 := blk_cell TB.out.1 0; have k1 := blk_cell TB.out.1 1
  simp only [List.getElem?_toArray, List.getElem?_cons_zero, List.getElem?_cons_succ] at k0 k1
  have CH := Lib.hid (rchoose_any w2 B (.slice A l.length c) l nx (own_touch hs (Touch.of_below TB.out.2.2 : Touch (fun _ => False) w _) (fun _ _ x => x)) hl H hH few m r hr)
  have d1 : decide (m < 1) = false := by simp; omega
  have d1' : decide ((m : Int) < 1) = false := by simp; omega
  have d2 : decide ((r : Int) < 0) = false := by simp
  have d3 : decide ((3 : Int) < (r : Int)) = false := by simp; omega
  have d3' : decide (3 < r) = false := by simp; omega
  have HM := Lib.hid (And.intro hm (And.intro hr hHL))
  rw [hw2] at k0 k1
  have HW2 := Lib.hid hw2
  clear hs hm hr hHL hw2
  go_enter Try.func37, Try.ntmps37
  go_wp2_with fail
  rw [← HW2.out] at k0 k1 ⊢
  refine CH.out.mono ?_
  rintro e w3 ⟨rfl, b3⟩
  have B3 : Hid (Below w.heap.size w w3) := TB.out.2.2.trans (b3.mono TB.out.2.2.size)
  have G0 : Hid (w3.heap[w.heap.size]? = some (.cells #[.slice A l.length c, .int .i64 (nx : Nat)] 46 (0, 0))) := (b3.block _ (by omega)).trans TB.out.1
  have G1 : Hid (w3.heap[w.heap.size + 1]? = some (.cells #[.slice none 0 0, .int .i64 0] 46 (0, 0))) := (b3.block _ (by omega)).trans TB.out.2.1
  have hsz3 : w.heap.size + 1 + 1 ≤ w3.heap.size := by have := b3.size; omega
  obtain ⟨g0, hg0⟩ : ∃ g0, g0 = w.heap.size := ⟨_, rfl⟩
  obtain ⟨g1, hg1⟩ : ∃ g1, g1 = w.heap.size + 1 := ⟨_, rfl⟩
  clear k0 k1 b3 CH TB hsz2 HW2
  rw [← hg1] at G1
  rw [show w.heap.size = g0 from hg0.symm] at G0
  simp only [← hg1]
  rw [show (Value.pointer (some { block := w.heap.size, off := 0 })) = Value.pointer (some { block := g0, off := 0 }) by rw [hg0]]
  have HG : Hid (g0 = w.heap.size ∧ g1 = w.heap.size + 1 ∧ w.heap.size + 2 ≤ w3.heap.size) := ⟨hg0, hg1, hsz3⟩
  clear hg0 hg1 hsz3
  have k0 := blk_cell G0.out 0; have k1 := blk_cell G0.out 1
  have j0 := blk_cell G1.out 0; have j1 := blk_cell G1.out 1; have f0 := blk_free G1.out 0; have f1 := blk_free G1.out 1
  simp only [List.getElem?_toArray, List.getElem?_cons_zero, List.getElem?_cons_succ] at k0 k1 j0 j1
  have hgB : w.heap.size ≤ g1 := by have := HG.out; omega
  cases hc : choose H m (bet r nx) H.length with
  | none =>
    have e1 : choA H m r nx = -1 := by unfold choA; rw [hc]
    rw [e1]
    have HC := Lib.hid hc
    clear e1 hc
    go_wp2
    refine bodyPost_ret (ret_ra3 rfl _ rfl (set2_blk G1.out)) rfl ?_
    unfold RAllocTo
    rw [HC.out]
    exact ⟨rfl, (B3.out.setCell (p := ⟨g1, 0, none⟩) hgB _).setCell (p := ⟨g1, 1, none⟩) hgB _⟩
  | some j =>
    obtain ⟨hj, hy⟩ := choose_lt hc
    have e1 : choA H m r nx = ((H.getD j (0, 0)).1 : Int) := by unfold choA; rw [hc]
    have HC := Lib.hid hc
    have HF2 : Hid ((H.getD j (0, 0)).1 = H[j].1) := by unfold Hid; rw [getD_get hj]
    rw [e1]
    rw [getD_get hj] at hy ⊢
    have hin := lies_get HM.out.2.2 j hj
    obtain ⟨f, hf⟩ : ∃ f, f = H[j].1 := ⟨_, rfl⟩
    rw [← hf] at hin HF2 ⊢
    have hfm : f + m ≤ l.length := by omega
    have dj : decide ((f : Int) < 0) = false := by simp
    have ST := Lib.hid (rset_any w3 B (.slice A l.length c) l nx (own_touch HS.out (Touch.of_below B3.out : Touch (fun _ => False) w _) (fun _ _ x => x)) hl hp f m hfm false)
    obtain ⟨q, hq⟩ : ∃ q, q = f + m := ⟨_, rfl⟩
    have hq1 : (f : Int) + (m : Int) = (q : Int) := by omega
    have hq2 : IntKind.i64.wrap (q : Int) = (q : Int) := by rw [IntKind.wrap_i64]; omega
    have HQ := Lib.hid hq
    clear e1 hc hj hy hin hf hfm hq
    go_wp2_with fail
    refine ST.out.mono ?_
    rintro e w4 ⟨s4, rfl, ho, b4⟩
    obtain ⟨A4, c4, e4⟩ := ho.slice
    rw [setK_length] at e4
    subst e4
    have B4 : Hid (Below w.heap.size w w4) := B3.out.trans (b4.mono B3.out.size)
    have G1' := Lib.hid ((b4.block _ (blk_lt G1.out)).trans G1.out)
    have HO := Lib.hid (ho.base B3.out.size)
    have HG4 : Hid (g1 < w4.heap.size ∧ w.heap.size ≤ w4.heap.size) := ⟨blk_lt G1'.out, B4.out.size⟩
    clear b4 ST ho k0 k1 j0 j1 f0 f1
    obtain ⟨g2, hg2⟩ : ∃ g2, g2 = w4.heap.size := ⟨_, rfl⟩
    have GA : Hid ((w4.alloc (.cells #[.slice A4 l.length c4, .int .i64 (nx : Nat)] 46)).heap[g1]? = some (.cells #[.slice none 0 0, .int .i64 0] 46 (0, 0))) := blk_alloc G1'.out _
    have GB : Hid ((w4.alloc (.cells #[.slice A4 l.length c4, .int .i64 (nx : Nat)] 46)).heap[g2]? = some (.cells #[.slice A4 l.length c4, .int .i64 (nx : Nat)] 46 (0, 0))) := by rw [hg2]; exact blk_new w4 _
    have BA : Hid (Below w.heap.size w (w4.alloc (.cells #[.slice A4 l.length c4, .int .i64 (nx : Nat)] 46))) := B4.out.alloc B4.out.size _
    have OA : Hid (OwnL (w4.alloc (.cells #[.slice A4 l.length c4, .int .i64 (nx : Nat)] 46)) w.heap.size (.slice A4 l.length c4) (setK false l f m)) := HO.out.below ((Below.refl _ w4).alloc (Nat.le_refl _) _)
    have HG2 := Lib.hid hg2
    have k0 := blk_cell GB.out 0; have k1 := blk_cell GB.out 1; have f2 := blk_free GB.out 1
    have j0 := blk_cell GA.out 0; have j1 := blk_cell GA.out 1; have f0 := blk_free GA.out 0; have f1 := blk_free GA.out 1
    simp only [List.getElem?_toArray, List.getElem?_cons_zero, List.getElem?_cons_succ] at k0 k1 j0 j1
    rw [hg2] at k0 k1 f2
    have ne1 : g1 ≠ w4.heap.size := by have := HG4.out; omega
    have ne2 : w4.heap.size ≠ g1 := by have := HG4.out; omega
    clear hg2
    by_cases h3 : r = 3
    · subst h3
      have GC : Hid ((w4.alloc (.cells #[.slice A4 l.length c4, .int .i64 (q : Nat)] 46)).heap[g1]? = some (.cells #[.slice none 0 0, .int .i64 0] 46 (0, 0))) := blk_alloc G1'.out _
      have GD : Hid ((w4.alloc (.cells #[.slice A4 l.length c4, .int .i64 (q : Nat)] 46)).heap[w4.heap.size]? = some (.cells #[.slice A4 l.length c4, .int .i64 (q : Nat)] 46 (0, 0))) := blk_new w4 _
      have OC : Hid (OwnL (w4.alloc (.cells #[.slice A4 l.length c4, .int .i64 (q : Nat)] 46)) w.heap.size (.slice A4 l.length c4) (setK false l f m)) := HO.out.below ((Below.refl _ w4).alloc (Nat.le_refl _) _)
      have BC : Hid (Below w.heap.size w (w4.alloc (.cells #[.slice A4 l.length c4, .int .i64 (q : Nat)] 46))) := B4.out.alloc B4.out.size _
      have p0 := blk_cell GD.out 0; have p1 := blk_cell GD.out 1; have q0 := blk_cell GC.out 0; have q1 := blk_cell GC.out 1; have fq0 := blk_free GC.out 0; have fq1 := blk_free GC.out 1
      simp only [List.getElem?_toArray, List.getElem?_cons_zero, List.getElem?_cons_succ] at p0 p1 q0 q1
      go_wp2
      refine bodyPost_ret (ret_ra3 rfl _ rfl (set2_blk GC.out)) rfl ?_
      unfold RAllocTo
      rw [HC.out]
      simp only [HF2.out]
      refine ⟨⟨_, ?_, OwnL.set (p := 1) (OwnL.set (p := 0) OC.out GC.out (by decide)) (blk_set GC.out 0 _) (by decide)⟩, (BC.out.setCell (p := ⟨g1, 0, none⟩) hgB _).setCell (p := ⟨g1, 1, none⟩) hgB _⟩
      rw [HQ.out]
      rfl
    · have d4 : ((r : Int) == 3) = false := by simp; omega
      have d4' : (r == 3) = false := by simp; omega
      have H3 := Lib.hid h3
      clear h3
      go_wp2
      refine bodyPost_ret (ret_ra3 rfl _ rfl (set2_blk GA.out)) rfl ?_
      unfold RAllocTo
      rw [HC.out]
      simp only [HF2.out]
      refine ⟨⟨_, ?_, OwnL.set (p := 1) (OwnL.set (p := 0) OA.out GA.out (by decide)) (blk_set GA.out 0 _) (by decide)⟩, (BA.out.setCell (p := ⟨g1, 0, none⟩) hgB _).setCell (p := ⟨g1, 1, none⟩) hgB _⟩
      rw [if_neg H3.out]
      rfl
end Go.Proofs.Ythloinmnojlleaa
