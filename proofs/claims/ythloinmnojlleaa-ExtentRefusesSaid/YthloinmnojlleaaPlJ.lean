/- PlJ: the walk of the document's Change. -/
import Derived.Test.YthloinmnojlleaaPlI
set_option linter.unusedVariables false
set_option linter.unusedSimpArgs false
namespace Go.Proofs.Ythloinmnojlleaa
open Go.RowKit

theorem three_boxes (w : World) (a b c d x y : Value) (t u r : TypeId) : Hid ((((w.alloc (.cells #[a, b] t)).alloc (.cells #[c, d] u)).alloc (.cells #[x, y] r)).heap[w.heap.size]? = some (.cells #[a, b] t (0, 0)) ∧ (((w.alloc (.cells #[a, b] t)).alloc (.cells #[c, d] u)).alloc (.cells #[x, y] r)).heap[w.heap.size + 1]? = some (.cells #[c, d] u (0, 0)) ∧
    (((w.alloc (.cells #[a, b] t)).alloc (.cells #[c, d] u)).alloc (.cells #[x, y] r)).heap[w.heap.size + 1 + 1]? = some (.cells #[x, y] r (0, 0)) ∧ Below w.heap.size w (((w.alloc (.cells #[a, b] t)).alloc (.cells #[c, d] u)).alloc (.cells #[x, y] r)) ∧ (((w.alloc (.cells #[a, b] t)).alloc (.cells #[c, d] u)).alloc (.cells #[x, y] r)).heap.size = w.heap.size + 1 + 1 + 1) := by
  have h := two_boxes w a b c d t u
  have g2 := blk_new ((w.alloc (.cells #[a, b] t)).alloc (.cells #[c, d] u)) (.cells #[x, y] r)
  rw [World.size_alloc, World.size_alloc] at g2
  exact ⟨blk_alloc h.out.1 _, blk_alloc h.out.2.1 _, g2, h.out.2.2.alloc h.out.2.2.size _, by rw [World.size_alloc, World.size_alloc, World.size_alloc]⟩
/-- What the document's Change answers. -/
def ChgTo (w : World) (s : Value) (l : List Bool) (nx : Int) (f z : Int) (b : Bool) (e : Ending) (w' : World) : Prop :=
  (if chgE l f z b = 0 then ∃ s', e = .returned (.tuple #[.agg #[s', .int .i64 nx], .int .i64 0]) ∧ OwnL w' w.heap.size s' (setK b l f.toNat z.toNat) else e = .returned (.tuple #[.agg #[s, .int .i64 nx], .int .i64 (chgE l f z b)])) ∧ Below w.heap.size w w'
theorem rwithin_nat {n : Nat} {f z : Int} (h : rwithin n f z = true) : ∃ fn zn : Nat, f = fn ∧ z = zn ∧ 1 ≤ zn ∧ fn + zn ≤ n := by
  unfold rwithin at h
  simp only [Bool.and_eq_true, decide_eq_true_eq] at h
  obtain ⟨h1, h2, h3, h4⟩ := h
  obtain ⟨fn, rfl⟩ := Int.eq_ofNat_of_zero_le h1
  obtain ⟨zn, rfl⟩ := Int.eq_ofNat_of_zero_le (show 0 ≤ z by omega)
  exact ⟨fn, zn, rfl, rfl, by omega, by omega⟩
set_option maxHeartbeats 1600000 in
theorem rchange_any (w : World) (B : Nat) (s : Value) (l : List Bool) (nx : Int) (hs : OwnL w B s l) (hl : l.length ≤ 1048576) (hp : 0 < l.length) (f z : Int) (b : Bool) :
    Calls Try.prog 22 #[.agg #[s, .int .i64 nx], .agg #[.int .i64 f, .int .i64 z], .bool b] w fun e w' => ChgTo w s l nx f z b e w' := by
  have HS := Lib.hid hs
  obtain ⟨A, c, rfl⟩ := hs.slice
  have TB := three_boxes w (.slice A l.length c) (.int .i64 nx) (.int .i64 f) (.int .i64 z) (.slice none 0 0) (.int .i64 0) 46 30 46
  have k0 := blk_cell TB.out.1 0; have k1 := blk_cell TB.out.1 1; have k2 := blk_cell TB.out.2.1 0; have k3 := blk_cell TB.out.2.1 1
  simp only [List.getElem?_toArray, List.getElem?_cons_zero, List.getElem?_cons_succ] at k0 k1 k2 k3
  have WI := Lib.hid (rwithin_any (((w.alloc (.cells #[.slice A l.length c, .int .i64 nx] 46)).alloc (.cells #[.int .i64 f, .int .i64 z] 30)).alloc (.cells #[.slice none 0 0, .int .i64 0] 46)) B (.slice A l.length c) l nx (own_touch hs (Touch.of_below TB.out.2.2.2.1 : Touch (fun _ => False) w _) (fun _ _ x => x)) hl f z)
  obtain ⟨w3, hw3⟩ : ∃ w3, w3 = (((w.alloc (.cells #[.slice A l.length c, .int .i64 nx] 46)).alloc (.cells #[.int .i64 f, .int .i64 z] 30)).alloc (.cells #[.slice none 0 0, .int .i64 0] 46)) := ⟨_, rfl⟩
  clear hs
  go_enter Try.func22, Try.ntmps22
  go_wp2_with fail
  rw [← hw3] at TB WI k0 k1 k2 k3 ⊢
  clear hw3
  refine WI.out.mono ?_
  rintro e w4 ⟨rfl, b4⟩
  have B4 : Hid (Below w.heap.size w w4) := TB.out.2.2.2.1.trans (b4.mono TB.out.2.2.2.1.size)
  have hsz := TB.out.2.2.2.2
  have G0 : Hid (w4.heap[w.heap.size]? = some (.cells #[.slice A l.length c, .int .i64 nx] 46 (0, 0))) := (b4.block _ (by omega)).trans TB.out.1
  have G1 : Hid (w4.heap[w.heap.size + 1]? = some (.cells #[.int .i64 f, .int .i64 z] 30 (0, 0))) := (b4.block _ (by omega)).trans TB.out.2.1
  have G2 : Hid (w4.heap[w.heap.size + 1 + 1]? = some (.cells #[.slice none 0 0, .int .i64 0] 46 (0, 0))) := (b4.block _ (by omega)).trans TB.out.2.2.1
  obtain ⟨g0, hg0⟩ : ∃ g0, g0 = w.heap.size := ⟨_, rfl⟩
  obtain ⟨g1, hg1⟩ : ∃ g1, g1 = w.heap.size + 1 := ⟨_, rfl⟩
  obtain ⟨g2, hg2⟩ : ∃ g2, g2 = w.heap.size + 1 + 1 := ⟨_, rfl⟩
  clear k0 k1 k2 k3 b4 WI TB hsz
  rw [← hg2] at G2
  rw [← hg1] at G1
  rw [show w.heap.size = g0 from hg0.symm] at G0
  simp only [← hg2]
  simp only [← hg1]
  rw [show (Value.pointer (some { block := w.heap.size, off := 0 })) = Value.pointer (some { block := g0, off := 0 }) by rw [hg0]]
  have HG : Hid (g0 = w.heap.size ∧ g1 = w.heap.size + 1 ∧ g2 = w.heap.size + 2) := ⟨hg0, hg1, hg2⟩
  clear hg0 hg1 hg2
  have k0 := blk_cell G0.out 0; have k1 := blk_cell G0.out 1; have k2 := blk_cell G1.out 0; have k3 := blk_cell G1.out 1
  have j0 := blk_cell G2.out 0; have j1 := blk_cell G2.out 1; have f0 := blk_free G2.out 0; have f1 := blk_free G2.out 1
  simp only [List.getElem?_toArray, List.getElem?_cons_zero, List.getElem?_cons_succ] at k0 k1 k2 k3 j0 j1
  have hgB : w.heap.size ≤ g2 := by have := HG.out; omega
  cases hw : rwithin l.length f z with
  | false =>
    have E : Hid (chgE l f z b = 9) := by unfold Hid chgE; rw [if_pos hw]
    clear hw
    go_wp2
    refine bodyPost_ret (ret_ra2 rfl _ rfl (set2_blk G2.out)) rfl ?_
    refine ⟨?_, (B4.out.setCell (p := ⟨g2, 0, none⟩) hgB _).setCell (p := ⟨g2, 1, none⟩) hgB _⟩
    rw [E.out, if_neg (by decide)]
    rfl
  | true =>
    obtain ⟨fn, zn, rfl, rfl, hz1, hz2⟩ := rwithin_nat hw
    have HW := Lib.hid hw
    have AL := Lib.hid (rall_any w4 B (.slice A l.length c) l nx (own_touch HS.out (Touch.of_below B4.out : Touch (fun _ => False) w _) (fun _ _ x => x)) hl fn zn hz2 (!b))
    have HZ := Lib.hid hz2
    clear hw hz1 hz2
    go_wp2_with fail
    refine AL.out.mono ?_
    rintro e w5 ⟨rfl, b5⟩
    have B5 : Hid (Below w.heap.size w w5) := B4.out.trans (b5.mono B4.out.size)
    have G0' := Lib.hid ((b5.block _ (blk_lt G0.out)).trans G0.out); have G1' := Lib.hid ((b5.block _ (blk_lt G1.out)).trans G1.out); have G2' := Lib.hid ((b5.block _ (blk_lt G2.out)).trans G2.out)
    clear k0 k1 k2 k3 j0 j1 f0 f1 b5 AL
    have k0 := blk_cell G0'.out 0; have k1 := blk_cell G0'.out 1; have k2 := blk_cell G1'.out 0; have k3 := blk_cell G1'.out 1
    have j0 := blk_cell G2'.out 0; have j1 := blk_cell G2'.out 1; have f0 := blk_free G2'.out 0; have f1 := blk_free G2'.out 1
    simp only [List.getElem?_toArray, List.getElem?_cons_zero, List.getElem?_cons_succ] at k0 k1 k2 k3 j0 j1
    cases ha : allK (!b) l fn zn with
    | false =>
      have E : Hid (chgE l fn zn b = 8) := by unfold Hid; simp [chgE, HW.out, ha]
      clear ha
      go_wp2
      refine bodyPost_ret (ret_ra2 rfl _ rfl (set2_blk G2'.out)) rfl ?_
      refine ⟨?_, (B5.out.setCell (p := ⟨g2, 0, none⟩) hgB _).setCell (p := ⟨g2, 1, none⟩) hgB _⟩
      rw [E.out, if_neg (by decide)]
      rfl
    | true =>
      have E : Hid (chgE l fn zn b = 0) := by unfold Hid; simp [chgE, HW.out, ha]
      have ST := Lib.hid (rset_any w5 B (.slice A l.length c) l nx (own_touch HS.out (Touch.of_below B5.out : Touch (fun _ => False) w _) (fun _ _ x => x)) hl hp fn zn HZ.out b)
      clear ha
      go_wp2_with fail
      refine ST.out.mono ?_
      rintro e w6 ⟨s6, rfl, ho, b6⟩
      have B6 : Hid (Below w.heap.size w w6) := B5.out.trans (b6.mono B5.out.size)
      have G2'' := Lib.hid ((b6.block _ (blk_lt G2'.out)).trans G2'.out)
      obtain ⟨A6, c6, rfl⟩ := ho.slice
      have HO := Lib.hid (ho.base B5.out.size)
      clear k0 k1 k2 k3 j0 j1 f0 f1 b6 ST ho
      have j0 := blk_cell G2''.out 0; have j1 := blk_cell G2''.out 1; have f0 := blk_free G2''.out 0; have f1 := blk_free G2''.out 1
      simp only [List.getElem?_toArray, List.getElem?_cons_zero, List.getElem?_cons_succ] at j0 j1
      go_wp2
      refine bodyPost_ret (ret_ra2 rfl _ rfl (set2_blk G2''.out)) rfl ?_
      refine ⟨?_, (B6.out.setCell (p := ⟨g2, 0, none⟩) hgB _).setCell (p := ⟨g2, 1, none⟩) hgB _⟩
      rw [E.out, if_pos rfl]
      exact ⟨_, rfl, OwnL.set (p := 1) (OwnL.set (p := 0) HO.out G2''.out (by decide)) (blk_set G2''.out 0 _) (by decide)⟩
end Go.Proofs.Ythloinmnojlleaa
