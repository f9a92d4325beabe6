/- The walk of PathBack (written by gen_path.py). -/
import Derived.Test.YtgagiafbhpipoaaDoorPathG
set_option linter.unusedVariables false
set_option linter.unusedSimpArgs false
namespace Go.Proofs.YtgagiafbhpipoaaDoor
open Go.RowKit

theorem moved_ne {p a t q : Bs} {e : Int} (h : movedB p a t = (q, e)) (he : ¬ e = 0) : q = [] := by
  unfold movedB at h
  split at h
  · split at h
    · cases h; exact (he rfl).elim
    · cases h; rfl
  · cases h; rfl

set_option maxHeartbeats 3200000 in
theorem pathBack_walk (w : World) (p : ByteArray) (_hp : p.size ≤ 140737488351232) (a : ByteArray) (_ha : a.size ≤ 140737488351232) (t : ByteArray) (_ht : t.size ≤ 140737488351232) :
    Calls Tryd.prog 6 #[.string p, .string a, .string t] w fun e w' => e = .returned (.bool true) ∧ Below w.heap.size w w' := by
  have B0 : Hid (Below w.heap.size w (w.alloc (.cells #[.string p, .string a, .string t] 9))) := (Below.refl _ w).alloc (Nat.le_refl _) _
  go_enter Tryd.func6, Tryd.ntmps6
  go_wp2_with fail
  refine (short_any _ _ _ (rds3 _ p a t) (by simp)).mono ?_
  rintro e w0 ⟨b0, rfl, _, rfl⟩
  cases b0 with
  | false =>
    go_wp2_with fail
    refine (lives5 _).mono ?_
    rintro e w1 ⟨rfl, b1⟩
    have B1 : Hid (Below w.heap.size w w1) := B0.out.trans (b1.mono B0.out.size)
    clear b1
    go_wp2
    go_ret
    exact ⟨rfl, B1.out⟩
  | true =>
    go_wp2_with fail
    refine (moved_any _ _ _ _).mono ?_
    rintro e w2 ⟨q, rfl, hq, b2⟩
    have B2 : Hid (Below w.heap.size w w2) := B0.out.trans (b2.mono B0.out.size)
    clear b2
    obtain ⟨e, he⟩ : ∃ e, e = (movedB (dat p) (dat a) (dat t)).2 := ⟨_, rfl⟩
    rw [← he]
    have hM : movedB (dat p) (dat a) (dat t) = (dat q, e) := by rw [hq, he]
    clear he hq
    have HM := Lib.hid hM
    clear hM
    by_cases hz : e = 0
    · subst hz
      have MB := Lib.hid (moved_back HM.out)
      have L : Hid (goodB (dat p) = true ∧ goodB (dat a) = true ∧ goodB (dat t) = true) := by
        obtain ⟨x, y, z, _⟩ := (moved_zero HM.out).1 rfl
        exact ⟨x, y, z⟩
      go_wp2_with fail
      refine (moved_any _ _ _ _).mono ?_
      rintro e w3 ⟨r, rfl, hr, b3⟩
      have B3 : Hid (Below w.heap.size w w3) := B2.out.trans (b3.mono B2.out.size)
      clear b3
      rw [MB.out.1] at hr ⊢
      have hr := dat_inj hr
      subst hr
      have H1 : Hid (coversB (dat t) (dat q) = true) := MB.out.2.1
      have H2 : Hid (goodB (dat q) = true) := MB.out.2.2.1
      go_wp2_with fail
      refine (covers_any _ _ _).mono ?_
      rintro e w4 ⟨rfl, b4⟩
      have B4 : Hid (Below w.heap.size w w4) := B3.out.trans (b4.mono B3.out.size)
      clear b4
      rw [show coversB (dat t) (dat q) = true from H1.out]
      go_wp2_with fail
      refine (good_any _ _).mono ?_
      rintro e w5 ⟨rfl, b5⟩
      have B5 : Hid (Below w.heap.size w w5) := B4.out.trans (b5.mono B4.out.size)
      clear b5
      rw [show goodB (dat q) = true from H2.out]
      go_wp2_with fail
      refine (parts_any _ _).mono ?_
      rintro e w6 ⟨Apq, cpq, pq, rfl, hpq, _, _, _, b6⟩
      have B6 : Hid (Below w.heap.size w w6) := B5.out.trans (b6.mono B5.out.size)
      clear b6
      have lpq : Hid (pq.length = (cut (dat q)).length) := by
        unfold Hid
        have := congrArg List.length hpq
        unfold partsB at this
        rw [if_pos MB.out.2.2.1] at this
        simpa [bytes] using this
      clear hpq
      go_wp2_with fail
      refine (parts_any _ _).mono ?_
      rintro e w7 ⟨Apt, cpt, pt, rfl, hpt, _, _, _, b7⟩
      have B7 : Hid (Below w.heap.size w w7) := B6.out.trans (b7.mono B6.out.size)
      clear b7
      have lpt : Hid (pt.length = (cut (dat t)).length) := by
        unfold Hid
        have := congrArg List.length hpt
        unfold partsB at this
        rw [if_pos L.out.2.2] at this
        simpa [bytes] using this
      clear hpt
      go_wp2_with fail
      refine (parts_any _ _).mono ?_
      rintro e w8 ⟨App, cpp, pp, rfl, hpp, _, _, _, b8⟩
      have B8 : Hid (Below w.heap.size w w8) := B7.out.trans (b8.mono B7.out.size)
      clear b8
      have lpp : Hid (pp.length = (cut (dat r)).length) := by
        unfold Hid
        have := congrArg List.length hpp
        unfold partsB at this
        rw [if_pos L.out.1] at this
        simpa [bytes] using this
      clear hpp
      go_wp2_with fail
      refine (parts_any _ _).mono ?_
      rintro e w9 ⟨Apa, cpa, pa, rfl, hpa, _, _, _, b9⟩
      have B9 : Hid (Below w.heap.size w w9) := B8.out.trans (b9.mono B8.out.size)
      clear b9
      have lpa : Hid (pa.length = (cut (dat a)).length) := by
        unfold Hid
        have := congrArg List.length hpa
        unfold partsB at this
        rw [if_pos L.out.2.1] at this
        simpa [bytes] using this
      clear hpa
      have el : (pq.length : Int) - pt.length = (pp.length : Int) - pa.length := by
        have h0 := MB.out.2.2.2
        rw [lpq.out, lpt.out, lpp.out, lpa.out]
        omega
      go_wp2_with fail
      refine (lives5 _).mono ?_
      rintro e w10 ⟨rfl, b10⟩
      have B10 : Hid (Below w.heap.size w w10) := B9.out.trans (b10.mono B9.out.size)
      clear b10
      go_wp2
      go_ret
      exact ⟨rfl, B10.out⟩
    · have hqe : dat q = [] := moved_ne HM.out hz
      have hq := eq_of_dat hqe
      subst hq
      clear hqe
      go_wp2_with fail
      refine (lives5 _).mono ?_
      rintro e w11 ⟨rfl, b11⟩
      have B11 : Hid (Below w.heap.size w w11) := B2.out.trans (b11.mono B2.out.size)
      clear b11
      go_wp2
      go_ret
      exact ⟨rfl, B11.out⟩
end Go.Proofs.YtgagiafbhpipoaaDoor
