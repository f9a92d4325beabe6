/- The walk of PathCounts (written by gen_path.py). -/
import Derived.Test.YtgagiafbhpipoaaDoorPathG
set_option linter.unusedVariables false
set_option linter.unusedSimpArgs false
namespace Go.Proofs.YtgagiafbhpipoaaDoor
open Go.RowKit

set_option maxHeartbeats 3200000 in
theorem pathCounts_walk (w : World) (p : ByteArray) (_hp : p.size ≤ 140737488351232) :
    Calls Tryd.prog 9 #[.string p] w fun e w' => e = .returned (.bool true) ∧ Below w.heap.size w w' := by
  have B0 : Hid (Below w.heap.size w (w.alloc (.cells #[.string p] 9))) := (Below.refl _ w).alloc (Nat.le_refl _) _
  go_enter Tryd.func9, Tryd.ntmps9
  go_wp2_with fail
  refine (short_any _ _ _ (rds1 _ p) (by simp)).mono ?_
  rintro e w0 ⟨b0, rfl, _, rfl⟩
  cases b0 with
  | false =>
    go_wp2_with fail
    refine (lives5 _).mono ?_
    rintro e w1 ⟨rfl, b1⟩
    have B1 : Hid (Below w.heap.size w w1) := B0.out.trans (b1.mono B0.out.size)
    clear b1
    go_wp2
    go_ret
    exact ⟨rfl, B1.out⟩
  | true =>
    go_wp2_with fail
    refine (good_any _ _).mono ?_
    rintro e w2 ⟨rfl, b2⟩
    have B2 : Hid (Below w.heap.size w w2) := B0.out.trans (b2.mono B0.out.size)
    clear b2
    cases h1 : goodB (dat p) with
    | false =>
      have H1 := Lib.hid h1
      clear h1
      go_wp2_with fail
      refine (lives5 _).mono ?_
      rintro e w3 ⟨rfl, b3⟩
      have B3 : Hid (Below w.heap.size w w3) := B2.out.trans (b3.mono B2.out.size)
      clear b3
      go_wp2
      go_ret
      exact ⟨rfl, B3.out⟩
    | true =>
      have H1 := Lib.hid h1
      clear h1
      have GP := H1.out
      have NP : (cut (dat p)).length ≤ 16 := good_few GP
      go_wp2_with fail
      go_loopw [3, 4] (fun n qv wr => ∃ (k : Nat) (q : ByteArray), k ≤ (cut (dat p)).length ∧ n = .int .i64 k ∧ qv = .string q ∧ Hid (dat q = upB (dat p) k) ∧ Hid (Below w.heap.size w wr)) (fun n _ _ => (cut (dat p)).length + 1 - (intOf n).toNat)
      case atStart => exact ⟨0, p, Nat.zero_le _, rfl, rfl, by unfold Hid; rw [up_zero], B2⟩
      case round =>
        obtain ⟨k, q, hk, rfl, rfl, hq, hb⟩ := hrel
        have H2 : Hid (coversB (dat q) (dat p) = true) := by unfold Hid; rw [hq.out]; exact up_covers GP hk
        go_wp2_with fail
        refine (covers_any _ _ _).mono ?_
        rintro e w4 ⟨rfl, b4⟩
        have B4 : Hid (Below w.heap.size w w4) := hb.out.trans (b4.mono hb.out.size)
        clear b4
        rw [show coversB (dat q) (dat p) = true from H2.out]
        have h40 : decide (40 < (k : Int)) = false := by simp; omega
        by_cases he : k < (cut (dat p)).length
        · have hne : (q.toList == []) = false := by
            rw [Lib.toList_data]
            have := up_ne GP he
            rw [← hq.out] at this
            simpa using this
          go_wp2_with fail
          refine (above_any _ _).mono ?_
          rintro e w5 ⟨q2, rfl, hq2, b5⟩
          have B5 : Hid (Below w.heap.size w w5) := B4.out.trans (b5.mono B4.out.size)
          clear b5
          have hq3 : Hid (dat q2 = upB (dat p) (k + 1)) := by unfold Hid; rw [hq2, hq.out, up_next GP he]
          clear hq2
          go_wp2
          go_roundw
          case rel => exact ⟨k + 1, q2, he, by go_num, rfl, hq3, B5⟩
          case measure => simp [intOf]; omega
        · have hk2 : k = (cut (dat p)).length := by omega
          have hqe : dat q = [] := by rw [hq.out, hk2, up_end]
          have hqq := eq_of_dat hqe
          subst hqq
          clear hqe he
          go_wp2_with fail
          refine (parts_any _ _).mono ?_
          rintro e w6 ⟨A1, c1, ps, rfl, hps, _, _, _, b6⟩
          have B6 : Hid (Below w.heap.size w w6) := B4.out.trans (b6.mono B4.out.size)
          clear b6
          have lp : ps.length = k := by
            have := congrArg List.length hps
            unfold partsB at this
            rw [if_pos GP] at this
            rw [hk2]
            simpa [bytes] using this
          clear hps
          rw [lp]
          clear lp
          go_wp2_with fail
          refine (lives5 _).mono ?_
          rintro e w7 ⟨rfl, b7⟩
          have B7 : Hid (Below w.heap.size w w7) := B6.out.trans (b7.mono B6.out.size)
          clear b7
          go_wp2
          go_ret
          exact ⟨rfl, B7.out⟩
end Go.Proofs.YtgagiafbhpipoaaDoor
