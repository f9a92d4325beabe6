/- PathM: the walks of the document's Good, Place, Parts, Covers, Meet. -/
import Derived.Test.YtmagidkgajmhoaaDoorPathL
import Derived.Test.YtmagidkgajmhoaaDoorReg
set_option linter.unusedVariables false
set_option linter.unusedSimpArgs false
namespace Go.Proofs.YtmagidkgajmhoaaDoor
open Go.RowKit

set_option maxHeartbeats 1600000 in
set_option maxRecDepth 100000 in
theorem refgood_any (s : ByteArray) (w : World) :
    Calls Tryd.prog 7 #[.string s] w fun e w' => e = .returned (.bool (goodB (dat s))) ∧ Below w.heap.size w w' := by
  by_cases h1 : s.size ≤ 32
  · have q2 : decide (32 < (s.size : Int)) = false := by simp; omega
    have SZ := Lib.hid h1
    clear h1
    go_enter Tryd.func7, Tryd.ntmps7
    go_wp2_with fail
    refine (refcut_any s w (by have := SZ.out; omega)).mono ?_
    rintro e w1 ⟨g, c, ps, rfl, hb, hr, hg, hpc, b1⟩
    have hps : ps.length ≤ 33 := by have := bytes_len hb; have := SZ.out; omega
    have HR := Lib.hid hr; have HG := Lib.hid (good_bytes s ps hb); have B1 := Lib.hid b1
    clear hr hb b1 hg
    go_wp2_with fail
    go_loopw [4, 10] (fun i i2 wr => ∃ k : Nat, k ≤ ps.length ∧ i = .int .i64 k ∧ wr = w1 ∧ Hid (∀ j (hj : j < ps.length), j < k → nameB ps[j].data.toList = true)) (fun i _ _ => ps.length - (intOf i).toNat)
    case atStart => exact ⟨0, Nat.zero_le _, rfl, rfl, fun j hj h => by omega⟩
    case round =>
      obtain ⟨k, hk, rfl, rfl, hall⟩ := hrel
      by_cases hlt : k < ps.length
      · have c0 := HR.out k hlt
        have HA : Hid (∀ j (hj : j < ps.length), j < k + 1 → nameB ps[k].data.toList = true → nameB ps[j].data.toList = true) := fun j hj h hn => by
          by_cases e : j = k
          · subst e; exact hn
          · exact hall.out j hj (by omega)
        have HK : Hid (goodB s.data.toList = true → nameB ps[k].data.toList = true) := fun h => (HG.out.1 h).2 k hlt
        generalize ps[k] = x at c0 HA HK
        go_wp2_with fail
        refine (refname_any x _).mono ?_
        rintro e w2 ⟨rfl, rfl⟩
        clear c0
        cases hn : nameB x.data.toList with
        | true =>
          have HN := Lib.hid hn
          clear hn
          go_wp2
          go_roundw
          case rel => exact ⟨k + 1, hlt, by go_num, trivial, fun j hj h => HA.out j hj h HN.out⟩
          case measure => simp [intOf]; omega
        | false =>
          have hf : Hid (goodB (dat s) = false) := by
            unfold Hid
            cases hg : goodB (dat s) with
            | false => rfl
            | true => rw [HK.out hg] at hn; cases hn
          clear hn
          go_wp2
          go_ret
          exact ⟨by rw [hf.out]; rfl, B1.out⟩
      · have ht : Hid (goodB (dat s) = true) := HG.out.2 ⟨SZ.out, fun j hj => hall.out j hj (by omega)⟩
        go_wp2
        go_ret
        exact ⟨by rw [ht.out]; rfl, B1.out⟩
  · have HF : Hid (goodB (dat s) = false) := by
      unfold Hid
      cases hg : goodB (dat s) with
      | false => rfl
      | true => exact (h1 (good_size hg)).elim
    have q2 : decide (32 < (s.size : Int)) = true := by simp; omega
    clear h1
    go_enter Tryd.func7, Tryd.ntmps7
    go_wp2
    go_ret
    exact ⟨by rw [HF.out]; rfl, Below.refl _ _⟩

set_option maxRecDepth 100000 in
theorem refplace_any (s : ByteArray) (w : World) :
    Calls Tryd.prog 27 #[.string s] w fun e w' => e = .returned (.bool (placeB (dat s))) ∧ Below w.heap.size w w' := by
  cases h : (s.toList == []) with
  | true =>
    have hp : Hid (placeB s.data.toList = true) := by unfold Hid placeB; rw [← empty_iff, h]; rfl
    go_enter Tryd.func27, Tryd.ntmps27
    go_wp2_with fail
    go_ret
    exact ⟨by rw [hp.out]; rfl, Below.refl _ _⟩
  | false =>
    have hp : Hid (placeB s.data.toList = goodB s.data.toList) := by unfold Hid placeB; rw [← empty_iff, h]; rfl
    go_enter Tryd.func27, Tryd.ntmps27
    go_wp2_with fail
    refine (refgood_any s w).mono ?_
    rintro e w1 ⟨rfl, b1⟩
    have B1 := Lib.hid b1
    clear b1
    go_wp2
    go_ret
    exact ⟨by rw [hp.out]; rfl, B1.out⟩

set_option maxRecDepth 100000 in
theorem refparts_any (s : ByteArray) (w : World) :
    Calls Tryd.prog 28 #[.string s] w fun e w' => ∃ A c ps, e = .returned (.slice A ps.length c) ∧ bytes ps = partsB (dat s) ∧ ps.length ≤ c ∧ ps.length ≤ 33 ∧ (0 < ps.length → ∃ g, A = some ⟨g, 0, none⟩ ∧ Row w' g ps ∧ w.heap.size ≤ g) ∧ Below w.heap.size w w' := by
  go_enter Tryd.func28, Tryd.ntmps28
  go_wp2_with fail
  refine (refgood_any s w).mono ?_
  rintro e w1 ⟨rfl, b1⟩
  have B1 := Lib.hid b1
  clear b1
  cases hg : goodB (dat s) with
  | true =>
    have HG := Lib.hid hg
    have hsz : Hid (s.size ≤ 32) := good_size hg
    clear hg
    go_wp2_with fail
    refine (refcut_any s w1 (by have := hsz.out; omega)).mono ?_
    rintro e w2 ⟨g, c, ps, rfl, hb, hr, hgg, hpc, b2⟩
    have HR := Lib.hid hr; have HB := Lib.hid hb; have B2 := Lib.hid b2; have HGG := Lib.hid hgg
    clear hr hb b2 hgg
    go_wp2
    go_ret
    refine ⟨_, _, ps, rfl, by rw [HB.out]; unfold partsB; rw [if_pos HG.out], hpc, ?_, fun _ => ⟨g, rfl, HR.out, Nat.le_trans B1.out.size HGG.out⟩, B1.out.trans (B2.out.mono B1.out.size)⟩
    have := bytes_len HB.out
    have := hsz.out
    omega
  | false =>
    have HG := Lib.hid hg
    clear hg
    go_wp2
    go_ret
    exact ⟨none, 0, [], rfl, by unfold partsB; rw [HG.out]; rfl, Nat.le_refl _, by decide, fun h => by simp at h, B1.out⟩
end Go.Proofs.YtmagidkgajmhoaaDoor
