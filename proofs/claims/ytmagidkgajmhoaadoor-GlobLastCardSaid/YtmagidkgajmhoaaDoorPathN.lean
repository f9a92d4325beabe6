/- PathN: the walks of the document's Covers, Meet, Same. -/
import Derived.Test.YtmagidkgajmhoaaDoorPathM
set_option linter.unusedVariables false
set_option linter.unusedSimpArgs false
namespace Go.Proofs.YtmagidkgajmhoaaDoor
open Go.RowKit

theorem pre_get (l m : List ByteArray) (h : l.length ≤ m.length) : bytes l <+: bytes m ↔ ∀ j (hj : j < l.length), dat l[j] = dat (m[j]'(by omega)) := by
  unfold bytes
  constructor
  · intro hp j hj
    have := List.prefix_iff_getElem?.1 hp j (by simpa using hj)
    simp [List.getElem?_eq_getElem hj, List.getElem?_eq_getElem (show j < m.length by omega)] at this
    unfold dat; rw [this]
  · intro hh
    refine List.prefix_iff_getElem?.2 fun j hj => ?_
    have hj' : j < l.length := by simpa using hj
    simp [List.getElem?_eq_getElem hj', List.getElem?_eq_getElem (show j < m.length by omega)]
    have := hh j hj'
    unfold dat at this
    exact (Array.toList_inj.1 this).symm
theorem covers_parts {a p : Bs} (ha : goodB a = true) (hp : placeB p = true) : coversB a p = decide (cut a <+: partsB p) := by
  rw [Bool.eq_iff_iff, covers_iff, decide_eq_true_eq]
  rcases place_iff.1 hp with rfl | g
  · unfold partsB
    rw [good_nil]
    constructor
    · rintro ⟨_, _, h | h⟩
      · exact (good_ne ha h).elim
      · exact (not_pre_nil ha h).elim
    · intro h
      exact (cut_ne a (List.prefix_nil.1 h)).elim
  · unfold partsB
    rw [if_pos g]
    constructor
    · rintro ⟨_, _, h | h⟩
      · exact (good_ne ha h).elim
      · exact h
    · intro h
      exact ⟨place_iff.2 (.inr ha), hp, .inr h⟩

set_option maxHeartbeats 3200000 in
set_option maxRecDepth 100000 in
theorem refcovers_any (a p : ByteArray) (w : World) :
    Calls Tryd.prog 12 #[.string a, .string p] w fun e w' => e = .returned (.bool (coversB (dat a) (dat p))) ∧ Below w.heap.size w w' := by
  go_enter Tryd.func12, Tryd.ntmps12
  go_wp2_with fail
  refine (refplace_any a w).mono ?_
  rintro e w1 ⟨rfl, b1⟩
  have B1 := Lib.hid b1
  clear b1
  cases ha : placeB (dat a) with
  | false =>
    have HC := Lib.hid (covers_f1 (p := dat p) ha)
    clear ha
    go_wp2
    go_ret
    exact ⟨by rw [HC.out]; rfl, B1.out⟩
  | true =>
    have HA := Lib.hid ha
    clear ha
    go_wp2_with fail
    refine (refplace_any p w1).mono ?_
    rintro e w2 ⟨rfl, b2⟩
    have B2 : Hid (Below w.heap.size w w2) := B1.out.trans (b2.mono B1.out.size)
    clear b2 B1
    cases hp : placeB (dat p) with
    | false =>
      have HC := Lib.hid (covers_f2 (a := dat a) hp)
      clear hp
      go_wp2
      go_ret
      exact ⟨by rw [HC.out]; rfl, B2.out⟩
    | true =>
      have HP := Lib.hid hp
      clear hp
      cases q1 : (a.toList == []) with
      | true =>
        have hr : Hid (coversB (dat a) (dat p) = true) := by unfold Hid; rw [covers_t _ _ HA.out HP.out, show (dat a == []) = true by rw [← q1, Lib.toList_data]]; rfl
        go_wp2
        go_ret
        exact ⟨by rw [hr.out]; rfl, B2.out⟩
      | false =>
        have GA : Hid (goodB (dat a) = true) := by
          rcases place_iff.1 HA.out with h | h
          · rw [Lib.toList_data, show a.data.toList = [] from h] at q1; cases q1
          · exact h
        have HC := Lib.hid (covers_parts GA.out HP.out)
        go_wp2_with fail
        refine (refparts_any a w2).mono ?_
        rintro e w3 ⟨A1, c1, ps, rfl, hps, hc1, hl1, hr1, b3⟩
        have B3 : Hid (Below w.heap.size w w3) := B2.out.trans (b3.mono B2.out.size)
        have hp2 : bytes ps = cut (dat a) := by rw [hps]; unfold partsB; rw [if_pos GA.out]
        have hpos : 0 < ps.length := by
          have := cut_ne (dat a)
          cases hd : ps with
          | nil => rw [hd] at hp2; exact (this hp2.symm).elim
          | cons x l => simp
        obtain ⟨g1, rfl, hr1, _⟩ := hr1 hpos
        rw [← hp2] at HC
        have R1 := Lib.hid hr1
        clear b3 B2 hps hp2 hr1
        go_wp2_with fail
        refine (refparts_any p w3).mono ?_
        rintro e w4 ⟨A2, c2, qs, rfl, hqs, hc2, hl2, hr2, b4⟩
        have B4 : Hid (Below w.heap.size w w4) := B3.out.trans (b4.mono B3.out.size)
        have R1' : Hid (Row w4 g1 ps) := R1.out.below b4
        rw [← hqs] at HC
        clear b4 B3 hqs R1
        by_cases hle : ps.length ≤ qs.length
        · have q2 : decide ((qs.length : Int) < ps.length) = false := by simp; omega
          have q3 : decide (qs.length < ps.length) = false := by simp; omega
          obtain ⟨g2, rfl, hr2, _⟩ := hr2 (by omega)
          have R2 := Lib.hid hr2
          have PG := Lib.hid (pre_get ps qs hle)
          clear hr2
          go_wp2_with fail
          go_loopw [7, 27] (fun i i2 wr => ∃ k : Nat, k ≤ ps.length ∧ i = .int .i64 k ∧ Hid (Below w4.heap.size w4 wr) ∧ Hid (∀ j (hj : j < ps.length), j < k → dat ps[j] = dat (qs[j]'(by omega)))) (fun i _ _ => ps.length - (intOf i).toNat)
          case atStart => exact ⟨0, Nat.zero_le _, rfl, Below.refl _ _, fun j hj h => by omega⟩
          case round =>
            obtain ⟨k, hk, rfl, hbk, hall⟩ := hrel
            by_cases hlt : k < ps.length
            · have hlt2 : k < qs.length := by omega
              have c1 := (R1'.out.below hbk.out) k hlt
              have c2 := (R2.out.below hbk.out) k hlt2
              have HA2 : Hid (dat ps[k] = dat qs[k] → ∀ j (hj : j < ps.length), j < k + 1 → dat ps[j] = dat (qs[j]'(by omega))) := fun he j hj h => by
                by_cases e : j = k
                · subst e; exact he
                · exact hall.out j hj (by omega)
              have HF : Hid (¬ dat ps[k] = dat qs[k] → coversB (dat a) (dat p) = false) := fun he => by
                rw [HC.out, decide_eq_false_iff_not]
                exact fun h => he (PG.out.1 h k hlt)
              generalize ps[k] = x at c1 HA2 HF
              generalize qs[k] = y at c2 HA2 HF
              have hxy : (x.toList == y.toList) = decide (dat x = dat y) := by rw [beqD, Bool.eq_iff_iff]; simp
              by_cases he : dat x = dat y
              · have e1 : (x.toList == y.toList) = true := by rw [hxy]; simpa using he
                have G := Lib.hid (HA2.out he)
                clear he hxy HA2 HF
                go_wp2_with fail
                refine wp_region_flag (fun w' => w'.cell? ⟨g1, k, none⟩ = some (.string x)) [(0, 1), (1, 1), (2, 1), (4, 1), (5, 1), (6, 1), (3, 2), (7, 0), (8, 1)] (by kernel_rfl) (by kernel_rfl) c1 ?_
                simp only [ordered, List.map_cons, List.map_nil, List.getD_cons_zero, List.getD_cons_succ]
                repeat (refine wpF_dry (fun K hK => ?_); go_simp; refine hK _ ?_; clear hK K)
                refine wpF_read (.string x) rfl (fun w' hS => by go_simp) (fun K hK => ?_)
                go_simp
                refine hK _ ?_
                clear hK K
                refine wpF_do ?_
                go_wp2_with fail
                refine ⟨c1, ?_⟩
                repeat (refine wpF_dry (fun K hK => ?_); go_simp; refine hK _ ?_; clear hK K)
                refine wpF_nil ?_
                go_wp2
                go_roundw
                case rel => exact ⟨k + 1, hlt, by go_num, hbk.out.drew, G⟩
                case measure => simp [intOf]; omega
              · have e1 : (x.toList == y.toList) = false := by rw [hxy]; simpa using he
                have G := Lib.hid (HF.out he)
                clear he hxy HA2 HF
                go_wp2_with fail
                refine wp_region_flag (fun w' => w'.cell? ⟨g1, k, none⟩ = some (.string x)) [(0, 1), (1, 1), (2, 1), (4, 1), (5, 1), (6, 1), (3, 2), (7, 0), (8, 1)] (by kernel_rfl) (by kernel_rfl) c1 ?_
                simp only [ordered, List.map_cons, List.map_nil, List.getD_cons_zero, List.getD_cons_succ]
                repeat (refine wpF_dry (fun K hK => ?_); go_simp; refine hK _ ?_; clear hK K)
                refine wpF_read (.string x) rfl (fun w' hS => by go_simp) (fun K hK => ?_)
                go_simp
                refine hK _ ?_
                clear hK K
                refine wpF_do ?_
                go_wp2_with fail
                refine ⟨c1, ?_⟩
                repeat (refine wpF_dry (fun K hK => ?_); go_simp; refine hK _ ?_; clear hK K)
                refine wpF_nil ?_
                go_wp2
                go_ret
                exact ⟨by rw [G.out]; rfl, B4.out.trans (hbk.out.drew.mono B4.out.size)⟩
            · have ht : Hid (coversB (dat a) (dat p) = true) := by
                unfold Hid
                rw [HC.out, decide_eq_true_eq]
                exact PG.out.2 fun j hj => hall.out j hj (by omega)
              go_wp2
              go_ret
              exact ⟨by rw [ht.out]; rfl, B4.out.trans (hbk.out.mono B4.out.size)⟩
        · have q2 : decide ((qs.length : Int) < ps.length) = true := by simp; omega
          have q3 : decide (qs.length < ps.length) = true := by simp; omega
          have hf : Hid (coversB (dat a) (dat p) = false) := by
            unfold Hid
            rw [HC.out, decide_eq_false_iff_not]
            intro h
            have := h.length_le
            simp [bytes] at this
            omega
          go_wp2
          go_ret
          exact ⟨by rw [hf.out]; rfl, B4.out⟩

end Go.Proofs.YtmagidkgajmhoaaDoor
