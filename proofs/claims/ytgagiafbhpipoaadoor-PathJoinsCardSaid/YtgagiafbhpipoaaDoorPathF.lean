/- PathF: the walks of short and lives. -/
import Derived.Test.YtgagiafbhpipoaaDoorPathE
set_option linter.unusedVariables false
set_option linter.unusedSimpArgs false
namespace Go.Proofs.YtgagiafbhpipoaaDoor
open Go.RowKit

/-- Texts that are read. -/
def RdS (w : World) (v : Value) (ps : List ByteArray) : Prop := ∃ A c, v = .slice A ps.length c ∧ ps.length ≤ c ∧ c ≤ 9223372036854775807 ∧ (0 < ps.length → ∃ g off, A = some ⟨g, off, none⟩ ∧ ∀ j (h : j < ps.length), w.cell? ⟨g, off + j, none⟩ = some (.string ps[j]))

set_option maxHeartbeats 800000 in
theorem short_any (w : World) (v : Value) (ps : List ByteArray) (h : RdS w v ps) (hn : ps.length ≤ 4611686018427387904) :
    Calls Tryd.prog 11 #[v] w fun e w' => ∃ b, e = .returned (.bool b) ∧ (b = true → ∀ p ∈ ps, p.size ≤ 2000) ∧ w = w' := by
  obtain ⟨A, c, rfl, hlc, hc, hrow⟩ := h
  have HR := Lib.hid hrow
  clear hrow
  go_enter Tryd.func11, Tryd.ntmps11
  go_wp2
  go_loopw [3, 4] (fun i i2 wr => ∃ k : Nat, k ≤ ps.length ∧ i = .int .i64 k ∧ wr = w ∧ Hid (∀ j (hj : j < ps.length), j < k → ps[j].size ≤ 2000)) (fun i _ _ => ps.length - (intOf i).toNat)
  case atStart => exact ⟨0, Nat.zero_le _, rfl, rfl, fun j hj h => by omega⟩
  case round =>
    obtain ⟨k, hk, rfl, rfl, hall⟩ := hrel
    by_cases hlt : k < ps.length
    · obtain ⟨g, off, rfl, hr⟩ := HR.out (by omega)
      have c0 := hr k hlt
      clear hr
      by_cases hs : ps[k].size ≤ 2000
      · have q : decide (2000 < (ps[k].size : Int)) = false := by simp; omega
        have HA : Hid (∀ j (hj : j < ps.length), j < k + 1 → ps[j].size ≤ 2000) := fun j hj h => by
          by_cases e : j = k
          · subst e; exact hs
          · exact hall.out j hj (by omega)
        clear hs
        go_wp2
        go_roundw
        case rel => exact ⟨k + 1, hlt, by go_num, trivial, HA⟩
        case measure => simp [intOf]; omega
      · have q : decide (2000 < (ps[k].size : Int)) = true := by simp; omega
        clear hs
        go_wp2
        go_ret
        exact ⟨false, rfl, (fun h => by cases h), rfl⟩
    · go_wp2
      go_ret
      refine ⟨true, rfl, fun _ p hp => ?_, rfl⟩
      obtain ⟨j, hj, rfl⟩ := List.mem_iff_getElem.1 hp
      exact hall.out j hj (by omega)

theorem eq_of_dat {q : ByteArray} {l : Bs} (h : dat q = l) : q = ⟨l.toArray⟩ := by
  subst h; cases q; simp [dat]
theorem lives5 (w : World) : Calls Tryd.prog 12 #[] w fun e w' => e = .returned (.bool true) ∧ Below w.heap.size w w' := by
  go_enter Tryd.func12, Tryd.ntmps12
  go_wp2_with fail
  refine (moved_any _ _ _ w).mono ?_
  rintro e w1 ⟨q, rfl, hq, b1⟩
  have e1 : movedB (dat ⟨#[97, 47, 98]⟩) (dat ⟨#[97]⟩) (dat ⟨#[120]⟩) = ([120, 47, 98], 0) := by decide
  rw [e1] at hq ⊢
  have hq := eq_of_dat hq
  subst hq
  have B1 := Lib.hid b1
  clear b1 e1
  go_wp2_with fail
  refine (meet_any _ _ w1).mono ?_
  rintro e w2 ⟨q, rfl, hq, b2⟩
  have e1 : meetB (dat ⟨#[97]⟩) (dat ⟨#[97, 47, 98]⟩) = ([97, 47, 98], true) := by decide
  rw [e1] at hq ⊢
  have hq := eq_of_dat hq
  subst hq
  have B2 : Hid (Below w.heap.size w w2) := B1.out.trans (b2.mono B1.out.size)
  clear b2 e1 B1
  go_wp2_with fail
  refine (parts_any _ w2).mono ?_
  rintro e w3 ⟨A, c, ps, rfl, hp, _, _, _, b3⟩
  have e1 : partsB (dat ⟨#[97, 47, 98, 46, 99]⟩) = [[97], [98, 46, 99]] := by decide
  rw [e1] at hp
  have hl : ps.length = 2 := by have := congrArg List.length hp; simpa [bytes] using this
  rw [hl]
  have B3 : Hid (Below w.heap.size w w3) := B2.out.trans (b3.mono B2.out.size)
  clear b3 e1 B2 hp hl
  go_wp2_with fail
  refine (good_any _ w3).mono ?_
  rintro e w4 ⟨rfl, b4⟩
  have B4 : Hid (Below w.heap.size w w4) := B3.out.trans (b4.mono B3.out.size)
  clear b4 B3
  have e1 : goodB (ByteArray.mk #[97, 47, 47, 98]).data.toList = false := by decide
  rw [e1]
  go_wp2
  go_ret
  exact ⟨rfl, B4.out⟩
end Go.Proofs.YtgagiafbhpipoaaDoor
