/- PathA: the walk of path.Name. -/
import Derived.Test.YtmagidkgajmhoaaDoorPathP
import Derived.Test.YtmagidkgajmhoaaDoorPathShelf
import Derived.WalkKit
import Derived.BigCall
import Derived.Laws.RangeAny
import Derived.Lib.OthersKept
import Derived.Lib.Hide
import Derived.Below
set_option linter.unusedVariables false
set_option linter.unusedSimpArgs false
namespace Go.Proofs.YtmagidkgajmhoaaDoor
open Go.RowKit

theorem okB_iff (c : UInt8) : okB c = true ↔ (97 ≤ (c.toNat : Int) ∧ (c.toNat : Int) ≤ 122) ∨ (48 ≤ (c.toNat : Int) ∧ (c.toNat : Int) ≤ 57) ∨ (c.toNat : Int) = 45 ∨ (c.toNat : Int) = 95 ∨ (c.toNat : Int) = 46 := by
  unfold okB
  simp only [Bool.or_eq_true, Bool.and_eq_true, decide_eq_true_eq, beq_iff_eq, UInt8.le_iff_toNat_le, ← UInt8.toNat_inj]
  have e1 : (97 : UInt8).toNat = 97 := rfl
  have e2 : (122 : UInt8).toNat = 122 := rfl
  have e3 : (48 : UInt8).toNat = 48 := rfl
  have e4 : (57 : UInt8).toNat = 57 := rfl
  have e5 : (45 : UInt8).toNat = 45 := rfl
  have e6 : (95 : UInt8).toNat = 95 := rfl
  have e7 : (46 : UInt8).toNat = 46 := rfl
  rw [e1, e2, e3, e4, e5, e6, e7]
  omega
def okR (r : Int) : Prop := (97 ≤ r ∧ r ≤ 122) ∨ (48 ≤ r ∧ r ≤ 57) ∨ r = 45 ∨ r = 95 ∨ r = 46
theorem rune_ok (s : ByteArray) (pos : Nat) (h : pos < s.size) : (okB s[pos] = true ∧ (Utf8.decode s pos).2 = 1 ∧ okR ((Utf8.decode s pos).1 : Int)) ∨ (okB s[pos] = false ∧ ¬ okR ((Utf8.decode s pos).1 : Int)) := by
  by_cases ha : (s[pos]).toNat < 128
  · rw [decode_ascii s pos h ha]
    cases hk : okB s[pos] with
    | true => exact .inl ⟨rfl, rfl, (okB_iff _).1 hk⟩
    | false => exact .inr ⟨rfl, fun x => by rw [(okB_iff _).2 x] at hk; cases hk⟩
  · have hd := (decode_high s pos h (by omega)).1
    refine .inr ⟨?_, fun x => by unfold okR at x; omega⟩
    cases hk : okB s[pos] with
    | false => rfl
    | true => have := (okB_iff _).1 hk; omega
theorem name_of (s : ByteArray) : nameB s.data.toList = true ↔ 1 ≤ s.size ∧ s.size ≤ 12 ∧ ¬ s.toList = [46] ∧ ¬ s.toList = [46, 46] ∧ ∀ i (h : i < s.size), okB s[i] = true := by
  unfold nameB
  rw [Lib.toList_data]
  simp only [Bool.and_eq_true, decide_eq_true_eq, Bool.not_eq_true', beq_eq_false_iff_ne, ne_eq, List.all_eq_true, ← Lib.size_eq]
  constructor
  · rintro ⟨⟨⟨⟨a, b⟩, c⟩, d⟩, e⟩
    exact ⟨a, b, c, d, fun i h => e _ (by simp [Array.mem_iff_getElem]; exact ⟨i, h, rfl⟩)⟩
  · rintro ⟨a, b, c, d, e⟩
    refine ⟨⟨⟨⟨a, b⟩, c⟩, d⟩, fun x hx => ?_⟩
    simp [Array.mem_iff_getElem] at hx
    obtain ⟨i, h, rfl⟩ := hx
    exact e i h

set_option maxHeartbeats 1600000 in
set_option maxRecDepth 100000 in
theorem name_any (s : ByteArray) (w : World) :
    Calls Tryd.prog 43 #[.string s] w fun e w' => e = .returned (.bool (nameB s.data.toList)) ∧ Below w.heap.size w w' := by
  have no : ¬ (nameB s.data.toList = true) → nameB s.data.toList = false := fun h => by simpa using h
  by_cases h1 : 1 ≤ s.size ∧ s.size ≤ 12 ∧ ¬ s.toList = [46] ∧ ¬ s.toList = [46, 46]
  · obtain ⟨a, b, c, d⟩ := h1
    have q1 : decide ((s.size : Int) < 1) = false := by simp; omega
    have q2 : decide (12 < (s.size : Int)) = false := by simp; omega
    have q3 : (s.toList == [46]) = false := by simpa using c
    have q4 : (s.toList == [46, 46]) = false := by simpa using d
    have NM := Lib.hid (name_of s)
    have NO := Lib.hid no
    have AB := Lib.hid (And.intro a (And.intro b (And.intro c d)))
    clear no a b c d
    go_enter Tryd.func43, Tryd.ntmps43
    go_wp2
    go_loopw [] (fun wr => ∃ pos, pos ≤ s.size ∧ wr.heap[w.heap.size]? = some (.stringIter s pos) ∧ Hid (Below w.heap.size w wr) ∧ Hid (∀ i (h : i < s.size), i < pos → okB s[i] = true)) (fun wr => s.size - wr.iterPos w.heap.size)
    case atStart =>
      refine ⟨0, Nat.zero_le _, ?_, (Below.refl _ w).alloc (Nat.le_refl _) _, fun i h hi => by omega⟩
      have := World.iter_heap w s 0
      simpa using this
    case round =>
      obtain ⟨pos, hp0, hit, hb, hall⟩ := hrel
      by_cases hp : pos < s.size
      · have hnx : ∀ ty, (Instr.next (.pointer (some ⟨w.heap.size, 0, none⟩)) true ty).run Tryd.prog wr = _ := fun ty => Lib.run_next_any_at wr w.heap.size s pos ty hit hp
        have hit2 := Lib.iterAt_heap wr w.heap.size s pos (pos + (Utf8.decode s pos).2) hit
        have HB2 := Lib.hid (Lib.below_iterAt hb.out (k := w.heap.size) (Nat.le_refl _) s (pos + (Utf8.decode s pos).2))
        have R := Lib.hid (rune_ok s pos hp)
        generalize hr : ((Utf8.decode s pos).1 : Int) = r at hnx R
        have R' := R.out
        rcases R' with ⟨k1, k2, k3⟩ | ⟨k1, k3⟩
        · have K := Lib.hid k1
          rw [k2] at hnx hit2 HB2
          have go : Hid (∀ i (h : i < s.size), i < pos + 1 → okB s[i] = true) := fun i h hi => by
            by_cases e : i = pos
            · subst e; exact K.out
            · exact hall.out i h (by omega)
          clear k1 hr R
          have S : Hid ((decide (r < 97) = false ∧ decide (122 < r) = false) ∨ (decide (r < 97) = true ∧ decide (r < 48) = false ∧ decide (57 < r) = false) ∨ r = 45 ∨ r = 95 ∨ r = 46) := by
            unfold Hid okR at *
            simp only [decide_eq_false_iff_not, decide_eq_true_eq]
            omega
          clear k3
          rcases S.out with ⟨f1, f2⟩ | ⟨f1, f2, f3⟩ | rfl | rfl | rfl
          all_goals
            clear S
            go_wp2
            go_roundw
            case rel => exact ⟨pos + 1, hp, hit2, HB2, go⟩
            case measure => simp only [World.iterPos, hit, hit2]; omega
        · have hf : Hid (nameB s.data.toList = false) := NO.out fun h => by
            have := (NM.out.1 h).2.2.2.2 pos hp
            rw [k1] at this
            cases this
          clear k1 hr R
          have S : Hid ((decide (r < 97) = true ∧ decide (r < 48) = true) ∨ (decide (r < 97) = true ∧ decide (r < 48) = false ∧ decide (57 < r) = true) ∨ (decide (r < 97) = false ∧ decide (122 < r) = true ∧ decide (r < 48) = false ∧ decide (57 < r) = true)) := by
            unfold Hid okR at *
            simp only [decide_eq_false_iff_not, decide_eq_true_eq]
            omega
          have e1 : ¬ r = 45 := by unfold okR at k3; omega
          have e2 : ¬ r = 95 := by unfold okR at k3; omega
          have e3 : ¬ r = 46 := by unfold okR at k3; omega
          clear k3
          rcases S.out with ⟨f1, f2⟩ | ⟨f1, f2, f3⟩ | ⟨f1, f2, f3, f4⟩
          all_goals
            clear S
            go_wp2
            any_goals (go_ret; exact ⟨by rw [hf.out]; rfl, HB2.out⟩)
            all_goals (exfalso; simp_all)
      · have hnx : ∀ ty, (Instr.next (.pointer (some ⟨w.heap.size, 0, none⟩)) true ty).run Tryd.prog wr = _ := fun ty => Lib.run_next_end_at wr w.heap.size s pos ty hit hp
        have hok : Hid (nameB s.data.toList = true) := NM.out.2 ⟨AB.out.1, AB.out.2.1, AB.out.2.2.1, AB.out.2.2.2, fun i h => hall.out i h (by omega)⟩
        go_wp2
        go_ret
        exact ⟨by rw [hok.out]; rfl, hb.out⟩
  · have hf : nameB s.data.toList = false := no fun h => h1 (by obtain ⟨a, b, c, d, _⟩ := (name_of s).1 h; exact ⟨a, b, c, d⟩)
    have H1 := Lib.hid h1
    have HF := Lib.hid hf
    clear hf h1 no
    go_enter Tryd.func43, Tryd.ntmps43
    go_wp2
    all_goals first
      | (go_ret; exact ⟨by rw [HF.out]; rfl, Below.refl _ _⟩)
      | (exfalso; refine H1.out ?_; simp_all; omega)
end Go.Proofs.YtmagidkgajmhoaaDoor
