/- PathK: the walks of the document's Name and Cut. -/
import Derived.Test.YtmagidkgajmhoaaDoorPathF
import Derived.Maps.AppendAt
import Derived.Deep.Draws
set_option linter.unusedVariables false
set_option linter.unusedSimpArgs false
namespace Go.Proofs.YtmagidkgajmhoaaDoor
open Go.RowKit

theorem refname_of (s : ByteArray) : nameB s.data.toList = true ↔ 1 ≤ s.size ∧ s.size ≤ 12 ∧ ¬ s.toList = [46] ∧ ¬ s.toList = [46, 46] ∧ ∀ i (h : i < s.size), okB s[i] = true := name_of s

set_option maxHeartbeats 1600000 in
set_option maxRecDepth 100000 in
theorem refname_any (s : ByteArray) (w : World) :
    Calls Tryd.prog 22 #[.string s] w fun e w' => e = .returned (.bool (nameB s.data.toList)) ∧ w = w' := by
  have no : ¬ (nameB s.data.toList = true) → nameB s.data.toList = false := fun h => by simpa using h
  have emp : (s.toList == []) = decide (s.size = 0) := by
    rw [Lib.toList_data, Lib.size_eq]
    cases s.data.toList <;> simp
  by_cases h1 : 1 ≤ s.size ∧ s.size ≤ 12 ∧ ¬ s.toList = [46] ∧ ¬ s.toList = [46, 46]
  · obtain ⟨a, b, c, d⟩ := h1
    have q1 : (s.toList == []) = false := by rw [emp, decide_eq_false_iff_not]; omega
    have q2 : decide (12 < (s.size : Int)) = false := by simp; omega
    have q3 : (s.toList == [46]) = false := by simpa using c
    have q4 : (s.toList == [46, 46]) = false := by simpa using d
    have NM := Lib.hid (name_of s)
    have NO := Lib.hid no
    have AB := Lib.hid (And.intro a (And.intro b (And.intro c d)))
    clear no a b c d emp
    go_enter Tryd.func22, Tryd.ntmps22
    go_wp2
    go_loopw [3, 21] (fun i i2 wr => ∃ pos : Nat, pos ≤ s.size ∧ i = .int .i64 pos ∧ wr = w ∧ Hid (∀ i (h : i < s.size), i < pos → okB s[i] = true)) (fun i _ _ => s.size - (intOf i).toNat)
    case atStart => exact ⟨0, Nat.zero_le _, rfl, rfl, fun i h hi => by omega⟩
    case round =>
      obtain ⟨pos, hp0, rfl, rfl, hall⟩ := hrel
      have h12 : s.size ≤ 12 := AB.out.2.1
      by_cases hp : pos < s.size
      · have hK := Lib.hid (okB_iff s[pos])
        have go : Hid (okB s[pos] = true → ∀ i (h : i < s.size), i < pos + 1 → okB s[i] = true) := fun K i h hi => by
          by_cases e : i = pos
          · subst e; exact K
          · exact hall.out i h (by omega)
        have bad : Hid (okB s[pos] = false → nameB s.data.toList = false) := fun k1 => NO.out fun h => by
          have := (NM.out.1 h).2.2.2.2 pos hp
          rw [k1] at this
          cases this
        clear hall
        have S : Hid ((okB s[pos] = true ∧ ((decide (97 ≤ ((s[pos]).toNat : Int)) = true ∧ decide (((s[pos]).toNat : Int) ≤ 122) = true) ∨ (decide (97 ≤ ((s[pos]).toNat : Int)) = false ∧ decide (48 ≤ ((s[pos]).toNat : Int)) = true ∧ decide (((s[pos]).toNat : Int) ≤ 57) = true) ∨ ((s[pos]).toNat : Int) = 45 ∨ ((s[pos]).toNat : Int) = 95 ∨ ((s[pos]).toNat : Int) = 46)) ∨
            (okB s[pos] = false ∧ (¬ ((s[pos]).toNat : Int) = 45) ∧ (¬ ((s[pos]).toNat : Int) = 95) ∧ (¬ ((s[pos]).toNat : Int) = 46) ∧ ((decide (97 ≤ ((s[pos]).toNat : Int)) = false ∧ decide (48 ≤ ((s[pos]).toNat : Int)) = false) ∨ (decide (97 ≤ ((s[pos]).toNat : Int)) = false ∧ decide (48 ≤ ((s[pos]).toNat : Int)) = true ∧ decide (((s[pos]).toNat : Int) ≤ 57) = false) ∨ (decide (97 ≤ ((s[pos]).toNat : Int)) = true ∧ decide (((s[pos]).toNat : Int) ≤ 122) = false ∧ decide (48 ≤ ((s[pos]).toNat : Int)) = true ∧ decide (((s[pos]).toNat : Int) ≤ 57) = false)))) := by
          have h0 := hK.out
          generalize hc : okB s[pos] = ok at h0 ⊢
          unfold Hid
          simp only [decide_eq_true_eq, decide_eq_false_iff_not]
          cases ok with
          | true =>
            have := h0.1 rfl
            refine .inl ⟨rfl, ?_⟩
            omega
          | false =>
            have := mt h0.2 (by decide)
            refine .inr ⟨rfl, ?_⟩
            omega
        clear hK
        rcases S.out with ⟨k1, S2⟩ | ⟨k1, n1, n2, n3, S2⟩
        · have G := Lib.hid (go.out k1)
          clear k1 S go bad
          rcases S2 with ⟨f1, f2⟩ | ⟨f1, f2, f3⟩ | f1 | f1 | f1
          all_goals
            go_wp2
            go_roundw
            case rel => exact ⟨pos + 1, hp, by go_num, trivial, G⟩
            case measure => simp [intOf]; omega
        · have hf := Lib.hid (bad.out k1)
          clear k1 S go bad
          rcases S2 with ⟨f1, f2⟩ | ⟨f1, f2, f3⟩ | ⟨f1, f2, f3, f4⟩
          all_goals
            go_wp2
            any_goals (go_ret; exact ⟨by rw [hf.out]; rfl, rfl⟩)
            all_goals (exfalso; simp_all)
      · have hok : Hid (nameB s.data.toList = true) := NM.out.2 ⟨AB.out.1, AB.out.2.1, AB.out.2.2.1, AB.out.2.2.2, fun i h => hall.out i h (by omega)⟩
        go_wp2
        go_ret
        exact ⟨by rw [hok.out]; rfl, rfl⟩
  · have hf : nameB s.data.toList = false := no fun h => h1 (by obtain ⟨a, b, c, d, _⟩ := (name_of s).1 h; exact ⟨a, b, c, d⟩)
    have H1 := Lib.hid h1
    have HF := Lib.hid hf
    have EM := Lib.hid emp
    have C : (s.toList == []) = true ∨ ((s.toList == []) = false ∧ decide (12 < (s.size : Int)) = true) ∨ ((s.toList == []) = false ∧ decide (12 < (s.size : Int)) = false ∧ (s.toList == [46]) = true) ∨ ((s.toList == []) = false ∧ decide (12 < (s.size : Int)) = false ∧ (s.toList == [46]) = false ∧ (s.toList == [46, 46]) = true) := by
      rw [emp]
      simp only [decide_eq_true_eq, decide_eq_false_iff_not, beq_iff_eq, beq_eq_false_iff_ne]
      by_cases e1 : s.size = 0
      · exact .inl e1
      · by_cases e2 : (12 : Int) < s.size
        · exact .inr (.inl ⟨e1, e2⟩)
        · by_cases e3 : s.toList = [46]
          · exact .inr (.inr (.inl ⟨e1, e2, e3⟩))
          · by_cases e4 : s.toList = [46, 46]
            · exact .inr (.inr (.inr ⟨e1, e2, e3, e4⟩))
            · exact (h1 ⟨by omega, by omega, e3, e4⟩).elim
    clear hf h1 no emp H1 EM
    rcases C with q1 | ⟨q1, q2⟩ | ⟨q1, q2, q3⟩ | ⟨q1, q2, q3, q4⟩
    all_goals
      go_enter Tryd.func22, Tryd.ntmps22
      go_wp2
      go_ret
      exact ⟨by rw [HF.out]; rfl, rfl⟩
end Go.Proofs.YtmagidkgajmhoaaDoor
