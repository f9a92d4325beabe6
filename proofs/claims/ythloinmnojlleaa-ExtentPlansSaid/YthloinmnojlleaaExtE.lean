/- ExtE: the walk of cut. -/
import Derived.Test.YthloinmnojlleaaExtD
import Derived.Test.YthloinmnojlleaaReg3
set_option linter.unusedVariables false
set_option linter.unusedSimpArgs false
namespace Go.Proofs.Ythloinmnojlleaa
open Go.RowKit

/-- What was done to an area. -/
structure ArTo (w : World) (F : Nat → Prop) (g : Nat) (a' : Ar) (w' : World) (F' : Nat → Prop) : Prop where
  has : HasAr w' F' g a'
  new : ∀ k, F' k → F k ∨ w.heap.size ≤ k
  touch : Touch (fun k => k = g) w w'
def front (h : Nat × Nat) (f : Nat) : List (Nat × Nat) := if h.1 < f then [(h.1, f - h.1)] else []
def back (h : Nat × Nat) (f n : Nat) : List (Nat × Nat) := if f + n < h.1 + h.2 then [(f + n, h.1 + h.2 - f - n)] else []
def cutL (L : List (Nat × Nat)) (i : Nat) (h : Nat × Nat) (f n : Nat) : List (Nat × Nat) := L.take i ++ ((front h f ++ back h f n) ++ L.drop (i + 1))
theorem lies_weaken {N : Nat} : ∀ {lo lo' : Nat} {L : List (Nat × Nat)}, Lies N lo L → lo' ≤ lo → Lies N lo' L
  | _, _, [], _, _ => trivial
  | _, _, x :: L, h, hl => ⟨by have := h.1; omega, h.2.1, h.2.2.1, h.2.2.2⟩
theorem lies_cut {N : Nat} : ∀ {lo : Nat} {L : List (Nat × Nat)} (i : Nat) (hi : i < L.length) (f n : Nat), Lies N lo L → L[i].1 ≤ f → 1 ≤ n → f + n ≤ L[i].1 + L[i].2 → Lies N lo (cutL L i L[i] f n)
  | lo, x :: L, 0, hi, f, n, h, h1, h2, h3 => by
    obtain ⟨a1, a2, a3, a4⟩ := h
    simp only [List.getElem_cons_zero] at h1 h3 ⊢
    unfold cutL front back
    simp only [List.take_zero, List.nil_append, List.drop_succ_cons, List.drop_zero]
    by_cases c1 : x.1 < f
    · by_cases c2 : f + n < x.1 + x.2
      · rw [if_pos c1, if_pos c2]
        exact ⟨a1, by simp; omega, by simp; omega, by simp; omega, by simp; omega, by simp; omega, lies_weaken a4 (by simp; omega)⟩
      · rw [if_pos c1, if_neg c2]
        exact ⟨a1, by simp; omega, by simp; omega, lies_weaken a4 (by simp; omega)⟩
    · by_cases c2 : f + n < x.1 + x.2
      · rw [if_neg c1, if_pos c2]
        exact ⟨by simp; omega, by simp; omega, by simp; omega, lies_weaken a4 (by simp; omega)⟩
      · rw [if_neg c1, if_neg c2]
        exact lies_weaken a4 (by omega)
  | lo, x :: L, i + 1, hi, f, n, h, h1, h2, h3 => by
    obtain ⟨a1, a2, a3, a4⟩ := h
    exact ⟨a1, a2, a3, lies_cut i (by simpa using hi) f n a4 (by simpa using h1) h2 (by simpa using h3)⟩
/-- Parts of a row of spans, read. -/
theorem rdsp_take {w : World} {b : Nat} {g c : Nat} {L : List (Nat × Nat)} (h : w.ownsRow b 30 2 (.slice (some ⟨g, 0, none⟩) L.length c) L.length (sp L)) (k : Nat) (hk : k ≤ L.length) (c' : Nat) (hc : k ≤ c') : RdSp w (.slice (some ⟨g, 0, none⟩) k c') (L.take k) := by
  refine ⟨_, c', by rw [List.length_take, Nat.min_eq_left hk], by rw [List.length_take]; omega, (fun e => by cases e), fun ad e j u hu => ?_⟩
  injection e with e
  subst e
  rw [sp_take, List.getElem?_take] at hu
  split at hu
  · exact h.cells (g := g) rfl j u hu
  · cases hu
theorem rdsp_drop {w : World} {b : Nat} {g c : Nat} {L : List (Nat × Nat)} (h : w.ownsRow b 30 2 (.slice (some ⟨g, 0, none⟩) L.length c) L.length (sp L)) (k : Nat) (hk : k ≤ L.length) (c' : Nat) (hc : L.length - k ≤ c') (o : Nat) (ho : o = k * 2 ∨ k = L.length) : RdSp w (.slice (some ⟨g, o, none⟩) (L.length - k) c') (L.drop k) := by
  refine ⟨_, c', by rw [List.length_drop], by rw [List.length_drop]; exact hc, (fun e => by cases e), fun ad e j u hu => ?_⟩
  injection e with e
  subst e
  rw [sp_drop, List.getElem?_drop] at hu
  rcases ho with rfl | rfl
  · have := h.cells (g := g) rfl (k * 2 + j) u hu
    by_cases e0 : j = 0
    · subst e0
      by_cases e1 : k = 0
      · subst e1; simpa [Addr.add] using this
      · have e2 : ¬ k * 2 = 0 := by omega
        simpa [Addr.add, e1, e2] using this
    · have e3 : ¬ k * 2 + j = 0 := by omega
      simpa [Addr.add, e0, e3] using this
  · rw [List.getElem?_eq_none (by rw [sp_length]; omega)] at hu
    cases hu
theorem rdsp_own {w : World} {b : Nat} {v : Value} {L : List (Nat × Nat)} (h : w.ownsRow b 30 2 v L.length (sp L)) : RdSp w v L := by
  rcases h.2 with ⟨rfl, h0⟩ | ⟨g, c, cur, rfl, _, _, hc, _⟩
  · obtain rfl : L = [] := List.eq_nil_of_length_eq_zero h0
    exact ⟨none, 0, rfl, Nat.le_refl _, fun _ => rfl, fun ad e => by cases e⟩
  · refine ⟨_, c, rfl, hc, (fun e => by cases e), fun ad e j u hu => ?_⟩
    injection e with e
    subst e
    exact h.cells (g := g) rfl j u hu

theorem concat3 (w : World) (b c : Nat) (s0 s1 s2 : Value) (L0 L1 L2 : List (Nat × Nat)) (h0 : w.cell? ⟨b, 0, none⟩ = some s0) (h1 : w.cell? ⟨b, 1, none⟩ = some s1) (h2 : w.cell? ⟨b, 2, none⟩ = some s2) (r0 : RdSp w s0 L0) (r1 : RdSp w s1 L1) (r2 : RdSp w s2 L2)
    (l0 : L0.length ≤ 1048578) (l1 : L1.length ≤ 1048578) (l2 : L2.length ≤ 1048578) :
    Calls Try.prog 32 #[.slice (some ⟨b, 0, none⟩) 3 c] w fun e w' => ∃ v, e = .returned v ∧ w'.ownsRow w.heap.size 30 2 v (L0 ++ (L1 ++ L2)).length (sp (L0 ++ (L1 ++ L2))) ∧ Below w.heap.size w w' := by
  have h := concat_any w b c [s0, s1, s2] [L0, L1, L2] rfl (by simp) (fun j hj => match j, hj with | 0, _ => h0 | 1, _ => h1 | 2, _ => h2) (fun j hj => match j, hj with | 0, _ => r0 | 1, _ => r1 | 2, _ => r2) (fun L hL => by
    simp only [List.mem_cons, List.not_mem_nil, or_false] at hL
    rcases hL with rfl | rfl | rfl <;> assumption)
  simpa using h
end Go.Proofs.Ythloinmnojlleaa
