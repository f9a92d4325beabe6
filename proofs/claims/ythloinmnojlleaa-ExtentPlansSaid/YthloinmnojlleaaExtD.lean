/- ExtD: the walks of BinarySearchFunc at spans and of behind. -/
import Derived.Test.YthloinmnojlleaaExtC
set_option linter.unusedVariables false
set_option linter.unusedSimpArgs false
namespace Go.Proofs.Ythloinmnojlleaa
open Go.RowKit

/-- The first hole whose end is above a place. -/
def behindI (L : List (Nat × Nat)) (x : Int) : Nat := (L.takeWhile fun h => decide ((h.1 : Int) + h.2 ≤ x)).length
theorem behind_is {L : List (Nat × Nat)} {x : Int} {i : Nat} (hi : i ≤ L.length) (h1 : ∀ k (h : k < L.length), k < i → (L[k].1 : Int) + L[k].2 ≤ x) (h2 : ∀ h : i < L.length, ¬ (L[i].1 : Int) + L[i].2 ≤ x) : behindI L x = i := by
  induction L generalizing i with
  | nil => simp at hi; subst hi; rfl
  | cons a L ih =>
    cases i with
    | zero =>
      have := h2 (by simp)
      simp only [List.getElem_cons_zero] at this
      unfold behindI
      rw [List.takeWhile_cons_of_neg (by simpa using this)]
      rfl
    | succ i =>
      have h0 := h1 0 (by simp) (by omega)
      simp only [List.getElem_cons_zero] at h0
      have := ih (i := i) (by simpa using hi) (fun k h hk => h1 (k + 1) (by simpa using h) (by omega)) (fun h => h2 (by simpa using h))
      unfold behindI at this ⊢
      rw [List.takeWhile_cons_of_pos (by simpa using h0)]
      simp [this]
theorem behind_le (L : List (Nat × Nat)) (x : Int) : behindI L x ≤ L.length := (List.takeWhile_prefix _).length_le
/-- Ends rise. -/
theorem lies_mono {n : Nat} : ∀ {lo : Nat} {L : List (Nat × Nat)}, Lies n lo L → ∀ i j (hi : i < j) (hj : j < L.length), (L[i]'(by omega)).1 + (L[i]'(by omega)).2 < L[j].1
  | lo, x :: L, h, 0, j + 1, _, hj => by
    have := (lies_get h.2.2.2 j (by simpa using hj)).1
    simp only [List.getElem_cons_zero, List.getElem_cons_succ]
    omega
  | lo, x :: L, h, i + 1, j + 1, hi, hj => by
    have := lies_mono h.2.2.2 i j (by omega) (by simpa using hj)
    simpa using this

set_option maxHeartbeats 1600000 in
set_option maxRecDepth 100000 in
theorem bsearch_any (w : World) (v : Value) (L : List (Nat × Nat)) (n : Nat) (hn : n ≤ 1048576) (hL : Lies n 0 L) (ho : w.ownsRow 0 30 2 v L.length (sp L)) (x : Int) :
    Calls Try.prog 50 #[v, .int .i64 x, .func (.func 51) #[] #[]] w fun e w' => e = .returned (.tuple #[.int .i64 (behindI L x : Nat), .bool false]) ∧ Below w.heap.size w w' := by
  obtain ⟨A, c, rfl⟩ := own_slice ho
  have HO := Lib.hid ho
  have few : L.length ≤ 1048577 := by have := lies_len hL (by omega); omega
  have HL := Lib.hid hL
  clear ho hL
  go_enter Try.func50, Try.ntmps50
  go_wp2_with fail
  go_loopw [9, 10, 15] (fun i j i2 wr => ∃ p q : Nat, p ≤ q ∧ q ≤ L.length ∧ i = .int .i64 p ∧ j = .int .i64 q ∧ Hid (Below w.heap.size w wr) ∧ Hid (∀ k (h : k < L.length), k < p → (L[k].1 : Int) + L[k].2 ≤ x) ∧ Hid (∀ k (h : k < L.length), q ≤ k → x < (L[k].1 : Int) + L[k].2)) (fun i j _ _ => (intOf j).toNat - (intOf i).toNat)
  case atStart => exact ⟨0, L.length, Nat.zero_le _, Nat.le_refl _, rfl, rfl, Below.refl _ _, fun k h hk => by omega, fun k h hk => by omega⟩
  case round =>
    obtain ⟨p, q, hpq, hq, rfl, rfl, hb, h1, h2⟩ := hrel
    by_cases hlt : p < q
    · have d1 : decide ((p : Int) < q) = true := by simp; omega
      obtain ⟨m, hm⟩ : ∃ m, m = (p + q) / 2 := ⟨_, rfl⟩
      have hmi : ((p : Int) + q) / 2 = (m : Nat) := by omega
      have hmp : p ≤ m := by omega
      have hmq : m < q := by omega
      have hml : m < L.length := by omega
      obtain ⟨g1, c1, e1, _, _, hc⟩ := row_at HO.out (by omega)
      injection e1 with e1 e2 e3
      subst e1 e3
      obtain ⟨z1, z2⟩ := hc m hml
      have z1 := cell_below hb.out z1
      have z2 := cell_below hb.out z2
      have hin := (lies_get HL.out m hml).2.2
      have HH1 : Hid ((L[m].1 : Int) + L[m].2 ≤ x → ∀ k (h : k < L.length), k < m + 1 → (L[k].1 : Int) + L[k].2 ≤ x) := fun hx k h hk => by
        by_cases e : k = m
        · subst e; exact hx
        · have := lies_mono HL.out k m (by omega) hml
          omega
      have HH2 : Hid (¬ (L[m].1 : Int) + L[m].2 ≤ x → ∀ k (h : k < L.length), m ≤ k → x < (L[k].1 : Int) + L[k].2) := fun hx k h hk => by
        by_cases e : k = m
        · subst e; omega
        · have := lies_mono HL.out m k (by omega) h
          omega
      clear hc e2 hm
      generalize L[m] = y at z1 z2 hin HH1 HH2
      by_cases hx : (y.1 : Int) + y.2 ≤ x
      · have G1 := Lib.hid (HH1.out hx)
        have CB := fun W => Lib.hid (cmp_behind W y.1 y.2 (by omega) x)
        simp only [if_pos hx] at CB
        clear hx HH1 HH2
        go_wp2_with fail
        refine (CB _).out.mono ?_
        rintro e w1 ⟨rfl, b1⟩
        have B1 : Hid (Below w.heap.size w w1) := hb.out.trans (b1.mono hb.out.size)
        clear b1 CB
        go_wp2
        go_roundw
        case rel => exact ⟨m + 1, q, by omega, hq, by go_num, rfl, B1, G1, h2⟩
        case measure => simp [intOf]; omega
      · have G2 := Lib.hid (HH2.out hx)
        have CB := fun W => Lib.hid (cmp_behind W y.1 y.2 (by omega) x)
        simp only [if_neg hx] at CB
        clear hx HH1 HH2
        go_wp2_with fail
        refine (CB _).out.mono ?_
        rintro e w1 ⟨rfl, b1⟩
        have B1 : Hid (Below w.heap.size w w1) := hb.out.trans (b1.mono hb.out.size)
        clear b1 CB
        go_wp2
        go_roundw
        case rel => exact ⟨p, m, hmp, by omega, rfl, rfl, B1, h1, G2⟩
        case measure => simp [intOf]; omega
    · obtain rfl : p = q := by omega
      have e := Lib.hid (behind_is hq h1.out (fun h => by have := h2.out p h (Nat.le_refl _); omega))
      have d1 : decide ((p : Int) < p) = false := by simp
      by_cases hpl : p < L.length
      · have d2 : decide ((p : Int) < L.length) = true := by simp; omega
        have d3 : decide (p < L.length) = true := by simp; omega
        obtain ⟨g1, c1, e1, _, _, hc⟩ := row_at HO.out (by omega)
        injection e1 with e1 e2 e3
        subst e1 e3
        obtain ⟨z1, z2⟩ := hc p hpl
        have z1 := cell_below hb.out z1
        have z2 := cell_below hb.out z2
        have hin := (lies_get HL.out p hpl).2.2
        have hx : ¬ (L[p].1 : Int) + L[p].2 ≤ x := by have := h2.out p hpl (Nat.le_refl _); omega
        clear hc e2
        generalize L[p] = y at z1 z2 hin hx
        have CB := fun W => Lib.hid (cmp_behind W y.1 y.2 (by omega) x)
        simp only [if_neg hx] at CB
        clear hx
        go_wp2_with fail
        refine (CB _).out.mono ?_
        rintro e' w1 ⟨rfl, b1⟩
        have B1 : Hid (Below w.heap.size w w1) := hb.out.trans (b1.mono hb.out.size)
        clear b1 CB
        go_wp2
        go_ret2
        exact ⟨by rw [e.out]; rfl, B1.out⟩
      · have d2 : decide ((p : Int) < L.length) = false := by simp; omega
        have d3 : decide (p < L.length) = false := by simp; omega
        go_wp2
        go_ret2
        exact ⟨by rw [e.out]; rfl, hb.out⟩

theorem behind_any (w : World) (F : Nat → Prop) (g : Nat) (a : Ar) (v : Value) (h : IsAr w F g a v) (x : Int) :
    Calls Try.prog 31 #[.pointer (some ⟨g, 0, none⟩), .int .i64 x] w fun e w' => e = .returned (.int .i64 (behindI a.holes x : Nat)) ∧ Below w.heap.size w w' := by
  obtain ⟨_, c1, _⟩ := h.cells
  have BS := Lib.hid (bsearch_any w v a.holes a.size h.ok.most h.ok.lies h.own x)
  obtain ⟨A, c, rfl⟩ := own_slice h.own
  clear h
  go_enter Try.func31, Try.ntmps31
  go_wp2_with fail
  refine BS.out.mono ?_
  rintro e w1 ⟨rfl, b1⟩
  have B1 := Lib.hid b1
  clear b1 BS
  go_wp2
  go_ret
  exact ⟨rfl, B1.out⟩
end Go.Proofs.Ythloinmnojlleaa
