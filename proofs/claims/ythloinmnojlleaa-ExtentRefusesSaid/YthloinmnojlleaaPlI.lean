/- PlI: an area and the document's: plain laws. -/
import Derived.Test.YthloinmnojlleaaPlF
import Derived.Test.YthloinmnojlleaaPlC
set_option linter.unusedVariables false
set_option linter.unusedSimpArgs false
namespace Go.Proofs.Ythloinmnojlleaa
open Go.RowKit

/-- The document's bits are the area's. -/
structure Like (a : Ar) (l : List Bool) (nx : Nat) : Prop where
  ok : a.Ok
  len : l.length = a.size
  bit : ∀ i, i < a.size → (l.getD i false = true ↔ inR i a.holes)
  next : nx = a.next
theorem getD_any {l : List Bool} {i : Nat} (h : i < l.length) (d d' : Bool) : l.getD i d = l.getD i d' := by simp [h]
theorem like_new {n : Nat} (h1 : 1 ≤ n) (h2 : n ≤ 1048576) : Like (Ar.new n) (List.replicate n true) 0 :=
  ⟨Ar.new_ok h1 h2, by simp [Ar.new], fun i hi => by
    have hi : i < n := hi
    constructor
    · intro _
      exact ⟨(0, n), by simp [Ar.new], Nat.zero_le _, by simpa using hi⟩
    · intro _
      simp [hi], rfl⟩
theorem like_runs {a : Ar} {l : List Bool} {nx : Nat} (h : Like a l nx) : runsA true l = a.holes := by
  unfold runsA
  rw [h.len]
  exact runs_eq h.ok.lies (fun i hi => h.bit i hi)
theorem like_taken {a : Ar} {l : List Bool} {nx : Nat} (h : Like a l nx) : runsA false l = takenL a.size 0 a.holes := by
  unfold runsA
  rw [h.len]
  refine runs_eq (lies_taken h.ok.lies (Nat.le_refl _) (fun h => by omega)) (fun i hi => ?_)
  rw [inR_taken h.ok.lies (Nat.le_refl _) (Nat.zero_le _) hi, ← h.bit i hi]
  rw [getD_any (by rw [h.len]; exact hi) (!false) false]
  cases l.getD i false <;> simp
/-- Bits set in an area. -/
theorem like_set {a a' : Ar} {l : List Bool} {nx nx' f z : Nat} {b : Bool} (h : Like a l nx) (hok : a'.Ok) (hsz : a'.size = a.size) (hb : ∀ i, i < a.size → (inR i a'.holes ↔ if f ≤ i ∧ i < f + z then b = true else inR i a.holes)) (hn : nx' = a'.next) : Like a' (setK b l f z) nx' :=
  ⟨hok, by rw [setK_length, h.len, hsz], fun i hi => by
    rw [hsz] at hi
    rw [setK_getD (by rw [h.len]; exact hi), hb i hi]
    split
    · exact Iff.rfl
    · exact h.bit i hi, hn⟩
theorem like_alloc {a : Ar} {l : List Bool} {nx m r j : Nat} (h : Like a l nx) (hm : 1 ≤ m) (hc : choose a.holes m (bet r a.next) a.holes.length = some j) :
    Like { size := a.size, holes := cutL a.holes j (a.holes.getD j (0, 0)) (a.holes.getD j (0, 0)).1 m, next := if r = 3 then (a.holes.getD j (0, 0)).1 + m else a.next } (setK false l (a.holes.getD j (0, 0)).1 m) (if r = 3 then (a.holes.getD j (0, 0)).1 + m else nx) ∧ (a.holes.getD j (0, 0)).1 + m ≤ a.size := by
  obtain ⟨hj, hy⟩ := choose_lt hc
  rw [getD_get hj] at hy ⊢
  have hin := lies_get h.ok.lies j hj
  refine ⟨like_set h ⟨h.ok.pos, h.ok.most, lies_cut j hj a.holes[j].1 m h.ok.lies (Nat.le_refl _) hm (by omega), ?_⟩ rfl (fun i hi => ?_) (by rw [h.next]), by omega⟩
  · show (if r = 3 then a.holes[j].1 + m else a.next) ≤ a.size
    have := h.ok.next
    split <;> omega
  · rw [inR_cut h.ok.lies hj (Nat.le_refl _) (by omega)]
    split
    · rename_i hh
      constructor
      · intro h'; exact absurd hh h'.2
      · intro h'; cases h'
    · rename_i hh
      exact ⟨fun h' => h'.1, fun h' => ⟨h', hh⟩⟩
theorem inR_one {N : Nat} {L : List (Nat × Nat)} (hl : Lies N 0 L) {f z : Nat} (hz : 1 ≤ z) (h : ∀ i, f ≤ i → i < f + z → inR i L) : ∃ p, ∃ hp : p < L.length, L[p].1 ≤ f ∧ f + z ≤ L[p].1 + L[p].2 := by
  obtain ⟨x, hx, h1, h2⟩ := h f (Nat.le_refl _) (by omega)
  obtain ⟨p, hp, rfl⟩ := List.mem_iff_getElem.1 hx
  refine ⟨p, hp, h1, ?_⟩
  by_cases he : f + z ≤ L[p].1 + L[p].2
  · exact he
  · exfalso
    obtain ⟨y, hy, h3, h4⟩ := h (L[p].1 + L[p].2) (by omega) (by omega)
    obtain ⟨q, hq, rfl⟩ := List.mem_iff_getElem.1 hy
    rcases Nat.lt_trichotomy p q with hpq | rfl | hpq
    · have := lies_mono hl p q hpq hq; omega
    · omega
    · have := lies_mono hl q p hpq hp; omega
/-- What the document answers for a change. -/
def chgE (l : List Bool) (f z : Int) (b : Bool) : Int := if rwithin l.length f z = false then 9 else if allK (!b) l f.toNat z.toNat = true then 0 else 8
theorem within_nat {a : Ar} {f z : Int} (h : a.within f z = true) : ∃ fn zn : Nat, f = fn ∧ z = zn ∧ 1 ≤ zn ∧ fn + zn ≤ a.size := by
  obtain ⟨q1, q2, q3, q4⟩ := within_iff h
  obtain ⟨fn, rfl⟩ := Int.eq_ofNat_of_zero_le q2
  obtain ⟨zn, rfl⟩ := Int.eq_ofNat_of_zero_le (show 0 ≤ z by omega)
  exact ⟨fn, zn, rfl, rfl, by omega, by omega⟩
theorem all_true {a : Ar} {l : List Bool} {nx f z : Nat} (h : Like a l nx) (hz : f + z ≤ a.size) : allK true l f z = true ↔ ∀ i, f ≤ i → i < f + z → inR i a.holes := by
  rw [allK_iff]
  constructor
  · intro hh i h1 h2
    exact (h.bit i (by omega)).1 (by rw [getD_any (by rw [h.len]; omega) false (!true)]; exact hh i h1 h2)
  · intro hh i h1 h2
    rw [getD_any (by rw [h.len]; omega) (!true) false]
    exact (h.bit i (by omega)).2 (hh i h1 h2)
theorem all_false {a : Ar} {l : List Bool} {nx f z : Nat} (h : Like a l nx) (hz : f + z ≤ a.size) : allK false l f z = true ↔ ∀ i, f ≤ i → i < f + z → ¬ inR i a.holes := by
  rw [allK_iff]
  constructor
  · intro hh i h1 h2 hi
    have h3 := (h.bit i (by omega)).2 hi
    have h4 := hh i h1 h2
    rw [getD_any (by rw [h.len]; omega) (!false) false, h3] at h4
    cases h4
  · intro hh i h1 h2
    rw [getD_any (by rw [h.len]; omega) (!false) false]
    have := fun e => hh i h1 h2 ((h.bit i (by omega)).1 e)
    cases hx : l.getD i false with
    | false => rfl
    | true => exact absurd hx this
theorem behind_covers {N : Nat} {L : List (Nat × Nat)} (hl : Lies N 0 L) {f p : Nat} (hp : p < L.length) (h1 : L[p].1 ≤ f) (h2 : f < L[p].1 + L[p].2) : behindI L (f : Int) = p :=
  behind_is (by omega) (fun k hk hkp => by have := lies_mono hl k p hkp hp; omega) (fun _ => by omega)
theorem take_like {a : Ar} {l : List Bool} {nx : Nat} (h : Like a l nx) (f z : Int) : a.takeE f z = chgE l f z false := by
  unfold Ar.takeE chgE
  rw [h.len, ← rwithin_eq]
  cases hw : a.within f z with
  | false => rfl
  | true =>
    obtain ⟨fn, zn, rfl, rfl, hz1, hz2⟩ := within_nat hw
    simp only [Bool.true_eq_false, if_false, Int.toNat_natCast, Bool.not_false]
    have hI := behind_le a.holes (fn : Int)
    by_cases hc : behindI a.holes (fn : Int) < a.holes.length ∧ ((a.holes.getD (behindI a.holes (fn : Int)) (0, 0)).1 : Int) ≤ fn ∧ (fn : Int) + zn ≤ ((a.holes.getD (behindI a.holes (fn : Int)) (0, 0)).1 : Int) + (a.holes.getD (behindI a.holes (fn : Int)) (0, 0)).2
    · rw [if_pos hc, if_pos]
      rw [all_true h hz2]
      obtain ⟨c1, c2, c3⟩ := hc
      rw [getD_get c1] at c2 c3
      exact fun i h1 h2 => ⟨_, List.getElem_mem c1, by omega, by omega⟩
    · rw [if_neg hc, if_neg]
      intro hall
      rw [all_true h hz2] at hall
      obtain ⟨p, hp, p1, p2⟩ := inR_one h.ok.lies hz1 hall
      have hb := behind_covers h.ok.lies hp p1 (by omega)
      apply hc
      rw [hb, getD_get hp]
      exact ⟨hp, by omega, by omega⟩
theorem give_like {a : Ar} {l : List Bool} {nx : Nat} (h : Like a l nx) (f z : Int) : a.giveE f z = chgE l f z true := by
  unfold Ar.giveE chgE
  rw [h.len, ← rwithin_eq]
  cases hw : a.within f z with
  | false => rfl
  | true =>
    obtain ⟨fn, zn, rfl, rfl, hz1, hz2⟩ := within_nat hw
    simp only [Bool.true_eq_false, if_false, Int.toNat_natCast, Bool.not_true]
    by_cases hc : behindI a.holes (fn : Int) < a.holes.length ∧ ((a.holes.getD (behindI a.holes (fn : Int)) (0, 0)).1 : Int) < fn + zn
    · rw [if_pos hc, if_neg]
      intro hall
      rw [all_false h hz2] at hall
      obtain ⟨c1, c2⟩ := hc
      rw [getD_get c1] at c2
      have c3 := behind_ge c1
      have c4 := lies_get h.ok.lies _ c1
      by_cases hlt : fn ≤ a.holes[behindI a.holes (fn : Int)].1
      · exact hall _ hlt (by omega) ⟨_, List.getElem_mem c1, Nat.le_refl _, by omega⟩
      · exact hall fn (Nat.le_refl _) (by omega) ⟨_, List.getElem_mem c1, by omega, by omega⟩
    · rw [if_neg hc, if_pos]
      rw [all_false h hz2]
      rintro i h1 h2 ⟨x, hx, h3, h4⟩
      obtain ⟨p, hp, rfl⟩ := List.mem_iff_getElem.1 hx
      by_cases hpb : p < behindI a.holes (fn : Int)
      · have := behind_lt hp hpb; omega
      · have hle : behindI a.holes (fn : Int) ≤ p := by omega
        apply hc
        have hbl : behindI a.holes (fn : Int) < a.holes.length := by omega
        rw [getD_get hbl]
        refine ⟨hbl, ?_⟩
        by_cases he : behindI a.holes (fn : Int) = p
        · simp only [he]; omega
        · have := lies_mono h.ok.lies _ p (show behindI a.holes (fn : Int) < p by omega) hp
          omega
theorem like_give {a : Ar} {l : List Bool} {nx : Nat} (h : Like a l nx) {f z : Int} (he : a.giveE f z = 0) : Like { a with holes := giveL a.holes (behindI a.holes f) f.toNat z.toNat } (setK true l f.toNat z.toNat) nx ∧ f.toNat + z.toNat ≤ a.size := by
  have he' := he
  unfold Ar.giveE at he'
  cases hw : a.within f z with
  | false => rw [hw] at he'; simp at he'
  | true =>
    obtain ⟨fn, zn, rfl, rfl, hz1, hz2⟩ := within_nat hw
    rw [hw] at he'
    simp only [Bool.true_eq_false, if_false] at he'
    have hc : ¬ (behindI a.holes (fn : Int) < a.holes.length ∧ ((a.holes.getD (behindI a.holes (fn : Int)) (0, 0)).1 : Int) < fn + zn) := by
      intro hc
      rw [if_pos hc] at he'
      cases he'
    simp only [Int.toNat_natCast]
    refine ⟨like_set h ⟨h.ok.pos, h.ok.most, lies_give h.ok.lies hz1 hz2 (fun hlt => ?_), h.ok.next⟩ rfl (fun i hi => ?_) h.next, hz2⟩
    · have h9 : ¬ ((a.holes[behindI a.holes (fn : Int)].1 : Int) < fn + zn) := fun e => hc ⟨hlt, by rw [getD_get hlt]; exact e⟩
      omega
    · rw [inR_give (behind_le _ _)]
      split
      · rename_i hh; exact ⟨fun _ => rfl, fun _ => .inr hh⟩
      · rename_i hh; exact ⟨fun h' => h'.resolve_right hh, .inl⟩
theorem like_take {a : Ar} {l : List Bool} {nx : Nat} (h : Like a l nx) {f z : Int} (he : a.takeE f z = 0) : Like { a with holes := cutL a.holes (behindI a.holes f) (a.holes.getD (behindI a.holes f) (0, 0)) f.toNat z.toNat } (setK false l f.toNat z.toNat) nx ∧ f.toNat + z.toNat ≤ a.size := by
  have he' := he
  unfold Ar.takeE at he'
  cases hw : a.within f z with
  | false => rw [hw] at he'; simp at he'
  | true =>
    obtain ⟨fn, zn, rfl, rfl, hz1, hz2⟩ := within_nat hw
    rw [hw] at he'
    simp only [Bool.true_eq_false, if_false] at he'
    have hc : behindI a.holes (fn : Int) < a.holes.length ∧ ((a.holes.getD (behindI a.holes (fn : Int)) (0, 0)).1 : Int) ≤ fn ∧ (fn : Int) + zn ≤ ((a.holes.getD (behindI a.holes (fn : Int)) (0, 0)).1 : Int) + (a.holes.getD (behindI a.holes (fn : Int)) (0, 0)).2 := by
      by_cases hc : behindI a.holes (fn : Int) < a.holes.length ∧ ((a.holes.getD (behindI a.holes (fn : Int)) (0, 0)).1 : Int) ≤ fn ∧ (fn : Int) + zn ≤ ((a.holes.getD (behindI a.holes (fn : Int)) (0, 0)).1 : Int) + (a.holes.getD (behindI a.holes (fn : Int)) (0, 0)).2
      · exact hc
      · rw [if_neg hc] at he'
        cases he'
    obtain ⟨c1, c2, c3⟩ := hc
    rw [getD_get c1] at c2 c3 ⊢
    simp only [Int.toNat_natCast]
    refine ⟨like_set h ⟨h.ok.pos, h.ok.most, lies_cut _ c1 fn zn h.ok.lies (by omega) hz1 (by omega), h.ok.next⟩ rfl (fun i hi => ?_) h.next, hz2⟩
    rw [inR_cut h.ok.lies c1 (by omega) (by omega)]
    split
    · rename_i hh
      exact ⟨fun h' => absurd hh h'.2, fun h' => by cases h'⟩
    · rename_i hh
      exact ⟨fun h' => h'.1, fun h' => ⟨h', hh⟩⟩
end Go.Proofs.Ythloinmnojlleaa
