/- JnL: what Open does, in plain words. -/
import Derived.Test.YtoolkamajlgcbaaJnK
set_option linter.unusedVariables false
set_option linter.unusedSimpArgs false
namespace Go.Proofs.Ytoolkamajlgcbaa
open Go.RowKit

theorem look_skip (i : Int) : ∀ (l : List Stp) (s : ByteArray), (∀ x ∈ l, x.1 ≠ i) → Dk.look i l s = s
  | [], s, _ => rfl
  | x :: l, s, h => by
    rw [Dk.look, if_neg (fun e => h x (List.mem_cons_self ..) e)]
    exact look_skip i l s (fun y hy => h y (List.mem_cons_of_mem _ hy))
theorem look_append (i : Int) : ∀ (a b : List Stp) (s : ByteArray), Dk.look i (a ++ b) s = Dk.look i b (Dk.look i a s)
  | [], b, s => rfl
  | x :: a, b, s => by rw [List.cons_append, Dk.look, Dk.look, look_append i a b]
/-- Writes that go through. -/
theorem run_writes {d : Dk} (hok : d.Ok) {l : List Stp} (hc : ∀ x ∈ l, Can d.l.length x) (h0 : ∀ x ∈ l, 0 ≤ x.1) (hr : (run d l).2 = 0) : (run d l).1.l = d.l ∧ (run d l).1.waits = d.waits ++ l := by
  obtain ⟨k, hk, he, _, h⟩ := run_shape l hok hc
  rcases h with ⟨_, rfl⟩ | ⟨h, _⟩
  · rw [List.take_length, exs_writes _ _ _ h0] at he
    injection he with h1 h2
    exact ⟨h1, h2⟩
  · rw [hr] at h; exact absurd h (by decide)
theorem read_keep {d : Dk} (hok : d.Ok) {l : List Stp} (hc : ∀ x ∈ l, Can d.l.length x) (h0 : ∀ x ∈ l, 0 ≤ x.1) (hr : (run d l).2 = 0) (hd0 : d.down = false) (hd : (run d l).1.down = false) (i : Int) (hi : ∀ x ∈ l, x.1 ≠ i) : (run d l).1.read i = d.read i := by
  obtain ⟨h1, h2⟩ := run_writes hok hc h0 hr
  have hu : (run d l).1.use i = d.use i := by unfold Dk.use; rw [hd0, hd, h1]
  unfold Dk.read
  rw [hu, h1, h2, look_append, look_skip i l _ hi]
theorem rdK_keep {d D : Dk} {p : Int} : ∀ n : Nat, (∀ i : Nat, i < n → D.read (p + (i : Nat)) = d.read (p + (i : Nat))) → rdK D p n = rdK d p n
  | 0, _ => rfl
  | n + 1, h => by rw [rdK, rdK, rdK_keep n (fun i hi => h i (by omega)), h n (by omega)]
theorem page_keep {d : Dk} (hok : d.Ok) {l : List Stp} (hc : ∀ x ∈ l, Can d.l.length x) (hr : (run d l).2 = 0) (hd0 : d.down = false) (hd : (run d l).1.down = false) (q : Nat) (hq : ∀ x ∈ l, (q : Int) + 4 ≤ x.1) : pageB (run d l).1 (q : Int) = pageB d (q : Int) := by
  unfold pageB
  rw [rdK_keep 4 (fun i hi => read_keep hok hc (fun x hx => by have := hq x hx; omega) hr hd0 hd _ (fun x hx => by have := hq x hx; omega))]
/-- The pages that a mark tells, of the first k. -/
def opL (P : Nat) (m : ByteArray) (k : Nat) : List Nat := (List.range k).filter (fun i => decide (i < P) && told m i)
def opk (P : Nat) (d : Dk) (m : ByteArray) (k : Nat) : List Stp := (opL P m k).flatMap (fun i => laid ((1 + 4 * (P + i) : Nat) : Int) (pageB d ((1 + 4 * i : Nat) : Int)))
theorem opL_yes {P : Nat} {m : ByteArray} {k : Nat} (h : told m k = true) (hk : k < P) : opL P m (k + 1) = opL P m k ++ [k] := by
  unfold opL
  rw [List.range_succ, List.filter_append]
  simp [h, hk]
theorem opL_no {P : Nat} {m : ByteArray} {k : Nat} (h : told m k = false ∨ P ≤ k) : opL P m (k + 1) = opL P m k := by
  unfold opL
  rw [List.range_succ, List.filter_append]
  rcases h with h | h
  · simp [h]
  · have : ¬ k < P := by omega
    simp [this]
theorem opk_yes {P : Nat} {d : Dk} {m : ByteArray} {k : Nat} (h : told m k = true) (hk : k < P) : opk P d m (k + 1) = opk P d m k ++ laid ((1 + 4 * (P + k) : Nat) : Int) (pageB d ((1 + 4 * k : Nat) : Int)) := by
  unfold opk
  rw [opL_yes h hk, List.flatMap_append]
  simp
theorem opk_no {P : Nat} {d : Dk} {m : ByteArray} {k : Nat} (h : told m k = false ∨ P ≤ k) : opk P d m (k + 1) = opk P d m k := by unfold opk; rw [opL_no h]
theorem opL_mem {P : Nat} {m : ByteArray} {k i : Nat} (h : i ∈ opL P m k) : i < k ∧ i < P ∧ told m i = true := by
  unfold opL at h
  rw [List.mem_filter] at h
  simp at h
  exact h
theorem opL_len (P : Nat) (m : ByteArray) (k : Nat) : (opL P m k).length ≤ k := by
  have := List.length_filter_le (fun i => decide (i < P) && told m i) (List.range k)
  rwa [List.length_range] at this
theorem laid_len (p : Int) (s : ByteArray) : (laid p s).length = 4 := layK_len p s 4
theorem flat_len {α : Type} (l : List α) (f : α → List Stp) (hf : ∀ x, (f x).length = 4) : (l.flatMap f).length = 4 * l.length := by
  induction l with
  | nil => rfl
  | cons x l ih => rw [List.flatMap_cons, List.length_append, ih, hf, List.length_cons]; omega
theorem opk_len (P : Nat) (d : Dk) (m : ByteArray) (k : Nat) : (opk P d m k).length ≤ 4 * k := by
  unfold opk
  rw [flat_len _ _ (fun x => laid_len _ _)]
  have := opL_len P m k
  omega
theorem layK_mem {p : Int} {s : ByteArray} : ∀ {n : Nat} {x : Stp}, x ∈ layK p s n → ∃ j : Nat, j < n ∧ x = (p + (j : Nat), cut4 s j)
  | 0, x, h => by cases h
  | n + 1, x, h => by
    rw [layK, List.mem_append] at h
    rcases h with h | h
    · obtain ⟨j, hj, e⟩ := layK_mem h
      exact ⟨j, by omega, e⟩
    · exact ⟨n, by omega, by simpa using h⟩
/-- A disk that a journal of P pages lies on, up. -/
structure Sto (P : Nat) (d : Dk) : Prop where
  ok : d.Ok
  sz : Sz d
  big : 8 * P + 1 ≤ d.l.length
  up : d.down = false
theorem Sto.page {P : Nat} {d : Dk} (h : Sto P d) (p : Nat) (hp : p + 4 ≤ d.l.length) : (pageB d (p : Int)).size = 1024 :=
  page_size h.sz (fun i hi => by unfold Dk.use; rw [if_neg (by rw [h.up]; decide), if_neg (by omega)])
theorem opk_mem {P : Nat} {d : Dk} {m : ByteArray} {k : Nat} (h : Sto P d) {x : Stp} (hx : x ∈ opk P d m k) : Can d.l.length x ∧ 1 + 4 * (P : Int) ≤ x.1 := by
  unfold opk at hx
  rw [List.mem_flatMap] at hx
  obtain ⟨i, hi, hx⟩ := hx
  obtain ⟨_, hP, _⟩ := opL_mem hi
  obtain ⟨j, hj, rfl⟩ := layK_mem hx
  have := h.big
  refine ⟨.inr ⟨by simp only; omega, ?_⟩, by simp only; omega⟩
  exact cut4_size (h.page _ (by omega)) hj
theorem opk_page {P : Nat} {d : Dk} {m : ByteArray} {k : Nat} (h : Sto P d) (hr : (run d (opk P d m k)).2 = 0) (hd : (run d (opk P d m k)).1.down = false) (i : Nat) (hi : i < P) : pageB (run d (opk P d m k)).1 ((1 + 4 * i : Nat) : Int) = pageB d ((1 + 4 * i : Nat) : Int) :=
  page_keep h.ok (fun x hx => (opk_mem h hx).1) hr h.up hd _ (fun x hx => by have := (opk_mem h hx).2; omega)
theorem run_len {d : Dk} (hok : d.Ok) {l : List Stp} (hc : ∀ x ∈ l, Can d.l.length x) : (run d l).1.l.length = d.l.length := by
  obtain ⟨k, hk, he, hl, h⟩ := run_shape l hok hc
  exact hl
/-- All that Open does. -/
def openK (P : Nat) (d : Dk) (m : ByteArray) : List Stp := if opL P m 128 = [] then [] else opk P d m 128 ++ [flushS] ++ ([(0, Dk.sector0)] ++ [flushS])
theorem opk_more (P : Nat) (d : Dk) (m : ByteArray) : ∀ (n k : Nat), k ≤ n → ∃ r, opk P d m n = opk P d m k ++ r
  | 0, k, h => ⟨[], by rw [show k = 0 by omega, List.append_nil]⟩
  | n + 1, k, h => by
    by_cases e : k = n + 1
    · subst e; exact ⟨[], by simp⟩
    · obtain ⟨r, hr⟩ := opk_more P d m n k (by omega)
      by_cases c : told m n = true ∧ n < P
      · exact ⟨r ++ laid ((1 + 4 * (P + n) : Nat) : Int) (pageB d ((1 + 4 * n : Nat) : Int)), by rw [opk_yes c.1 c.2, hr, List.append_assoc]⟩
      · rw [opk_no (by cases ht : told m n with | false => exact .inl rfl | true => exact .inr (by have : ¬ n < P := fun hn => c ⟨ht, hn⟩; omega))]
        exact ⟨r, hr⟩
theorem open_stop {P : Nat} {d : Dk} {m : ByteArray} {k : Nat} (hk : k < 128) (ht : told m k = true) (hP : k < P) (h : (run d (opk P d m (k + 1))).2 ≠ 0) : run d (openK P d m) = run d (opk P d m (k + 1)) := by
  have hne : opL P m 128 ≠ [] := fun e => by
    have : k ∈ opL P m 128 := by
      unfold opL
      rw [List.mem_filter]
      simp [ht, hP, hk]
    rw [e] at this
    cases this
  obtain ⟨r, hr⟩ := opk_more P d m 128 (k + 1) (by omega)
  rw [openK, if_neg hne, hr, List.append_assoc, List.append_assoc, run_stop h]
end Go.Proofs.Ytoolkamajlgcbaa
