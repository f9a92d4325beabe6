/- JnQp: disks without a fuse, new disks: in plain words. -/
import Derived.Test.YtoolkamajlgcbaaJnL
set_option linter.unusedVariables false
set_option linter.unusedSimpArgs false
namespace Go.Proofs.Ytoolkamajlgcbaa
open Go.RowKit
/-- How many writes there are. -/
def nwr (l : List Stp) : Nat := (l.filter (fun x => decide (0 ≤ x.1))).length
theorem nwr_append (a b : List Stp) : nwr (a ++ b) = nwr a + nwr b := by unfold nwr; rw [List.filter_append, List.length_append]
structure Calm (d : Dk) : Prop where
  ok : d.Ok
  fuse : d.fuse = 0
  up : d.down = false
theorem step_calm {d : Dk} (h : Calm d) {x : Stp} (hx : Can d.l.length x) : stepE d x = 0 ∧ Calm (step d x) ∧ (step d x).writes = d.writes + (nwr [x] : Nat) ∧ (step d x).l.length = d.l.length := by
  rcases step_shape h.ok hx with ⟨h1, _, _⟩ | ⟨h1, h2, h3, h4, h5⟩
  · rw [h.up] at h1; exact absurd h1 (by decide)
  · refine ⟨h2, ?_, ?_, h4⟩
    · refine ⟨step_ok h.ok x, ?_, ?_⟩
      · unfold step
        split
        · unfold Dk.flush; split; exact h.fuse; exact h.fuse
        · unfold Dk.write; split
          · show (if 0 < d.fuse then d.fuse - 1 else d.fuse) = 0
            rw [h.fuse]; rfl
          · exact h.fuse
      · unfold step
        split
        · unfold Dk.flush; split; exact h.up; exact h.up
        · unfold Dk.write; split
          · show (if 0 < d.fuse then (d.fuse - 1 == 0) else d.down) = false
            rw [h.fuse, h.up]; rfl
          · exact h.up
    · unfold step stepE at *
      by_cases h0 : x.1 < 0
      · rw [if_pos h0]
        have : nwr [x] = 0 := by unfold nwr; rw [List.filter_cons_of_neg (by simpa using h0)]; rfl
        rw [this]
        unfold Dk.flush; split
        · show d.writes = _; omega
        · omega
      · rw [if_neg h0] at h2 ⊢
        have : nwr [x] = 1 := by unfold nwr; rw [List.filter_cons_of_pos (by simp; omega)]; rfl
        rw [this]
        unfold Dk.write
        rw [if_pos h2]
        rfl
theorem run_calm : ∀ (l : List Stp) {d : Dk}, Calm d → (∀ x ∈ l, Can d.l.length x) → (run d l).2 = 0 ∧ Calm (run d l).1 ∧ (run d l).1.writes = d.writes + (nwr l : Nat) ∧ (run d l).1.l.length = d.l.length
  | [], d, h, _ => ⟨rfl, h, by show d.writes = d.writes + ((0 : Nat) : Int); omega, rfl⟩
  | x :: l, d, h, hc => by
    obtain ⟨h1, h2, h3, h4⟩ := step_calm h (hc x (List.mem_cons_self ..))
    rw [run_cons, if_pos h1]
    obtain ⟨k1, k2, k3, k4⟩ := run_calm l h2 (fun y hy => by rw [h4]; exact hc y (List.mem_cons_of_mem _ hy))
    refine ⟨k1, k2, ?_, by rw [k4, h4]⟩
    rw [k3, h3, show x :: l = [x] ++ l from rfl, nwr_append]
    omega
theorem laid_can {n : Nat} {q : Nat} {s : ByteArray} (hs : s.size = 1024) (hq : q + 4 ≤ n) : ∀ x ∈ laid (q : Int) s, Can n x := fun x hx => by
  obtain ⟨j, hj, rfl⟩ := layK_mem hx
  exact .inr ⟨by simp only; omega, cut4_size hs hj⟩
theorem laid_nwr (q : Nat) (s : ByteArray) : nwr (laid (q : Int) s) = 4 := by
  unfold nwr
  rw [List.filter_eq_self.2, laid_len]
  intro x hx
  obtain ⟨j, hj, rfl⟩ := layK_mem hx
  simp only [decide_eq_true_eq]
  omega
theorem flushS_nwr : nwr [flushS] = 0 := rfl
theorem zero_nwr (s : ByteArray) : nwr [(0, s)] = 1 := rfl
theorem calm_new {n : Nat} (h1 : 1 ≤ n) (h2 : n ≤ 2048) : Calm (Dk.new n) := ⟨Dk.Ok.new n h1 h2, rfl, rfl⟩
theorem read_new {n : Nat} {i : Int} (h0 : 0 ≤ i) (h1 : i < (n : Int)) : (Dk.new n).read i = (Dk.sector0, 0) := by
  have hu : (Dk.new n).use i = 0 := by unfold Dk.use; rw [if_neg (show ¬ (Dk.new n).down = true from fun h => by cases h), if_neg (by simp [Dk.new]; omega)]
  unfold Dk.read
  rw [if_pos hu]
  show (Dk.look i [] ((List.replicate n Dk.sector0).getD i.toNat ByteArray.empty), (0 : Int)) = _
  rw [Dk.look, List.getD_eq_getElem?_getD, List.getElem?_eq_getElem (by simp; omega), List.getElem_replicate]
  rfl
theorem told_zero (i : Nat) : told Dk.sector0 i = false := by
  unfold told
  have : (Dk.sector0.data.toList.getD (i / 8) 0) = 0 := by
    show ((List.replicate 256 (0 : UInt8)).getD (i / 8) 0) = 0
    rw [List.getD_eq_getElem?_getD, List.getElem?_replicate]
    split <;> rfl
  rw [this]
  simp
theorem opL_zero (P k : Nat) : opL P Dk.sector0 k = [] := by
  unfold opL
  rw [List.filter_eq_nil_iff]
  intro i _
  rw [told_zero, Bool.and_false]
  decide
theorem openK_zero (P : Nat) (d : Dk) : openK P d Dk.sector0 = [] := by unfold openK; rw [if_pos (opL_zero P 128)]
theorem page_new {n p : Nat} (hp : p + 4 ≤ n) : pageB (Dk.new n) (p : Int) = Dk.rep 1024 0 := by
  have h : ∀ k : Nat, k ≤ 4 → rdK (Dk.new n) p k = List.replicate (256 * k) 0
    := fun k => by
    induction k with
    | zero => intro _; rfl
    | succ k ih =>
      intro hk
      rw [rdK, ih (by omega), read_new (by omega) (by omega)]
      show List.replicate (256 * k) 0 ++ List.replicate 256 (0 : UInt8) = _
      rw [List.replicate_append_replicate, show 256 * k + 256 = 256 * (k + 1) by omega]
  unfold pageB
  rw [h 4 (Nat.le_refl _)]
  rfl
theorem sto_new {P n : Nat} (h1 : 1 ≤ n) (h2 : n ≤ 2048) (h : 8 * P + 1 ≤ n) : Sto P (Dk.new n) := ⟨Dk.Ok.new n h1 h2, sz_new n, by simpa [Dk.new] using h, rfl⟩
theorem perm_one {α : Type} {l : List α} {x : α} (h : l.Perm [x]) : l = [x] := List.perm_singleton.1 h
end Go.Proofs.Ytoolkamajlgcbaa
