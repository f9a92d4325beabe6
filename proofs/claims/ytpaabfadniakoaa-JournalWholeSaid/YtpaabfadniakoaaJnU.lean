/- JnU: a store at rest, and what commits leave of it. -/
import Derived.Test.YtpaabfadniakoaaJnT
set_option linter.unusedVariables false
set_option linter.unusedSimpArgs false
namespace Go.Proofs.Ytpaabfadniakoaa
open Go.RowKit

/-- A store at rest: no fuse, nothing waits, the mark tells nothing. -/
structure Rest (P : Nat) (d : Dk) : Prop where
  calm : Calm d
  sz : Sz d
  len : d.l.length = 8 * P + 1
  waits : d.waits = []
  mark : d.l[0]? = some Dk.sector0
theorem Rest.sto {P : Nat} {d : Dk} (h : Rest P d) : Sto P d := ⟨h.calm.ok, h.sz, by rw [h.len]; exact Nat.le_refl _, h.calm.up⟩
theorem rest_new {P : Nat} (hP : P ≤ 128) : Rest P (Dk.new (8 * P + 1)) := ⟨calm_new (by omega) (by omega), sz_new _, by simp [Dk.new], rfl, by simp [Dk.new]⟩
theorem exs_ends (s : List ByteArray × List Stp) (a : List Stp) : (exs s (a ++ [flushS])).2 = [] := by rw [exs_append, exs_flush]
theorem exs_mark (l : List ByteArray) (z : ByteArray) : exs (l, []) ([(0, z)] ++ [flushS]) = (l.set 0 z, []) := by
  have h0 : ∀ x ∈ ([(0, z)] : List Stp), 0 ≤ x.1 := fun x hx => by
    obtain rfl : x = (0, z) := by simpa using hx
    exact Int.le_refl _
  rw [exs_append, exs_writes l [(0, z)] [] h0, exs_flush]
  rfl
theorem exs_commit (P : Nat) (M : List Chg) (s : List ByteArray × List Stp) : ∃ l' : List ByteArray, exs s (commitK P M) = (l'.set 0 Dk.sector0, []) := by
  unfold commitK
  rw [exs_append]
  have h2 : (exs s (stepsA M ++ [flushS] ++ ([(0, mkB M)] ++ [flushS]) ++ (stepsB P M ++ [flushS]))).2 = [] := by
    rw [← List.append_assoc _ (stepsB P M) [flushS]]
    exact exs_ends _ _
  generalize exs s (stepsA M ++ [flushS] ++ ([(0, mkB M)] ++ [flushS]) ++ (stepsB P M ++ [flushS])) = t at h2
  obtain ⟨l', w'⟩ := t
  obtain rfl : w' = [] := h2
  exact ⟨l', exs_mark l' _⟩
theorem commit_mem {P : Nat} {l : List (Int × ByteArray)} (h : whyE P l = 0) {M : List Chg} (hp : (M.map upc).Perm l) : ∀ c ∈ M, c.1 < P ∧ c.2.size = 1024 := fun c hc => by
  have := why_each h (upc c) (hp.mem_iff.1 (List.mem_map_of_mem hc))
  unfold upc at this
  simp only at this
  omega
theorem rest_run {P : Nat} {d : Dk} (hr : Rest P d) {M : List Chg} (hM : ∀ c ∈ M, c.1 < P ∧ c.2.size = 1024) : (run d (commitK P M)).2 = 0 ∧ Rest P (run d (commitK P M)).1 ∧ (run d (commitK P M)).1.writes = d.writes + (8 * M.length + 2 : Nat) := by
  have hc := commitK_can (P := P) hM (Nat.le_of_eq hr.len.symm)
  obtain ⟨k1, k2, k3, k4⟩ := run_calm (commitK P M) hr.calm hc
  rw [commitK_nwr] at k3
  obtain ⟨k, hk, he, hl, h⟩ := run_shape (commitK P M) hr.calm.ok hc
  rcases h with ⟨_, rfl⟩ | ⟨h, _⟩
  · rw [List.take_length] at he
    obtain ⟨l', hl'⟩ := exs_commit P M (d.l, d.waits)
    rw [hl'] at he
    injection he with e1 e2
    refine ⟨k1, ⟨k2, sz_run _ hr.sz, by rw [k4, hr.len], e2, ?_⟩, k3⟩
    have : (run d (commitK P M)).1.l.length = l'.length := by rw [e1, List.length_set]
    rw [k4, hr.len] at this
    rw [e1, List.getElem?_set_self (by omega)]
  · rw [k1] at h; exact absurd h (by decide)
theorem rest_coto {P : Nat} {d : Dk} (hr : Rest P d) {l : List (Int × ByteArray)} {x : Int} {d' : Dk} (h : CoTo P d l x d') : Rest P d' ∧ d'.writes ≤ d.writes + (8 * l.length + 2 : Nat) := by
  cases h with
  | why h => exact ⟨hr, by omega⟩
  | down h hd => exact ⟨hr, by omega⟩
  | none h hd hl => exact ⟨hr, by omega⟩
  | run h hd hl M hM hp =>
    obtain ⟨_, k2, k3⟩ := rest_run hr (commit_mem h hp)
    have hlen : M.length = l.length := by rw [← hp.length_eq, List.length_map]
    refine ⟨k2, ?_⟩
    rw [k3, hlen]
    omega
/-- Its mark is read as nothing told. -/
theorem rest_read0 {P : Nat} {d : Dk} (hr : Rest P d) : (d.read 0) = (Dk.sector0, 0) := by
  have hu : d.use 0 = 0 := by unfold Dk.use; rw [if_neg (by rw [hr.calm.up]; decide), if_neg (by have := hr.len; omega)]
  unfold Dk.read
  rw [if_pos hu, hr.waits, Dk.look, List.getD_eq_getElem?_getD, show (0 : Int).toNat = 0 from rfl, hr.mark]
  rfl
theorem rest_open {P : Nat} {d : Dk} (hr : Rest P d) : run d (openK P d (d.read 0).1) = (d, 0) := by rw [rest_read0 hr, openK_zero]; rfl
/-- It fails, and starts. -/
theorem rest_again {P : Nat} {d : Dk} (hr : Rest P d) (p : List Bool) : (d.fail p).startE = 0 ∧ Rest P (d.fail p).start ∧ (d.fail p).start.l = d.l := by
  have e : (d.fail p).l = d.l := by
    show Dk.settle _ 0 d.waits d.l = d.l
    rw [hr.waits]
    rfl
  have e0 : (d.fail p).startE = 0 := by unfold Dk.startE; rw [if_pos ⟨rfl, rfl⟩]
  have e1 : (d.fail p).start = { d.fail p with down := false } := by unfold Dk.start; rw [if_pos e0]
  refine ⟨e0, ?_, by rw [e1]; exact e⟩
  have ok := (hr.calm.ok.fail p).start
  have sz := sz_start (sz_fail hr.sz p)
  rw [e1] at ok sz ⊢
  exact ⟨⟨ok, rfl, rfl⟩, sz, by show (d.fail p).l.length = _; rw [e]; exact hr.len, rfl, by show (d.fail p).l[0]? = _; rw [e]; exact hr.mark⟩
theorem page_same {d e : Dk} (hl : d.l = e.l) (hw : d.waits = e.waits) (hd : d.down = e.down) (p : Int) : pageB d p = pageB e p := by
  have hu : ∀ i, d.use i = e.use i := fun i => by unfold Dk.use; rw [hl, hd]
  have : ∀ n, rdK d p n = rdK e p n := fun n => by
    induction n with
    | zero => rfl
    | succ n ih =>
      rw [rdK, rdK, ih]
      unfold Dk.read
      rw [hu, hl, hw]
  unfold pageB
  rw [this]
end Go.Proofs.Ytpaabfadniakoaa
