/- JdP: plain laws of the disk (written by gen_jn.py) -/
import Derived.Test.YtoolkamajlgcbaaJdB
set_option linter.unusedVariables false
set_option linter.unusedSimpArgs false
namespace Go.Proofs.Ytoolkamajlgcbaa
open Go.RowKit


structure Upp (d : Dk) : Prop where
  down : d.down = false
  fuse : d.fuse = 0
theorem Upp.write {d : Dk} (h : Upp d) (i : Int) (s : ByteArray) : Upp (d.write i s) := by
  unfold Dk.write
  split
  · have : ¬ 0 < d.fuse := by rw [h.fuse]; decide
    exact ⟨by simp [Dk.wrote, this, h.down], by simp [Dk.wrote, this, h.fuse]⟩
  · exact h
theorem Upp.flush {d : Dk} (h : Upp d) : Upp d.flush := by unfold Dk.flush; split; exact ⟨h.down, h.fuse⟩; exact h
theorem fail_start (d : Dk) (p : List Bool) : (d.fail p).startE = 0 ∧ (d.fail p).start = { d.fail p with down := false } := by
  have e1 : (d.fail p).startE = 0 := rfl
  exact ⟨e1, by unfold Dk.start; rw [e1]; rfl⟩
theorem Upp.again (d : Dk) (p : List Bool) : Upp (d.fail p).start := by rw [(fail_start d p).2]; exact ⟨rfl, rfl⟩
theorem Upp.new (n : Nat) : Upp (Dk.new n) := ⟨rfl, rfl⟩
theorem read_up {d : Dk} (h : d.down = false) (i : Nat) (hi : i < d.l.length) : d.read i = (Dk.look i d.waits (d.l.getD i ByteArray.empty), 0) := by
  have hu : d.use i = 0 := by unfold Dk.use; rw [if_neg (by rw [h]; decide), if_neg (by omega)]
  unfold Dk.read
  rw [if_pos hu]
  simp
theorem settle_none (ws : List (Int × ByteArray)) : ∀ (n : Nat) (p : Nat → Bool) (l : List ByteArray), (∀ j, n ≤ j → p j = false) → Dk.settle p n ws l = l := by
  induction ws with
  | nil => intro n p l _; rfl
  | cons w ws ih =>
    intro n p l h
    rw [Dk.settle, if_neg (by rw [h n (Nat.le_refl _)]; decide)]
    exact ih _ _ _ (fun j hj => h j (by omega))
theorem set_getD (l : List ByteArray) (j i : Nat) (x : ByteArray) (hi : i < l.length) : (l.set j x).getD i ByteArray.empty = if j = i then x else l.getD i ByteArray.empty := by
  simp only [List.getD_eq_getElem?_getD, List.getElem?_set]
  split
  · rename_i h; subst h; simp [hi]
  · rfl
theorem settle_get (p : Nat → Bool) (ws : List (Int × ByteArray)) : ∀ (n : Nat) (l : List ByteArray) (i : Nat), i < l.length →
    (Dk.settle p n ws l).getD i ByteArray.empty = l.getD i ByteArray.empty ∨ ∃ w ∈ ws, w.1.toNat = i ∧ (Dk.settle p n ws l).getD i ByteArray.empty = w.2 := by
  induction ws with
  | nil => intro n l i _; exact .inl rfl
  | cons w ws ih =>
    intro n l i hi
    rw [Dk.settle]
    split
    · rcases ih (n + 1) (l.set w.1.toNat w.2) i (by simpa using hi) with h | ⟨x, hx, h1, h2⟩
      · rw [h, set_getD _ _ _ _ hi]
        split
        · rename_i e; exact .inr ⟨w, by simp, e, rfl⟩
        · exact .inl rfl
      · exact .inr ⟨x, by simp [hx], h1, h2⟩
    · rcases ih (n + 1) l i hi with h | ⟨x, hx, h1, h2⟩
      · exact .inl h
      · exact .inr ⟨x, by simp [hx], h1, h2⟩
theorem settle_all (p : Nat → Bool) (ws : List (Int × ByteArray)) : ∀ (n : Nat) (l : List ByteArray) (i : Nat), i < l.length → (∀ j, n ≤ j → j < n + ws.length → p j = true) → (∀ w ∈ ws, 0 ≤ w.1) →
    (Dk.settle p n ws l).getD i ByteArray.empty = Dk.look i ws (l.getD i ByteArray.empty) := by
  induction ws with
  | nil => intro n l i _ _ _; rfl
  | cons w ws ih =>
    intro n l i hi hp h0
    rw [Dk.settle, if_pos (hp n (Nat.le_refl _) (by simp)), ih (n + 1) _ i (by simpa using hi) (fun j h1 h2 => hp j (by omega) (by simp; omega)) (fun x hx => h0 x (by simp [hx])), set_getD _ _ _ _ hi, Dk.look]
    have := h0 w (by simp)
    by_cases e : w.1 = (i : Int)
    · rw [if_pos e, if_pos (by omega)]
    · rw [if_neg e, if_neg (by omega)]
end Go.Proofs.Ytoolkamajlgcbaa
