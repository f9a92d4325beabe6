/- OneP: what DiskOne and DiskFlushed say, of Dk alone. -/
import Derived.Test.YtfkonndbgmmckaaLawD
set_option linter.unusedVariables false
set_option linter.unusedSimpArgs false
namespace Go.Proofs.Ytfkonndbgmmckaa
open Go.RowKit

structure Upp (d : Dk) : Prop where
  down : d.down = false
  fuse : d.fuse = 0
theorem Upp.write {d : Dk} (h : Upp d) (i : Int) (s : ByteArray) : Upp (d.write i s) := by
  unfold Dk.write
  split
  · have : ¬ 0 < d.fuse := by rw [h.fuse]; decide
    exact ⟨by simp [Dk.wrote, this, h.down], by simp [Dk.wrote, this, h.fuse]⟩
  · exact h
theorem Upp.flush {d : Dk} (h : Upp d) : Upp d.flush := by unfold Dk.flush; split; exact ⟨h.down, h.fuse⟩; exact h
theorem fail_start (d : Dk) (p : List Bool) : (d.fail p).startE = 0 ∧ (d.fail p).start = { d.fail p with down := false } := by
  have e1 : (d.fail p).startE = 0 := rfl
  exact ⟨e1, by unfold Dk.start; rw [e1]; rfl⟩
theorem Upp.again (d : Dk) (p : List Bool) : Upp (d.fail p).start := by rw [(fail_start d p).2]; exact ⟨rfl, rfl⟩
theorem Upp.new (n : Nat) : Upp (Dk.new n) := ⟨rfl, rfl⟩

/-- The writes that wait are steps'. -/
def From (l : List OpV) (d : Dk) : Prop := ∀ w ∈ d.waits, ∃ o ∈ l, o.kind = 0 ∧ o.at_ = w.1 ∧ o.text = w.2
theorem From.mono {l l' : List OpV} {d : Dk} (h : From l d) (hl : ∀ o ∈ l, o ∈ l') : From l' d := fun w hw => by
  obtain ⟨o, ho, r⟩ := h w hw
  exact ⟨o, hl o ho, r⟩
theorem made_up (n : Nat) (l : List OpV) : Upp (madeD n l) ∧ From l (madeD n l) := by
  have : ∀ (l : List OpV) (l0 : List OpV) (d : Dk), Upp d → From l0 d → Upp (l.foldl madeStep d) ∧ From (l0 ++ l) (l.foldl madeStep d) := by
    intro l
    induction l with
    | nil => intro l0 d h1 h2; exact ⟨h1, by simpa using h2⟩
    | cons o l ih =>
      intro l0 d h1 h2
      have h2' : From (l0 ++ [o]) d := h2.mono (fun x hx => by simp [hx])
      have key : Upp (madeStep d o) ∧ From (l0 ++ [o]) (madeStep d o) := by
        unfold madeStep
        split
        · rename_i hk
          refine ⟨h1.write _ _, ?_⟩
          unfold Dk.write
          split
          · intro w hw
            simp only [Dk.wrote, List.mem_append, List.mem_singleton] at hw
            rcases hw with hw | rfl
            · exact h2' w hw
            · exact ⟨o, by simp, hk, rfl, rfl⟩
          · exact h2'
        · split
          · refine ⟨h1.flush, ?_⟩
            unfold Dk.flush
            split
            · intro w hw; simp [Dk.settled] at hw
            · exact h2'
          · split
            · split
              · refine ⟨Upp.again _ _, ?_⟩
                rw [(fail_start _ _).2]
                intro w hw; simp [Dk.fail, Dk.settled] at hw
              · exact ⟨h1, h2'⟩
            · exact ⟨h1, h2'⟩
      have := ih (l0 ++ [o]) _ key.1 key.2
      simpa using this
  have := this l [] (Dk.new n) (Upp.new n) (fun w hw => by simp [Dk.new] at hw)
  simpa [madeD] using this

theorem read_up {d : Dk} (h : d.down = false) (i : Nat) (hi : i < d.l.length) : d.read i = (Dk.look i d.waits (d.l.getD i ByteArray.empty), 0) := by
  have hu : d.use i = 0 := by unfold Dk.use; rw [if_neg (by rw [h]; decide), if_neg (by omega)]
  unfold Dk.read
  rw [if_pos hu]
  simp
theorem all_length (d : Dk) : d.all.length = d.l.length := by simp [Dk.all]
theorem all_get {d : Dk} (h : d.down = false) (i : Nat) (hi : i < d.l.length) : d.all.getD i ByteArray.empty = Dk.look i d.waits (d.l.getD i ByteArray.empty) := by
  have : d.all[i]? = some (d.read i).1 := by simp [Dk.all, hi]
  rw [List.getD_eq_getElem?_getD, this, read_up h i hi]
  rfl
theorem settle_none (ws : List (Int × ByteArray)) : ∀ (n : Nat) (p : Nat → Bool) (l : List ByteArray), (∀ j, n ≤ j → p j = false) → Dk.settle p n ws l = l := by
  induction ws with
  | nil => intro n p l _; rfl
  | cons w ws ih =>
    intro n p l h
    rw [Dk.settle, if_neg (by rw [h n (Nat.le_refl _)]; decide)]
    exact ih _ _ _ (fun j hj => h j (by omega))
theorem set_getD (l : List ByteArray) (j i : Nat) (x : ByteArray) (hi : i < l.length) : (l.set j x).getD i ByteArray.empty = if j = i then x else l.getD i ByteArray.empty := by
  simp only [List.getD_eq_getElem?_getD, List.getElem?_set]
  split
  · rename_i h; subst h; simp [hi]
  · rfl
theorem settle_get (p : Nat → Bool) (ws : List (Int × ByteArray)) : ∀ (n : Nat) (l : List ByteArray) (i : Nat), i < l.length →
    (Dk.settle p n ws l).getD i ByteArray.empty = l.getD i ByteArray.empty ∨ ∃ w ∈ ws, w.1.toNat = i ∧ (Dk.settle p n ws l).getD i ByteArray.empty = w.2 := by
  induction ws with
  | nil => intro n l i _; exact .inl rfl
  | cons w ws ih =>
    intro n l i hi
    rw [Dk.settle]
    split
    · rcases ih (n + 1) (l.set w.1.toNat w.2) i (by simpa using hi) with h | ⟨x, hx, h1, h2⟩
      · rw [h, set_getD _ _ _ _ hi]
        split
        · rename_i e; exact .inr ⟨w, by simp, e, rfl⟩
        · exact .inl rfl
      · exact .inr ⟨x, by simp [hx], h1, h2⟩
    · rcases ih (n + 1) l i hi with h | ⟨x, hx, h1, h2⟩
      · exact .inl h
      · exact .inr ⟨x, by simp [hx], h1, h2⟩
theorem settle_all (p : Nat → Bool) (ws : List (Int × ByteArray)) : ∀ (n : Nat) (l : List ByteArray) (i : Nat), i < l.length → (∀ j, n ≤ j → j < n + ws.length → p j = true) → (∀ w ∈ ws, 0 ≤ w.1) →
    (Dk.settle p n ws l).getD i ByteArray.empty = Dk.look i ws (l.getD i ByteArray.empty) := by
  induction ws with
  | nil => intro n l i _ _ _; rfl
  | cons w ws ih =>
    intro n l i hi hp h0
    rw [Dk.settle, if_pos (hp n (Nat.le_refl _) (by simp)), ih (n + 1) _ i (by simpa using hi) (fun j h1 h2 => hp j (by omega) (by simp; omega)) (fun x hx => h0 x (by simp [hx])), set_getD _ _ _ _ hi, Dk.look]
    have := h0 w (by simp)
    by_cases e : w.1 = (i : Int)
    · rw [if_pos e, if_pos (by omega)]
    · rw [if_neg e, if_neg (by omega)]
theorem settled_up (d : Dk) (p : List Bool) (i : Nat) (hi : i < d.l.length) : (d.fail p).start.all.getD i ByteArray.empty = (Dk.settle (fun j => p.getD j false) 0 d.waits d.l).getD i ByteArray.empty := by
  have h := (fail_start d p).2
  have hl : (d.fail p).start.l.length = d.l.length := by rw [h]; simp [Dk.fail, Dk.settled, Dk.settle_length]
  rw [all_get (by rw [h]) i (by omega), h]
  rfl

/-- What DiskOne asks, sector by sector. -/
theorem one_ok (D : Dk) (l : List OpV) (u : Upp D) (fr : From l D) (hok : D.Ok) (picks full : List Bool) (hf : full = List.replicate D.waits.length true) (i : Nat) (hi : i < D.l.length) :
    ((D.fail picks).start.all.getD i ByteArray.empty = (D.fail []).start.all.getD i ByteArray.empty ∨ ∃ o ∈ l, o.kind = 0 ∧ o.at_ = i ∧ (D.fail picks).start.all.getD i ByteArray.empty = o.text) ∧
    (D.fail full).start.all.getD i ByteArray.empty = D.all.getD i ByteArray.empty := by
  rw [settled_up D picks i hi, settled_up D [] i hi, settled_up D full i hi, all_get u.down i hi]
  refine ⟨?_, ?_⟩
  · rw [settle_none D.waits 0 (fun j => ([] : List Bool).getD j false) D.l (fun j _ => by simp)]
    rcases settle_get (fun j => picks.getD j false) D.waits 0 D.l i hi with h | ⟨w, hw, e1, e2⟩
    · exact .inl h
    · obtain ⟨o, ho, k0, k1, k2⟩ := fr w hw
      have := (hok.at_ w hw).1
      exact .inr ⟨o, ho, k0, by rw [k1]; omega, by rw [e2, k2]⟩
  · refine settle_all _ _ _ _ _ hi (fun j _ hj => ?_) (fun w hw => (hok.at_ w hw).1)
    subst hf
    simp only [List.getD_eq_getElem?_getD]
    rw [List.getElem?_replicate, if_pos (by omega)]
    rfl
end Go.Proofs.Ytfkonndbgmmckaa
