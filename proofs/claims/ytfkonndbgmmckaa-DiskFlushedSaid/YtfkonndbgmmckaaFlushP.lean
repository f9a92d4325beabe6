/- FlushP: what DiskFlushed says, of Dk alone; bools that a call owns. -/
import Derived.Test.YtfkonndbgmmckaaOneP
import Derived.Test.YtfkonndbgmmckaaSep
set_option linter.unusedVariables false
set_option linter.unusedSimpArgs false
namespace Go.Proofs.Ytfkonndbgmmckaa
open Go.RowKit

def flStep (s : Dk × List Bool) (o : OpV) : Dk × List Bool :=
  if o.kind = 0 ∧ s.1.writeE o.at_ o.text = 0 then (s.1.write o.at_ o.text, s.2.set o.at_.toNat true) else s
def flD (d : Dk) (l : List OpV) : Dk × List Bool := l.foldl flStep (d, List.replicate d.l.length false)
theorem writeE_zero {d : Dk} {i : Int} {s : ByteArray} (h : d.writeE i s = 0) : d.use i = 0 := by
  unfold Dk.writeE at h
  split at h
  · assumption
  · exact absurd h (by assumption)
structure FlOk (D0 : Dk) (k : Nat) (s : Dk × List Bool) : Prop where
  l : s.1.l = D0.l
  up : Upp s.1
  len : s.2.length = D0.l.length
  mark : ∀ w ∈ s.1.waits, 0 ≤ w.1 ∧ s.2.getD w.1.toNat false = true
  few : Few k s.1
  ok : s.1.Ok
theorem FlOk.step {D0 : Dk} {k : Nat} {s : Dk × List Bool} (h : FlOk D0 k s) (o : OpV) : FlOk D0 (k + 1) (flStep s o) := by
  unfold flStep
  split
  · rename_i hc
    obtain ⟨_, h2⟩ := hc
    obtain ⟨_, i0, i1⟩ := Dk.use_zero (writeE_zero h2)
    refine ⟨?_, h.up.write _ _, by simpa using h.len, ?_, h.few.write _ _, h.ok.write _ _⟩
    · unfold Dk.write; rw [if_pos h2]; exact h.l
    · intro w hw
      unfold Dk.write at hw
      rw [if_pos h2] at hw
      simp only [Dk.wrote, List.mem_append, List.mem_singleton] at hw
      have hl : o.at_.toNat < s.2.length := by rw [h.len, ← h.l]; omega
      rcases hw with hw | rfl
      · obtain ⟨a, b⟩ := h.mark w hw
        refine ⟨a, ?_⟩
        simp only [List.getD_eq_getElem?_getD, List.getElem?_set] at b ⊢
        split
        · simp [hl]
        · exact b
      · refine ⟨i0, ?_⟩
        simp [List.getD_eq_getElem?_getD, List.getElem?_set, hl]
  · exact ⟨h.l, h.up, h.len, h.mark, h.few.mono (by omega), h.ok⟩
theorem FlOk.start {D0 : Dk} {k : Nat} (hu : Upp D0) (hw : D0.waits = []) (hf : Few k D0) (ho : D0.Ok) : FlOk D0 k (D0, List.replicate D0.l.length false) :=
  ⟨rfl, hu, by simp, fun w h => by simp [hw] at h, hf, ho⟩
theorem flD_ok {D0 : Dk} {k : Nat} (hu : Upp D0) (hw : D0.waits = []) (hf : Few k D0) (ho : D0.Ok) (l : List OpV) : FlOk D0 (k + l.length) (flD D0 l) := by
  have : ∀ (l : List OpV) (k : Nat) (s : Dk × List Bool), FlOk D0 k s → FlOk D0 (k + l.length) (l.foldl flStep s) := by
    intro l
    induction l with
    | nil => intro k s h; exact h
    | cons o l ih => intro k s h; have := ih (k + 1) _ (h.step o); rw [List.length_cons, show k + (l.length + 1) = k + 1 + l.length by omega]; exact this
  exact this l k _ (FlOk.start hu hw hf ho)
theorem flD_snoc (d : Dk) (l : List OpV) (k : Nat) (h : k < l.length) : flD d (l.take (k + 1)) = flStep (flD d (l.take k)) l[k] := by
  rw [List.take_succ_eq_append_getElem h, flD, List.foldl_append]; rfl
/-- What DiskFlushed asks, sector by sector. -/
theorem flushed_ok {D0 : Dk} {k : Nat} {s : Dk × List Bool} (hu : Upp D0) (hw : D0.waits = []) (h : FlOk D0 k s) (p : List Bool) (i : Nat) (hi : i < D0.l.length) (hn : s.2.getD i false = false) :
    (s.1.fail p).start.all.getD i ByteArray.empty = D0.all.getD i ByteArray.empty := by
  rw [settled_up s.1 p i (by rw [h.l]; exact hi), all_get hu.down i hi, hw, h.l]
  rcases settle_get (fun j => p.getD j false) s.1.waits 0 D0.l i hi with e | ⟨w, hw, e1, e2⟩
  · exact e
  · obtain ⟨_, hb⟩ := h.mark w hw
    rw [e1, hn] at hb
    cases hb
theorem flush_up {d : Dk} (hu : Upp d) (ho : d.Ok) : d.use 0 = 0 ∧ d.flush.waits = [] ∧ d.flush.l.length = d.l.length := by
  have e : d.use 0 = 0 := by rw [ho.use0, hu.down]; rfl
  refine ⟨e, ?_⟩
  unfold Dk.flush
  rw [if_pos e]
  exact ⟨rfl, by simp [Dk.settled, Dk.settle_length]⟩

/-- A row of bools. -/
def bl_ (v : Value) (l : List Bool) : Part := ⟨fun k => v.ownBlock = some k, fun w => ∃ b, w.ownsRow b 4 1 v l.length (l.map Value.bool)⟩
theorem bl_good {w : World} {b : Nat} {v : Value} {l : List Bool} (h : w.ownsRow b 4 1 v l.length (l.map Value.bool)) : (bl_ v l).Good w :=
  ⟨⟨b, h⟩, fun k hk => (h.lt k hk).2, fun w w' S ⟨b, h⟩ ht hS => ⟨b, own_touch h ht (fun k hk => hS k hk)⟩⟩
theorem Mine.newBools {w0 w w' : World} {ps : List Part} {v : Value} {l : List Bool} (h : Mine w0 w ps) (hb : Below w.heap.size w w') (hn : ∀ k, v.ownBlock = some k → w.heap.size ≤ k) {b : Nat} (ho : w'.ownsRow b 4 1 v l.length (l.map Value.bool)) : Mine w0 w' (bl_ v l :: ps) :=
  h.new hb hn (bl_good ho)
theorem Mine.bools {w0 w : World} {l1 l2 : List Part} {v : Value} {l : List Bool} (h : Mine w0 w (l1 ++ bl_ v l :: l2)) : ∃ b, w.ownsRow b 4 1 v l.length (l.map Value.bool) := (Sep.get (p := bl_ v l) h.sep).P
/-- A bool that is set. -/
theorem Mine.setBool {w0 w : World} {l2 : List Part} {g n c : Nat} {l : List Bool} (h : Mine w0 w (bl_ (.slice (some ⟨g, 0, none⟩) n c) l :: l2)) (hn : l.length = n) (j : Nat) (x : Bool) :
    Mine w0 (w.setCell ⟨g, j, none⟩ (.bool x)) (bl_ (.slice (some ⟨g, 0, none⟩) n c) (l.set j x) :: l2) := by
  subst hn
  obtain ⟨b, ho⟩ := h.bools (l1 := [])
  have st := (ho.stored j (.bool x)).1
  rw [← List.map_set] at st
  have ht : Touch (fun k => k = g) w (w.setCell ⟨g, j, none⟩ (.bool x)) := (Touch.refl (fun k => k = g) w).setG j _
  have hg : w0.heap.size ≤ g := h.abv (bl_ (.slice (some ⟨g, 0, none⟩) l.length c) l) (by simp) g rfl
  have hg' : (bl_ (.slice (some ⟨g, 0, none⟩) l.length c) (l.set j x)).Good (w.setCell ⟨g, j, none⟩ (.bool x)) := bl_good (b := b) (by rw [List.length_set]; exact st)
  refine ⟨Sep.step (l1 := []) (p := bl_ (.slice (some ⟨g, 0, none⟩) l.length c) l) h.sep (ht.mono fun k _ e => by subst e; rfl) (fun k hk => .inl hk) hg', h.bel.trans (ht.below h.bel.size (fun k e => by omega)), fun p hp k hk => ?_⟩
  rcases List.mem_cons.1 hp with rfl | hp
  · exact h.abv (bl_ (.slice (some ⟨g, 0, none⟩) l.length c) l) (by simp) k hk
  · exact h.abv p (by simp [hp]) k hk
theorem bool_at {w : World} {b g n c : Nat} {l : List Bool} (h : w.ownsRow b 4 1 (.slice (some ⟨g, 0, none⟩) n c) l.length (l.map Value.bool)) (hn : l.length = n) (k : Nat) (hk : k < l.length) : w.cell? ⟨g, k, none⟩ = some (.bool (l.getD k false)) := by
  subst hn
  refine (h.cellAt k (by omega)).trans ?_
  simp [List.getElem?_map, List.getElem?_eq_getElem hk]
end Go.Proofs.Ytfkonndbgmmckaa
