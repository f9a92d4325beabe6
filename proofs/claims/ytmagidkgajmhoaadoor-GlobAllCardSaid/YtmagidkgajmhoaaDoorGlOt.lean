/- GlOt: texts laid open. -/
import Derived.Test.YtmagidkgajmhoaaDoorPathF
import Derived.ProofKit
import Derived.OpenShut
import Derived.Deep.Slices
set_option linter.unusedVariables false
set_option linter.unusedSimpArgs false
namespace Go.Proofs.YtmagidkgajmhoaaDoor
open Go.RowKit Go.ChangeShapes Go.WideShapes Go.ChangeAt Go.Deep

section
variable {H : Type} {enc : TypeId × Value → H} {W : World} {base : Nat} {sp : Nat → Bool} {held : Bool}
theorem plain_addr {w : World} {a : Addr} {v : Value} (h : w.cell? (a.add 0) = some v) : a = ⟨a.block, a.off, none⟩ := by
  have e : a.add 0 = a := by unfold Addr.add; simp
  rw [e] at h
  cases a with
  | mk b o s =>
    cases s with
    | none => rfl
    | some x =>
      simp only [World.cell?] at h
      split at h <;> simp at h
theorem open_texts {v : Value} {d : DataW H} {ps : List MemPlace} {r : World} (hv : Value.okWide Tryd.prog r .any base 42 v) (h : DataW.Trod enc Tryd.prog W 0 (fun _ => true) held 42 v d ps) : ∃ l, RdS W v l := by
  obtain ⟨a0, len0, cap0, rfl⟩ := okWide_slice Tryd.underlying42 hv
  obtain ⟨fuel, hf⟩ := h
  have hf' : DataW.trod enc Tryd.prog W 0 (fun _ => true) held fuel 42 [.slice a0 len0 cap0] = some (d, ps) := by simpa [Value.cells] using hf
  rcases open_slice1 Tryd.underlying42 (by kernel_rfl) hf' with ⟨hcs, _⟩ | ⟨a, len, cap, m, n, V, D, Pl, hcs, _, hl, hm, hmm, _, hx⟩
  · simp at hcs
    obtain ⟨rfl, rfl, rfl⟩ := hcs
    exact ⟨[], none, 0, rfl, Nat.le_refl _, by decide, fun h => by simp at h⟩
  · simp at hcs hmm
    obtain ⟨rfl, rfl, rfl⟩ := hcs
    subst hmm
    obtain ⟨f, hf2⟩ := choose_lt (n := m) (p := fun i b => V i = .string b) (fun i hi => by
      obtain ⟨_, h2⟩ := hx i hi
      obtain ⟨b, hb, _⟩ := DataW.trod_string Tryd.underlying9 h2
      exact ⟨b, by simpa using hb⟩)
    refine ⟨(List.range len0).map f, some a, m, by simp, by simpa using hl, by simp [maxLen] at hm ⊢; omega, fun hp => ?_⟩
    simp at hp
    have h0 := (hx 0 (by omega)).1
    rw [hf2 0 (by omega)] at h0
    have ha := plain_addr h0
    refine ⟨a.block, a.off, by rw [← ha], fun j hj => ?_⟩
    simp at hj
    have := (hx j (by omega)).1
    rw [hf2 j (by omega), ha] at this
    simp only [Addr.add_lit] at this
    simpa using this
end

end Go.Proofs.YtmagidkgajmhoaaDoor
