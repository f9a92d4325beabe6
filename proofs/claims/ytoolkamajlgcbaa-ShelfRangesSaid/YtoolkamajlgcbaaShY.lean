/- ShY: lists of Ops laid open; stores that may not be. -/
import Derived.Test.YtoolkamajlgcbaaShX
set_option linter.unusedVariables false
set_option linter.unusedSimpArgs false
namespace Go.Proofs.Ytoolkamajlgcbaa
open Go.RowKit Go.ChangeShapes Go.WideShapes Go.ChangeAt Go.Deep

def RdSOps (w : World) (v : Value) (l : List SOp) : Prop := (∃ A c, v = .slice A l.length c ∧ l.length ≤ c ∧ c ≤ maxLen ∧ (0 < l.length → ∃ b off, A = some ⟨b, off, none⟩ ∧ ∀ i (h : i < l.length),
  w.cell? ⟨b, off + i * 6, none⟩ = some (.int .i64 l[i].kind) ∧ w.cell? ⟨b, off + i * 6 + 1, none⟩ = some (.int .i64 l[i].n) ∧ w.cell? ⟨b, off + i * 6 + 2, none⟩ = some (.int .i64 l[i].long) ∧ w.cell? ⟨b, off + i * 6 + 3, none⟩ = some (.string l[i].key) ∧ w.cell? ⟨b, off + i * 6 + 4, none⟩ = some (.string l[i].to) ∧ w.cell? ⟨b, off + i * 6 + 5, none⟩ = some (.string l[i].val))) ∧ ∀ o ∈ l, o.In
theorem choose_lt {α : Type} (hne : Nonempty α) (n : Nat) (p : Nat → α → Prop) (h : ∀ i, i < n → ∃ x, p i x) : ∃ f : Nat → α, ∀ i, i < n → p i (f i) := by
  refine ⟨fun i => if hi : i < n then Classical.choose (h i hi) else Classical.choice hne, fun i hi => ?_⟩
  simp only [dif_pos hi]
  exact Classical.choose_spec (h i hi)
theorem plain_addr {w : World} {a : Addr} {v : Value} (h : w.cell? (a.add 0) = some v) : a = ⟨a.block, a.off, none⟩ := by
  have e : a.add 0 = a := by unfold Addr.add; simp
  rw [e] at h
  cases a with
  | mk b o s =>
    cases s with
    | none => rfl
    | some x =>
      simp only [World.cell?] at h
      split at h <;> simp at h
section
variable {H : Type} {enc : TypeId × Value → H} {W : World} {base : Nat} {held : Bool}
set_option maxRecDepth 100000 in
theorem cells_sops {fuel : Nat} {v : Value} {x : DataW H × List MemPlace} (hf : DataW.trod enc Try.prog W base (fun _ => true) held fuel 22 [v] = some x) : ∃ l, RdSOps W v l := by
  have c5 : Try.prog.cellsOf 30 = 6 := by kernel_rfl
  rcases open_slice Try.underlying22 hf with ⟨hcs, _⟩ | ⟨a, len, cap, m, n, D, Pl, hcs, _, hl, hm, hmm, _, hx⟩
  · simp at hcs
    subst hcs
    exact ⟨[], ⟨none, 0, rfl, Nat.le_refl _, by decide, fun h => by simp at h⟩, fun o h => by simp at h⟩
  · simp at hcs hmm
    subst hcs
    subst hmm
    obtain ⟨f, hf⟩ := choose_lt (α := SOp) ⟨⟨0, 0, 0, ByteArray.empty, ByteArray.empty, ByteArray.empty⟩⟩ m (fun i o => W.cell? (a.add (i * 6)) = some (.int .i64 o.kind) ∧ W.cell? (a.add (i * 6 + 1)) = some (.int .i64 o.n) ∧ W.cell? (a.add (i * 6 + 2)) = some (.int .i64 o.long) ∧ W.cell? (a.add (i * 6 + 3)) = some (.string o.key) ∧ W.cell? (a.add (i * 6 + 4)) = some (.string o.to) ∧ W.cell? (a.add (i * 6 + 5)) = some (.string o.val) ∧ o.In) (fun i hi => by
      obtain ⟨cs', h1, h2⟩ := hx i hi
      obtain ⟨o, rfl, hat⟩ := cells_sop h2
      rw [c5] at h1
      obtain ⟨_, _, hc⟩ := World.cells?_some h1
      have g0 := hc 0 (by decide)
      have g1 := hc 1 (by decide)
      have g2 := hc 2 (by decide)
      have g3 := hc 3 (by decide)
      have g4 := hc 4 (by decide)
      have g5 := hc 5 (by decide)
      rw [Go.Deep.add_add] at g0 g1 g2 g3 g4 g5
      exact ⟨o, g0, g1, g2, g3, g4, g5, hat⟩)
    refine ⟨(List.range len).map f, ⟨some a, m, by simp, by simpa using hl, by simpa using hm, fun hp => ?_⟩, fun o ho => ?_⟩
    · simp at hp
      obtain ⟨z, _⟩ := hf 0 (by omega)
      have ha := plain_addr (by simpa using z)
      refine ⟨a.block, a.off, by rw [← ha], fun i hi => ?_⟩
      simp at hi
      obtain ⟨g0, g1, g2, g3, g4, g5, _⟩ := hf i (by omega)
      have := And.intro g0 (And.intro g1 (And.intro g2 (And.intro g3 (And.intro g4 g5))))
      rw [ha] at this
      simp only [Addr.add_lit, ← Nat.add_assoc] at this
      simpa using this
    · obtain ⟨i, hi, rfl⟩ := List.mem_map.1 ho
      exact (hf i (by have := List.mem_range.1 hi; omega)).2.2.2.2.2.2
set_option maxRecDepth 100000 in
theorem open_sops {v : Value} {d : DataW H} {ps : List MemPlace} {r : World} (hv : Value.okWide Try.prog r .any base 22 v) (h : DataW.Trod enc Try.prog W 0 (fun _ => true) held 22 v d ps) : ∃ l, RdSOps W v l := by
  obtain ⟨a0, len0, cap0, rfl⟩ := okWide_slice Try.underlying22 hv
  obtain ⟨fuel, hf⟩ := h
  exact cells_sops (W := W) (by simpa [Value.cells] using hf)
end
set_option maxRecDepth 100000 in
theorem sopened_no (w : World) (P : Int) (hP : P < 2 ∨ 12 < P) :
    Calls Try.prog 9 #[.int .i64 P] w fun e w' => e = .returned (.tuple #[.pointer none, .pointer none, .pointer none]) ∧ w = w' := by
  rcases (show P < 2 ∨ 2 ≤ P by omega) with h | h
  · have d1 : decide (P < 2) = true := by simpa using h
    go_enter Try.func9, Try.ntmps9
    go_wp2
    go_ret3
    exact ⟨rfl, rfl⟩
  · have d1 : decide (P < 2) = false := decide_eq_false (by omega)
    have d2 : decide (12 < P) = true := by simp; omega
    go_enter Try.func9, Try.ntmps9
    go_wp2
    go_ret3
    exact ⟨rfl, rfl⟩
end Go.Proofs.Ytoolkamajlgcbaa
