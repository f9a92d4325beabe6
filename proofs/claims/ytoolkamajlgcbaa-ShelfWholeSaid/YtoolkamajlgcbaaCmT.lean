/- CmT: the argument of ShelfWhole laid open. -/
import Derived.Test.YtoolkamajlgcbaaCmS
import Derived.ProofKit
import Derived.OpenShut
import Derived.Deep.Slices
set_option linter.unusedVariables false
set_option linter.unusedSimpArgs false
namespace Go.Proofs.Ytoolkamajlgcbaa
open Go.RowKit Go.ChangeShapes Go.WideShapes Go.ChangeAt Go.Deep

structure TornS where
  pages : Int
  ahead : List SOp
  after : List SOp
  cut : Int
  picks : List Bool
structure TornSAt (w : World) (x : TornS) (va vp vk : Value) : Prop where
  ahead : RdSOps w va x.ahead
  after : RdSOps w vp x.after
  picks : RdB w vk x.picks
  cut : x.cut ≤ 9223372036854775807
def tornSV (x : TornS) (va vp vk : Value) : List Value := [.int .i64 x.pages, va, vp, .int .i64 x.cut, vk]
def RdTornS (w : World) (v : Value) (x : TornS) : Prop := ∃ va vp vk, v = .agg (tornSV x va vp vk).toArray ∧ TornSAt w x va vp vk

section
variable {H : Type} {enc : TypeId × Value → H} {W : World} {base : Nat} {sp : Nat → Bool} {held : Bool}
set_option maxRecDepth 100000 in
theorem cells_bools {w : World} {fuel : Nat} {v : Value} {x : DataW H × List MemPlace} (h : DataW.trod enc Try.prog w base (fun _ => true) held fuel 72 [v] = some x) : ∃ A n c l, v = .slice A n c ∧ n = l.length ∧ RdB w v l := by
  rcases open_slice1 Try.underlying72 (by kernel_rfl) h with ⟨hcs, _⟩ | ⟨a, len, cap, m, n, V, D, Pl, hcs, _, hl, hm, hmm, _, hx⟩
  · simp at hcs
    subst hcs
    exact ⟨none, 0, 0, [], rfl, rfl, rfl, none, 0, rfl, Nat.le_refl _, by decide, fun h => by simp at h⟩
  · simp at hcs hmm
    subst hcs
    subst hmm
    obtain ⟨f, hf⟩ := choose_lt (α := Bool) ⟨false⟩ m (fun i b => V i = .bool b) (fun i hi => by
      obtain ⟨_, h2⟩ := hx i hi
      obtain ⟨b, hb, _⟩ := DataW.trod_bool Try.underlying4 h2
      exact ⟨b, by simpa using hb⟩)
    refine ⟨_, len, m, (List.range len).map f, rfl, by simp, by simp, some a, m, by simp, by simpa using hl, by simp [maxLen] at hm ⊢; omega, fun hp => ⟨a, rfl, fun j u hu => ?_⟩⟩
    have hj : j < len := by
      have := (List.getElem?_eq_some_iff.1 hu).1
      simpa using this
    rw [(hx j (by omega)).1, hf j (by omega)]
    simpa [hj] using hu
set_option maxRecDepth 100000 in
theorem open_bools {v : Value} {d : DataW H} {ps : List MemPlace} {r : World} (hv : Value.okWide Try.prog r .any base 72 v) (h : DataW.Trod enc Try.prog W 0 (fun _ => true) held 72 v d ps) : ∃ l, RdB W v l := by
  obtain ⟨a0, len, cap, rfl⟩ := okWide_slice Try.underlying72 hv
  obtain ⟨fuel, hf⟩ := h
  obtain ⟨A, n, c, l, e, _, hr⟩ := cells_bools (v := .slice a0 len cap) (by simpa [Value.cells] using hf)
  exact ⟨l, hr⟩

set_option maxRecDepth 100000 in
theorem cells_tornS {fuel : Nat} {cs : List Value} {x : DataW H × List MemPlace} (h : DataW.trod enc Try.prog W base (fun _ => true) held fuel 74 cs = some x) :
    ∃ o va vp vk, cs = tornSV o va vp vk ∧ TornSAt W o va vp vk := by
  obtain ⟨xs, n, _, _, hlen, hxs, hf⟩ := DataW.trod_struct Try.underlying74 h
  have c5 : Try.prog.cellsOf 74 = 5 := by kernel_rfl
  have ci : Try.prog.cellsOf 3 = 1 := by kernel_rfl
  have cp : Try.prog.cellsOf 22 = 1 := by kernel_rfl
  have cb : Try.prog.cellsOf 72 = 1 := by kernel_rfl
  rw [c5] at hlen
  match xs, hxs, cs, hlen with
  | [y0, y1, y2, y3, y4], _, [a0, a1, a2, a3, a4], _ =>
    have h0 : DataW.trod enc Try.prog W base (fun _ => true) held n 3 (([a0, a1, a2, a3, a4].drop 0).take (Try.prog.cellsOf 3)) = some y0 := hf 0 _ rfl
    have h1 : DataW.trod enc Try.prog W base (fun _ => true) held n 22 (([a0, a1, a2, a3, a4].drop 1).take (Try.prog.cellsOf 22)) = some y1 := hf 1 _ rfl
    have h2 : DataW.trod enc Try.prog W base (fun _ => true) held n 22 (([a0, a1, a2, a3, a4].drop 2).take (Try.prog.cellsOf 22)) = some y2 := hf 2 _ rfl
    have h3 : DataW.trod enc Try.prog W base (fun _ => true) held n 3 (([a0, a1, a2, a3, a4].drop 3).take (Try.prog.cellsOf 3)) = some y3 := hf 3 _ rfl
    have h4 : DataW.trod enc Try.prog W base (fun _ => true) held n 72 (([a0, a1, a2, a3, a4].drop 4).take (Try.prog.cellsOf 72)) = some y4 := hf 4 _ rfl
    rw [ci] at h0 h3
    rw [cp] at h1 h2
    rw [cb] at h4
    simp only [List.drop_zero, List.drop_succ_cons, List.take_succ_cons, List.take_zero] at h0 h1 h2 h3 h4
    obtain ⟨p, e0, _, _⟩ := DataW.trod_int Try.underlying3 h0
    obtain ⟨q, e3, _, w3⟩ := DataW.trod_int Try.underlying3 h3
    simp only [List.cons.injEq, and_true] at e0 e3
    subst e0 e3
    obtain ⟨l1, r1⟩ := cells_sops h1
    obtain ⟨l2, r2⟩ := cells_sops h2
    obtain ⟨_, _, _, l4, _, _, r4⟩ := cells_bools h4
    have b3 : q ≤ 9223372036854775807 := by simp [Lit.wf, IntKind.min, IntKind.max, IntKind.signed, IntKind.bits] at w3; omega
    exact ⟨⟨p, l1, l2, q, l4⟩, a1, a2, a4, rfl, ⟨r1, r2, r4, b3⟩⟩
set_option maxRecDepth 100000 in
theorem open_tornS {v : Value} {d : DataW H} {ps : List MemPlace} {r : World} (hv : Value.okWide Try.prog r .any base 74 v) (h : DataW.Trod enc Try.prog W 0 (fun _ => true) held 74 v d ps) : ∃ x, RdTornS W v x := by
  simp only [Value.okWide, Try.underlying74] at hv
  obtain ⟨cs, rfl, _⟩ := hv
  obtain ⟨fuel, h⟩ := h
  obtain ⟨o, va, vp, vk, ho, hat⟩ := cells_tornS h
  refine ⟨o, va, vp, vk, ?_, hat⟩
  simp only [Value.cells] at ho
  congr 1
  apply Array.ext'
  simpa using ho
end
end Go.Proofs.Ytoolkamajlgcbaa
