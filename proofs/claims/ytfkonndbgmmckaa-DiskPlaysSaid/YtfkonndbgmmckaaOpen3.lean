/- Open3: steps laid open, each with its sector in bounds. -/
import Derived.Test.YtfkonndbgmmckaaOpen
set_option linter.unusedVariables false
set_option linter.unusedSimpArgs false
namespace Go.Proofs.Ytfkonndbgmmckaa
open Go.RowKit Go.ChangeShapes Go.WideShapes Go.ChangeAt Go.Deep

def RdOps3 (w : World) (v : Value) (l : List OpV) : Prop := RdOps w v l ∧ ∀ o ∈ l, o.at_ ≤ 9223372036854775807

section
variable {H : Type} {enc : TypeId × Value → H} {W : World} {base : Nat} {sp : Nat → Bool} {held : Bool}
/-- A step out of its cells. -/
theorem cells_op3 {w : World} {fuel : Nat} {cs : List Value} {x : DataW H × List MemPlace} (h : DataW.trod enc Try.prog w base (fun _ => true) held fuel 35 cs = some x) :
    ∃ o : OpV, cs = [.int .i64 o.kind, .int .i64 o.at_, .int .i64 o.long, .int .u8 (o.fill.toNat : Int), o.pv] ∧ RdB w o.pv o.picks ∧ o.at_ ≤ 9223372036854775807 := by
  obtain ⟨xs, n, _, _, hlen, hxs, hf⟩ := DataW.trod_struct Try.underlying35 h
  have c5 : Try.prog.cellsOf 35 = 5 := by kernel_rfl
  have ci : Try.prog.cellsOf 3 = 1 := by kernel_rfl
  have cu : Try.prog.cellsOf 5 = 1 := by kernel_rfl
  have cb : Try.prog.cellsOf 23 = 1 := by kernel_rfl
  rw [c5] at hlen
  match xs, hxs, cs, hlen with
  | [y0, y1, y2, y3, y4], _, [a0, a1, a2, a3, a4], _ =>
    have h0 : DataW.trod enc Try.prog w base (fun _ => true) held n 3 (([a0, a1, a2, a3, a4].drop 0).take (Try.prog.cellsOf 3)) = some y0 := hf 0 _ rfl
    have h1 : DataW.trod enc Try.prog w base (fun _ => true) held n 3 (([a0, a1, a2, a3, a4].drop 1).take (Try.prog.cellsOf 3)) = some y1 := hf 1 _ rfl
    have h2 : DataW.trod enc Try.prog w base (fun _ => true) held n 3 (([a0, a1, a2, a3, a4].drop 2).take (Try.prog.cellsOf 3)) = some y2 := hf 2 _ rfl
    have h3 : DataW.trod enc Try.prog w base (fun _ => true) held n 5 (([a0, a1, a2, a3, a4].drop 3).take (Try.prog.cellsOf 5)) = some y3 := hf 3 _ rfl
    have h4 : DataW.trod enc Try.prog w base (fun _ => true) held n 23 (([a0, a1, a2, a3, a4].drop 4).take (Try.prog.cellsOf 23)) = some y4 := hf 4 _ rfl
    rw [ci] at h0 h1 h2
    rw [cu] at h3
    rw [cb] at h4
    simp only [List.drop_zero, List.drop_succ_cons, List.take_succ_cons, List.take_zero, List.getElem?_cons_zero, List.getElem?_cons_succ] at h0 h1 h2 h3 h4
    obtain ⟨k, e0, _, _⟩ := DataW.trod_int Try.underlying3 h0
    obtain ⟨p, e1, _, wp⟩ := DataW.trod_int Try.underlying3 h1
    obtain ⟨q, e2, _, _⟩ := DataW.trod_int Try.underlying3 h2
    obtain ⟨f, e3, _, wf⟩ := DataW.trod_int Try.underlying5 h3
    obtain ⟨A, m, c, l, e4, hm, hr⟩ := cells_bools h4
    simp only [List.cons.injEq, and_true] at e0 e1 e2 e3
    subst e0 e1 e2 e3 e4 hm
    have hf2 : 0 ≤ f ∧ f ≤ 255 := by simp [Lit.wf, IntKind.min, IntKind.max, IntKind.signed, IntKind.bits] at wf; omega
    have hp2 : p ≤ 9223372036854775807 := by simp [Lit.wf, IntKind.min, IntKind.max, IntKind.signed, IntKind.bits] at wp; omega
    exact ⟨⟨k, p, q, UInt8.ofNat f.toNat, A, c, l⟩, by simp [OpV.pv]; omega, hr, hp2⟩
theorem cells_ops3 {w : World} {fuel : Nat} {v : Value} {x : DataW H × List MemPlace} (hf : DataW.trod enc Try.prog W base (fun _ => true) held fuel 22 [v] = some x) : ∃ l, RdOps3 W v l := by
  have c5 : Try.prog.cellsOf 35 = 5 := by kernel_rfl
  rcases open_slice Try.underlying22 hf with ⟨hcs, _⟩ | ⟨a, len, cap, m, n, D, Pl, hcs, _, hl, hm, hmm, _, hx⟩
  · simp at hcs
    subst hcs
    exact ⟨[], ⟨none, 0, rfl, Nat.le_refl _, by decide, fun h => by simp at h⟩, fun o h => by simp at h⟩
  · simp at hcs hmm
    subst hcs
    subst hmm
    obtain ⟨f, hf⟩ := @choose_lt OpV ⟨⟨0, 0, 0, 0, none, 0, []⟩⟩ m (fun i o => W.cell? (a.add (i * 5)) = some (.int .i64 o.kind) ∧ W.cell? (a.add (i * 5 + 1)) = some (.int .i64 o.at_) ∧ W.cell? (a.add (i * 5 + 2)) = some (.int .i64 o.long) ∧ W.cell? (a.add (i * 5 + 3)) = some (.int .u8 (o.fill.toNat : Int)) ∧ W.cell? (a.add (i * 5 + 4)) = some o.pv ∧ RdB W o.pv o.picks ∧ o.at_ ≤ 9223372036854775807) (fun i hi => by
      obtain ⟨cs', h1, h2⟩ := hx i hi
      obtain ⟨o, rfl, hr, hp2⟩ := cells_op3 h2
      rw [c5] at h1
      obtain ⟨_, _, hc⟩ := World.cells?_some h1
      have g0 := hc 0 (by decide)
      have g1 := hc 1 (by decide)
      have g2 := hc 2 (by decide)
      have g3 := hc 3 (by decide)
      have g4 := hc 4 (by decide)
      rw [add_add] at g0 g1 g2 g3 g4
      exact ⟨o, g0, g1, g2, g3, g4, hr, hp2⟩)
    refine ⟨(List.range len).map f, ⟨some a, m, by simp, by simpa using hl, by simp [maxLen] at hm; omega, fun hp => ?_⟩, fun o ho => ?_⟩
    rotate_left
    · obtain ⟨i, hi, rfl⟩ := List.mem_map.1 ho
      simp at hi
      exact (hf i (by omega)).2.2.2.2.2.2
    simp at hp
    obtain ⟨z, _⟩ := hf 0 (by omega)
    have ha := plain_addr (by simpa using z)
    refine ⟨a.block, a.off, by rw [← ha], fun i hi => ?_⟩
    simp at hi
    obtain ⟨g0, g1, g2, g3, g4, g5, _⟩ := hf i (by omega)
    have := And.intro g0 (And.intro g1 (And.intro g2 (And.intro g3 (And.intro g4 g5))))
    rw [ha] at this
    simp only [Addr.add_lit, ← Nat.add_assoc] at this
    simpa using this
theorem open_ops3 {v : Value} {d : DataW H} {ps : List MemPlace} {r : World} (hv : Value.okWide Try.prog r .any base 22 v) (h : DataW.Trod enc Try.prog W 0 (fun _ => true) held 22 v d ps) : ∃ l, RdOps3 W v l := by
  obtain ⟨a0, len0, cap0, rfl⟩ := okWide_slice Try.underlying22 hv
  obtain ⟨fuel, hf⟩ := h
  exact cells_ops3 (w := W) (by simpa [Value.cells] using hf)
end
end Go.Proofs.Ytfkonndbgmmckaa
