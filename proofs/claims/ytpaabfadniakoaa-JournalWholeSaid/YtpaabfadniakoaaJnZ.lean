/- JnZ: arguments laid open: slices of bools, slices of puts. -/
import Derived.Test.YtpaabfadniakoaaJnY
import Derived.ProofKit
import Derived.OpenShut
import Derived.Deep.Slices
set_option linter.unusedVariables false
set_option linter.unusedSimpArgs false
namespace Go.Proofs.Ytpaabfadniakoaa
open Go.RowKit Go.ChangeShapes Go.WideShapes Go.ChangeAt Go.Deep

section
variable {H : Type} {enc : TypeId × Value → H} {W : World} {base : Nat} {sp : Nat → Bool} {held : Bool}
theorem plain_addr {w : World} {a : Addr} {v : Value} (h : w.cell? (a.add 0) = some v) : a = ⟨a.block, a.off, none⟩ := by
  have e : a.add 0 = a := by unfold Addr.add; simp
  rw [e] at h
  cases a with
  | mk b o s =>
    cases s with
    | none => rfl
    | some x =>
      simp only [World.cell?] at h
      split at h <;> simp at h
set_option maxRecDepth 100000 in
theorem cells_bools {w : World} {fuel : Nat} {v : Value} {x : DataW H × List MemPlace} (h : DataW.trod enc Try.prog w base (fun _ => true) held fuel 50 [v] = some x) : ∃ A n c l, v = .slice A n c ∧ n = l.length ∧ RdB w v l := by
  rcases open_slice1 Try.underlying50 (by kernel_rfl) h with ⟨hcs, _⟩ | ⟨a, len, cap, m, n, V, D, Pl, hcs, _, hl, hm, hmm, _, hx⟩
  · simp at hcs
    subst hcs
    exact ⟨none, 0, 0, [], rfl, rfl, rfl, none, 0, rfl, Nat.le_refl _, by decide, fun h => by simp at h⟩
  · simp at hcs hmm
    subst hcs
    subst hmm
    obtain ⟨f, hf⟩ := choose_lt (n := m) (p := fun i b => V i = .bool b) (fun i hi => by
      obtain ⟨_, h2⟩ := hx i hi
      obtain ⟨b, hb, _⟩ := DataW.trod_bool Try.underlying4 h2
      exact ⟨b, by simpa using hb⟩)
    refine ⟨_, len, m, (List.range len).map f, rfl, by simp, by simp, some a, m, by simp, by simpa using hl, by simp [maxLen] at hm ⊢; omega, fun hp => ⟨a, rfl, fun j u hu => ?_⟩⟩
    have hj : j < len := by
      have := (List.getElem?_eq_some_iff.1 hu).1
      simpa using this
    rw [(hx j (by omega)).1, hf j (by omega)]
    simpa [hj] using hu
set_option maxRecDepth 100000 in
theorem open_bools {v : Value} {d : DataW H} {ps : List MemPlace} {r : World} (hv : Value.okWide Try.prog r .any base 50 v) (h : DataW.Trod enc Try.prog W 0 (fun _ => true) held 50 v d ps) : ∃ l, RdB W v l := by
  obtain ⟨a0, len, cap, rfl⟩ := okWide_slice Try.underlying50 hv
  obtain ⟨fuel, hf⟩ := h
  obtain ⟨A, n, c, l, e, _, hr⟩ := cells_bools (v := .slice a0 len cap) (by simpa [Value.cells] using hf)
  exact ⟨l, hr⟩

set_option maxRecDepth 100000 in
/-- A put out of its cells. -/
theorem cells_put {w : World} {fuel : Nat} {cs : List Value} {x : DataW H × List MemPlace} (h : DataW.trod enc Try.prog w base (fun _ => true) held fuel 96 cs = some x) :
    ∃ o : PutM, cs = [.int .i64 o.1, .int .i64 o.2.1, .int .u8 (o.2.2.toNat : Int)] := by
  obtain ⟨xs, n, _, _, hlen, hxs, hf⟩ := DataW.trod_struct Try.underlying96 h
  have c5 : Try.prog.cellsOf 96 = 3 := by kernel_rfl
  have ci : Try.prog.cellsOf 3 = 1 := by kernel_rfl
  have cu : Try.prog.cellsOf 5 = 1 := by kernel_rfl
  rw [c5] at hlen
  match xs, hxs, cs, hlen with
  | [y0, y1, y2], _, [a0, a1, a2], _ =>
    have h0 : DataW.trod enc Try.prog w base (fun _ => true) held n 3 (([a0, a1, a2].drop 0).take (Try.prog.cellsOf 3)) = some y0 := hf 0 _ rfl
    have h1 : DataW.trod enc Try.prog w base (fun _ => true) held n 3 (([a0, a1, a2].drop 1).take (Try.prog.cellsOf 3)) = some y1 := hf 1 _ rfl
    have h2 : DataW.trod enc Try.prog w base (fun _ => true) held n 5 (([a0, a1, a2].drop 2).take (Try.prog.cellsOf 5)) = some y2 := hf 2 _ rfl
    rw [ci] at h0 h1
    rw [cu] at h2
    simp only [List.drop_zero, List.drop_succ_cons, List.take_succ_cons, List.take_zero, List.getElem?_cons_zero, List.getElem?_cons_succ] at h0 h1 h2
    obtain ⟨p, e0, _, _⟩ := DataW.trod_int Try.underlying3 h0
    obtain ⟨q, e1, _, _⟩ := DataW.trod_int Try.underlying3 h1
    obtain ⟨f, e2, _, wf⟩ := DataW.trod_int Try.underlying5 h2
    simp only [List.cons.injEq, and_true] at e0 e1 e2
    subst e0 e1 e2
    have hf2 : 0 ≤ f ∧ f ≤ 255 := by simp [Lit.wf, IntKind.min, IntKind.max, IntKind.signed, IntKind.bits] at wf; omega
    exact ⟨(p, q, UInt8.ofNat f.toNat), by simp; omega⟩
set_option maxRecDepth 100000 in
theorem cells_puts {fuel : Nat} {v : Value} {x : DataW H × List MemPlace} (hf : DataW.trod enc Try.prog W base (fun _ => true) held fuel 36 [v] = some x) : ∃ l, RdPutV W v l := by
  have c5 : Try.prog.cellsOf 96 = 3 := by kernel_rfl
  rcases open_slice Try.underlying36 hf with ⟨hcs, _⟩ | ⟨a, len, cap, m, n, D, Pl, hcs, _, hl, hm, hmm, _, hx⟩
  · simp at hcs
    subst hcs
    exact ⟨[], none, 0, rfl, Nat.le_refl _, by decide, fun h => by simp at h⟩
  · simp at hcs hmm
    subst hcs
    subst hmm
    obtain ⟨f, hf⟩ := @choose_lt PutM ⟨(0, 0, 0)⟩ m (fun i o => W.cell? (a.add (i * 3)) = some (.int .i64 o.1) ∧ W.cell? (a.add (i * 3 + 1)) = some (.int .i64 o.2.1) ∧ W.cell? (a.add (i * 3 + 2)) = some (.int .u8 (o.2.2.toNat : Int))) (fun i hi => by
      obtain ⟨cs', h1, h2⟩ := hx i hi
      obtain ⟨o, rfl⟩ := cells_put h2
      rw [c5] at h1
      obtain ⟨_, _, hc⟩ := World.cells?_some h1
      have g0 := hc 0 (by decide)
      have g1 := hc 1 (by decide)
      have g2 := hc 2 (by decide)
      rw [Go.Deep.add_add] at g0 g1 g2
      exact ⟨o, g0, g1, g2⟩)
    refine ⟨(List.range len).map f, some a, m, by simp, by simpa using hl, by simp [maxLen] at hm; omega, fun hp => ?_⟩
    simp at hp
    obtain ⟨z, _⟩ := hf 0 (by omega)
    have ha := plain_addr (by simpa using z)
    refine ⟨a.block, a.off, by rw [← ha], fun i hi => ?_⟩
    simp at hi
    obtain ⟨g0, g1, g2⟩ := hf i (by omega)
    have := And.intro g0 (And.intro g1 g2)
    rw [ha] at this
    simp only [Addr.add_lit, ← Nat.add_assoc] at this
    simpa using this
set_option maxRecDepth 100000 in
theorem open_puts {v : Value} {d : DataW H} {ps : List MemPlace} {r : World} (hv : Value.okWide Try.prog r .any base 36 v) (h : DataW.Trod enc Try.prog W 0 (fun _ => true) held 36 v d ps) : ∃ l, RdPutV W v l := by
  obtain ⟨a0, len0, cap0, rfl⟩ := okWide_slice Try.underlying36 hv
  obtain ⟨fuel, hf⟩ := h
  exact cells_puts (W := W) (by simpa [Value.cells] using hf)
end
end Go.Proofs.Ytpaabfadniakoaa
