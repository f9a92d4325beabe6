/- Open2: two slices of steps, laid open. -/
import Derived.Test.YtfkonndbgmmckaaOpen
set_option linter.unusedVariables false
set_option linter.unusedSimpArgs false
namespace Go.Proofs.Ytfkonndbgmmckaa
open Go.RowKit Go.ChangeShapes Go.WideShapes Go.ChangeAt Go.Deep

section
variable {H : Type} {enc : TypeId × Value → H} {W : World} {base : Nat} {held : Bool}
/-- Two slices of steps. -/
def RdOps2 (w : World) (v : Value) (l : List OpV × List OpV) : Prop := ∃ v1 v2, v = .agg #[v1, v2] ∧ RdOps w v1 l.1 ∧ RdOps w v2 l.2
theorem open_ops2 {v : Value} {d : DataW H} {ps : List MemPlace} {r : World} (hv : Value.okWide Try.prog r .any base 38 v) (h : DataW.Trod enc Try.prog W 0 (fun _ => true) held 38 v d ps) : ∃ l, RdOps2 W v l := by
  have c2 : Try.prog.cellsOf 38 = 2 := by kernel_rfl
  have c1 : Try.prog.cellsOf 22 = 1 := by kernel_rfl
  simp only [Value.okWide, Try.underlying38] at hv
  obtain ⟨cs, rfl, hsz, _⟩ := hv
  rw [c2] at hsz
  obtain ⟨l, hl⟩ : ∃ l, l = cs.toList := ⟨_, rfl⟩
  have hll : l.length = 2 := by rw [hl]; simpa using hsz
  have hcs : cs = l.toArray := by rw [hl]
  subst hcs
  match l, hll with
  | [v1, v2], _ =>
    obtain ⟨fuel, hf⟩ := h
    obtain ⟨ys, m, _, _, _, hlen, he⟩ := DataW.trod_array Try.underlying38 (cs := [v1, v2]) (by simpa [Value.cells] using hf)
    have h0 := he 0 (by decide)
    have h1 := he 1 (by decide)
    rw [c1] at h0 h1
    simp only [Nat.zero_mul, Nat.one_mul, List.drop_zero, List.drop_succ_cons, List.take_succ_cons, List.take_zero] at h0 h1
    match ys, hlen with
    | [y0, y1], _ =>
      simp only [List.getElem?_cons_zero, List.getElem?_cons_succ] at h0 h1
      obtain ⟨l1, r1⟩ := cells_ops (w := W) h0
      obtain ⟨l2, r2⟩ := cells_ops (w := W) h1
      exact ⟨(l1, l2), v1, v2, rfl, r1, r2⟩
end
end Go.Proofs.Ytfkonndbgmmckaa
