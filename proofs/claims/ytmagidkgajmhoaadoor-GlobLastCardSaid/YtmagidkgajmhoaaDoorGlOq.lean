/- GlOq: two texts laid open. -/
import Derived.Test.YtmagidkgajmhoaaDoorPathF
import Derived.ProofKit
import Derived.OpenShut
import Derived.WideKeyPair
set_option linter.unusedVariables false
set_option linter.unusedSimpArgs false
namespace Go.Proofs.YtmagidkgajmhoaaDoor
open Go.RowKit Go.ChangeShapes Go.WideShapes Go.ChangeAt Go.WideMaps

/-- An array of two texts. -/
def IsTwo (w : World) (v : Value) (x : ByteArray × ByteArray) : Prop := v = .agg #[.string x.1, .string x.2]
section
variable {H : Type} {enc : TypeId × Value → H} {W : World} {base : Nat} {sp : Nat → Bool} {held : Bool}
theorem arr_two : ArrKey Tryd.prog 36 9 2 := ⟨Tryd.underlying36, by kernel_rfl, by kernel_rfl, by kernel_rfl⟩
theorem open_two {v : Value} {d : DataW H} {ps : List MemPlace} {r : World} (hv : Value.okWide Tryd.prog r .any base 36 v) (h : DataW.Trod enc Tryd.prog W 0 (fun _ => true) held 36 v d ps) : ∃ x, IsTwo W v x := by
  have A := arr_two
  obtain ⟨c0, c1, rfl⟩ := okWide_pair A hv
  obtain ⟨fuel, hf⟩ := h
  cases fuel with
  | zero => simp [DataW.trod] at hf
  | succ n =>
    rw [DataW.trod_step] at hf
    unfold DataW.trodStep at hf
    simp only [A.hu, Value.cells] at hf
    rw [if_pos (by rw [A.size]; rfl)] at hf
    simp only [Option.map_eq_some_iff] at hf
    obtain ⟨xs, hx, e1⟩ := hf
    rw [show List.range 2 = [0, 1] from rfl, List.mapM_cons, List.mapM_cons, List.mapM_nil] at hx
    simp only [bind, Option.bind_eq_some_iff, pure, Option.some.injEq, A.one] at hx
    obtain ⟨y0, h0, _, ⟨y1, h1, _, rfl, rfl⟩, rfl⟩ := hx
    obtain ⟨a, ea, _⟩ := DataW.trod_string Tryd.underlying9 h0
    obtain ⟨b, eb, _⟩ := DataW.trod_string Tryd.underlying9 h1
    simp at ea eb
    subst ea; subst eb
    exact ⟨(a, b), rfl⟩
end
end Go.Proofs.YtmagidkgajmhoaaDoor
