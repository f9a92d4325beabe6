/- RdE: what Commit does on a new store. -/
import Derived.Test.YtoolkamajlgcbaaMr25
set_option linter.unusedVariables false
set_option linter.unusedSimpArgs false
namespace Go.Proofs.Ytoolkamajlgcbaa
open Go.RowKit

theorem cm_ok : CmOK := fun w F gj g P A c l h hj hF hP1 hP2 hl hn hw => by
  have hr := rest_new (P := P) (by omega)
  have hs : ∀ x ∈ l, x.2.size ≤ 9223372036854775807 := fun x hx => by
    have := (why_each hw x hx).2.2
    omega
  refine (commit_any w F gj g P _ h hj hF (by omega) A c l hl (by omega) hs ⟨by simp [Dk.new]; omega, by simp [Dk.new]; omega⟩).mono ?_
  rintro e w' ⟨x, d', F', rfl, hc, ht⟩
  obtain ⟨hr', _⟩ := rest_coto hr hc
  have hx : x = 0 := by
    rcases coto_calm hc hr.calm (by rw [hr.len]; exact Nat.le_refl _) with ⟨h1, _⟩ | ⟨_, h, _⟩ | ⟨_, h, _⟩
    · exact absurd hw h1
    · exact h
    · exact h
  subst hx
  exact ⟨rfl, d', F', ht, hr'.sz, hr'.calm.up, hr'.len, hr'.waits⟩
theorem shelfReads_w (w : World) (pages : Int) (_ : (Lit.int .i64 pages).wf = true) (v1 : Value) (ls : List (List UInt8)) (h1 : RdUU w v1 ls) :
    Calls Try.prog 5 #[.int .i64 pages, v1] w fun e w' => e = .returned (.bool true) ∧ Below w.heap.size w w' := shelfReads_walk cm_ok w pages v1 ls h1
end Go.Proofs.Ytoolkamajlgcbaa
