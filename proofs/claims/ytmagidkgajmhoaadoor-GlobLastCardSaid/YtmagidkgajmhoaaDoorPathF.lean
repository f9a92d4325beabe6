/- PathF: the walks of short and lives. -/
import Derived.Test.YtmagidkgajmhoaaDoorPathE
set_option linter.unusedVariables false
set_option linter.unusedSimpArgs false
namespace Go.Proofs.YtmagidkgajmhoaaDoor
open Go.RowKit

/-- Texts that are read. -/
def RdS (w : World) (v : Value) (ps : List ByteArray) : Prop := ∃ A c, v = .slice A ps.length c ∧ ps.length ≤ c ∧ c ≤ 9223372036854775807 ∧ (0 < ps.length → ∃ g off, A = some ⟨g, off, none⟩ ∧ ∀ j (h : j < ps.length), w.cell? ⟨g, off + j, none⟩ = some (.string ps[j]))

theorem eq_of_dat {q : ByteArray} {l : Bs} (h : dat q = l) : q = ⟨l.toArray⟩ := by
  subst h; cases q; simp [dat]
end Go.Proofs.YtmagidkgajmhoaaDoor
