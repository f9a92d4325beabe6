/- CmO: ShelfPlays, as its row wants it. -/
import Derived.Test.YtoolkamajlgcbaaCmN
set_option linter.unusedVariables false
set_option linter.unusedSimpArgs false
namespace Go.Proofs.Ytoolkamajlgcbaa
open Go.RowKit

theorem shelfPlays_w (w : World) (pages : Int) (_ : (Lit.int .i64 pages).wf = true) (v1 : Value) (l1 : List SOp) (h1 : RdSOps w v1 l1) :
    Calls Try.prog 6 #[.int .i64 pages, v1] w fun e w' => e = .returned (.bool true) ∧ Below w.heap.size w w' := shelfPlays_walk w pages v1 l1 h1
end Go.Proofs.Ytoolkamajlgcbaa
