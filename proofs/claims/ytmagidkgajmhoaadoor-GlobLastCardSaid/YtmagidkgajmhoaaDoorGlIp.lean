/- GlIp: parts of a pattern that are read. -/
import Derived.Test.YtmagidkgajmhoaaDoorGlHm
set_option linter.unusedVariables false
set_option linter.unusedSimpArgs false
namespace Go.Proofs.YtmagidkgajmhoaaDoor
open Go.RowKit

structure PtM where
  any : Bool
  L : List TkM
  A : Option Addr
  c : Nat
def ptv : List PtM → List Value
  | [] => []
  | x :: r => .bool x.any :: .slice x.A x.L.length x.c :: ptv r
theorem ptv_len : ∀ L : List PtM, (ptv L).length = L.length * 2
  | [] => rfl
  | x :: r => by simp only [ptv, List.length_cons, ptv_len r]; omega
theorem ptv_app : ∀ a b : List PtM, ptv (a ++ b) = ptv a ++ ptv b
  | [], b => rfl
  | x :: a, b => by simp only [List.cons_append, ptv, ptv_app a b]
theorem ptv_one : ∀ (L : List PtM), ∀ u ∈ ptv L, u.oneCell' = true
  | [], u, h => by cases h
  | x :: r, u, h => by
    simp only [ptv, List.mem_cons] at h
    rcases h with rfl | rfl | h
    · rfl
    · rfl
    · exact ptv_one r u h
theorem ptv_get : ∀ (L : List PtM) (k : Nat) (h : k < L.length), (ptv L)[k * 2]? = some (.bool L[k].any) ∧ (ptv L)[k * 2 + 1]? = some (.slice L[k].A L[k].L.length L[k].c)
  | x :: r, 0, _ => ⟨rfl, rfl⟩
  | x :: r, k + 1, h => by
    have := ptv_get r k (by simpa using h)
    rw [show (k + 1) * 2 = k * 2 + 2 by omega]
    exact this
theorem infoPt : (Tryd.prog.info? 51).map (fun i => (i.zero, i.size, i.bytes)) = some (some (.agg #[.bool false, .slice none 0 0]), 2, 32) := by kernel_rfl
/-- Parts that are read. -/
def RdPts (w : World) (A : Option Addr) (L : List PtM) : Prop := Blk w 51 A (ptv L) ∧ ∀ x ∈ L, RdTks w x.A x.L
theorem RdPts.below {w w' : World} {A : Option Addr} {L : List PtM} (h : RdPts w A L) (hb : Below w.heap.size w w') : RdPts w' A L := ⟨h.1.below hb, fun x hx => (h.2 x hx).below hb⟩
theorem RdPts.kp {w w' : World} {A : Option Addr} {L : List PtM} {e : TypeId} (h : RdPts w A L) (hb : Kp e w w') (h1 : 51 ≠ e) (h2 : 74 ≠ e) (h3 : 86 ≠ e) : RdPts w' A L := ⟨h.1.kp hb h1, fun x hx => (h.2 x hx).kp hb h2 h3⟩
/-- How long a pattern's parts are. -/
def PtBnd (x : PtM) : Prop := x.L.length ≤ 1000000 ∧ ∀ t ∈ x.L, t.t.l.length ≤ 1000000
end Go.Proofs.YtmagidkgajmhoaaDoor
