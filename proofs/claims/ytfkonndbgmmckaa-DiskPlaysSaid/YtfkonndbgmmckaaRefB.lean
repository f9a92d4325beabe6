/- RefB: the walks of the document's Start, Fuse. -/
import Derived.Test.YtfkonndbgmmckaaRefA
import Derived.Laws.ResultCell
import Derived.Laws.Rows
set_option linter.unusedVariables false
set_option linter.unusedSimpArgs false
namespace Go.Proofs.Ytfkonndbgmmckaa
open Go.RowKit

theorem infoD : (Try.prog.info? 50).map (·.size) = some 5 := by kernel_rfl
theorem load_ref {w : World} {g : Nat} {a b c d e : Value} {t : TypeId} {fr : Nat × Nat} (hg : w.heap[g]? = some (.cells #[a, b, c, d, e] t fr)) :
    (loadVar 50 ⟨g, 0, none⟩).run Try.prog w = .ok (.agg #[a, b, c, d, e]) w :=
  run_loadVar_row w g t _ _ fr _ hg Try.underlying50 rfl infoD
theorem asAddr_some (x : Addr) (w : World) : (asAddr (.pointer (some x))).run Try.prog w = .ok x w := by simp [asAddr, go_sem]
theorem ret_ref {fn : Func} {p u : Tmp} (h : fn.results = #[.cell p 50, .tmp u]) (tmps : Array Value) {w : World} {g : Nat} {a b c d e : Value} {t : TypeId} {fr : Nat × Nat} (hp : tmps.getD p undef = .pointer (some ⟨g, 0, none⟩)) (hg : w.heap[g]? = some (.cells #[a, b, c, d, e] t fr)) :
    (results fn tmps).run Try.prog w = .ok (.tuple #[.agg #[a, b, c, d, e], tmps.getD u undef]) w := by
  rw [results_cell_tmp h, hp, asAddr_some]
  simp only [Result.andThen]
  rw [load_ref hg]
theorem results_cell1 {fn : Func} {p : Tmp} {ty : TypeId} (h : fn.results = #[.cell p ty]) (tmps : Array Value) (P : Program) (w : World) :
    (results fn tmps).run P w = ((asAddr (tmps.getD p undef)).run P w).andThen fun a w₁ => (loadVar ty a).run P w₁ := by
  simp only [results, h]
  simp [Sem.run_bind, Result.andThen]
theorem ret_ref1 {fn : Func} {p : Tmp} (h : fn.results = #[.cell p 50]) (tmps : Array Value) {w : World} {g : Nat} {a b c d e : Value} {t : TypeId} {fr : Nat × Nat} (hp : tmps.getD p undef = .pointer (some ⟨g, 0, none⟩)) (hg : w.heap[g]? = some (.cells #[a, b, c, d, e] t fr)) :
    (results fn tmps).run Try.prog w = .ok (.agg #[a, b, c, d, e]) w := by
  rw [results_cell1 h, hp, asAddr_some]
  simp only [Result.andThen]
  rw [load_ref hg]
theorem keep2 {w w1 : World} {a b : Obj} (b1 : Below ((w.alloc a).alloc b).heap.size ((w.alloc a).alloc b) w1) : w1.heap[w.heap.size]? = some a ∧ w1.heap[w.heap.size + 1]? = some b ∧ Below w.heap.size w w1 := by
  have e : w.heap.size + 1 = (w.alloc a).heap.size := by simp
  refine ⟨(b1.block w.heap.size (by simp; omega)).trans (blk_alloc (blk_new w a) b), ?_, (((Below.refl _ w).alloc (Nat.le_refl _) a).alloc (by simp) b).trans (b1.mono (by simp; omega))⟩
  refine (b1.block (w.heap.size + 1) (by simp)).trans ?_
  rw [e]
  exact blk_new _ b

theorem rstart_any (w : World) (F : Nat → Prop) (d : Dk) (vl vw : Value) (h : RefAt w F d vl vw) (hm : d.waits.length < 9223372036854775807) :
    Calls Try.prog 36 #[refV d vl vw] w fun e w' => e = .returned (.tuple #[refV d.start vl vw, .int .i64 d.startE]) ∧ Below w.heap.size w w' := by
  unfold refV
  obtain ⟨A, c, rfl⟩ := own_slice h.ownW
  obtain ⟨A2, c2, rfl⟩ := own_slice h.own
  have B2 : ∀ a b, Below w.heap.size w ((w.alloc a).alloc b) := fun a b => ((Below.refl _ w).alloc (Nat.le_refl _) a).alloc (by simp) b
  by_cases hd : d.down = true
  · by_cases hw : d.waits = []
    · have he : Hid (d.startE = 0) := by unfold Hid Dk.startE; rw [if_pos ⟨hd, hw⟩]
      have hs : Hid (d.start = { d with down := false }) := by unfold Hid Dk.start; rw [he.out]; rfl
      have hl : d.waits.length = 0 := by rw [hw]; rfl
      rw [hd, hl]
      clear hw
      go_enter Try.func36, Try.ntmps36
      go_wp2
      refine bodyPost_ret (ret_ref rfl _ rfl (by rw [show w.heap.size + 1 = (w.alloc _).heap.size by simp]; exact blk_new _ _)) rfl ?_
      exact ⟨by rw [hs.out, he.out]; rfl, B2 _ _⟩
    · have he : Hid (d.startE = 8) := by unfold Hid Dk.startE; rw [if_neg (fun h => hw h.2)]
      have hs : Hid (d.start = d) := by unfold Hid Dk.start; rw [he.out]; rfl
      have hl : 0 < d.waits.length := List.length_pos_iff.2 hw
      rw [hd]
      clear hw
      go_enter Try.func36, Try.ntmps36
      go_wp2
      refine bodyPost_ret (ret_ref rfl _ rfl (by rw [show w.heap.size + 1 = (w.alloc _).heap.size by simp]; exact blk_new _ _)) rfl ?_
      exact ⟨by rw [hs.out, he.out, hd]; rfl, B2 _ _⟩
  · have he : Hid (d.startE = 8) := by unfold Hid Dk.startE; rw [if_neg (fun h => hd h.1)]
    have hs : Hid (d.start = d) := by unfold Hid Dk.start; rw [he.out]; rfl
    have hd' : d.down = false := by simpa using hd
    rw [hd']
    clear hd
    go_enter Try.func36, Try.ntmps36
    go_wp2
    refine bodyPost_ret (ret_ref rfl _ rfl (by rw [show w.heap.size + 1 = (w.alloc _).heap.size by simp]; exact blk_new _ _)) rfl ?_
    exact ⟨by rw [hs.out, he.out, hd']; rfl, B2 _ _⟩

/-- Five stores: a struct that is stored whole. -/
def set5 (w : World) (g : Nat) (a b c d e : Value) : World := ((((w.setCell ⟨g, 0, none⟩ a).setCell ⟨g, 1, none⟩ b).setCell ⟨g, 2, none⟩ c).setCell ⟨g, 3, none⟩ d).setCell ⟨g, 4, none⟩ e
theorem set5_blk {w : World} {g : Nat} {t : TypeId} {a b c d e a' b' c' d' e' : Value} (h : w.heap[g]? = some (.cells #[a, b, c, d, e] t (0, 0))) : (set5 w g a' b' c' d' e').heap[g]? = some (.cells #[a', b', c', d', e'] t (0, 0)) := by
  unfold set5
  rw [blk_set (blk_set (blk_set (blk_set (blk_set h 0 a') 1 b') 2 c') 3 d') 4 e']
  rfl
theorem set5_below {w w1 : World} {g B : Nat} {a b c d e : Value} (h : Below B w w1) (hg : B ≤ g) : Below B w (set5 w1 g a b c d e) :=
  ((((h.setCell (p := ⟨g, 0, none⟩) hg a).setCell (p := ⟨g, 1, none⟩) hg b).setCell (p := ⟨g, 2, none⟩) hg c).setCell (p := ⟨g, 3, none⟩) hg d).setCell (p := ⟨g, 4, none⟩) hg e
theorem rfuse_any (w : World) (F : Nat → Prop) (d : Dk) (vl vw : Value) (h : RefAt w F d vl vw) (n : Int) :
    Calls Try.prog 34 #[refV d vl vw, .int .i64 n] w fun e w' => e = .returned (.tuple #[refV (d.setFuse n) vl vw, .int .i64 (d.setFuseE n)]) ∧ Below w.heap.size w w' := by
  have H := Lib.hid h
  obtain ⟨A, c, rfl⟩ := own_slice h.ownW
  obtain ⟨A2, c2, rfl⟩ := own_slice h.own
  clear h
  have B2 : ∀ a b, Hid (Below w.heap.size w ((w.alloc a).alloc b)) := fun a b => ((Below.refl _ w).alloc (Nat.le_refl _) a).alloc (by simp) b
  have why : ∀ a b, Hid (Calls Try.prog 38 #[refV d _ _, .int .i64 0] ((w.alloc a).alloc b) fun e w' => e = .returned (.int .i64 (d.use 0)) ∧ Below ((w.alloc a).alloc b).heap.size ((w.alloc a).alloc b) w') := fun a b => why_any _ F d _ _ (H.out.below (B2 a b).out) 0
  unfold refV at why ⊢
  have nq : decide (n < 0) = false → ¬ n < 0 := by simp
  by_cases hu : d.use 0 = 0
  · rw [hu] at why
    by_cases hn : n < 0
    · have he : Hid (d.setFuseE n = 9) := by unfold Hid Dk.setFuseE; rw [if_pos hu, if_pos hn]
      have hs : Hid (d.setFuse n = d) := by unfold Hid Dk.setFuse; rw [he.out]; rfl
      clear hu
      go_enter Try.func34, Try.ntmps34
      go_wp2_with fail
      refine ((why _ _).out).mono ?_
      rintro e w1 ⟨rfl, b1⟩
      obtain ⟨g0, g1, bb⟩ := keep2 b1
      have BB := Lib.hid bb; have G0 := Lib.hid g0; have G1 := Lib.hid g1
      have c0 := blk_cell g0 0; have c1 := blk_cell g0 1; have c2 := blk_cell g0 2; have c3 := blk_cell g0 3; have c4 := blk_cell g0 4
      have z0 := blk_cell g1 0; have z1 := blk_cell g1 1; have z2 := blk_cell g1 2; have z3 := blk_cell g1 3; have z4 := blk_cell g1 4
      have f0 := blk_free g1 0; have f1 := blk_free g1 1; have f2 := blk_free g1 2; have f3 := blk_free g1 3; have f4 := blk_free g1 4
      have f5 := blk_free g0 2
      simp at c0 c1 c2 c3 c4 z0 z1 z2 z3 z4
      clear b1 bb g0 g1
      go_wp2
      refine bodyPost_ret (ret_ref rfl _ rfl (set5_blk G1.out)) rfl ?_
      exact ⟨by rw [hs.out, he.out]; rfl, set5_below BB.out (by omega)⟩
    · have he : Hid (d.setFuseE n = 0) := by unfold Hid Dk.setFuseE; rw [if_pos hu, if_neg hn]
      have hs : Hid (d.setFuse n = { d with fuse := n }) := by unfold Hid Dk.setFuse; rw [he.out]; rfl
      clear hu
      go_enter Try.func34, Try.ntmps34
      go_wp2_with fail
      refine ((why _ _).out).mono ?_
      rintro e w1 ⟨rfl, b1⟩
      obtain ⟨g0, g1, bb⟩ := keep2 b1
      have BB := Lib.hid bb; have G0 := Lib.hid g0; have G1 := Lib.hid g1
      have c0 := blk_cell g0 0; have c1 := blk_cell g0 1; have c2 := blk_cell g0 2; have c3 := blk_cell g0 3; have c4 := blk_cell g0 4
      have z0 := blk_cell g1 0; have z1 := blk_cell g1 1; have z2 := blk_cell g1 2; have z3 := blk_cell g1 3; have z4 := blk_cell g1 4
      have f0 := blk_free g1 0; have f1 := blk_free g1 1; have f2 := blk_free g1 2; have f3 := blk_free g1 3; have f4 := blk_free g1 4
      have f5 := blk_free g0 2
      simp at c0 c1 c2 c3 c4 z0 z1 z2 z3 z4
      clear b1 bb g0 g1
      go_wp2
      refine bodyPost_ret (ret_ref rfl _ rfl (set5_blk (w := w1.setCell ⟨w.heap.size, 2, none⟩ (.int .i64 n)) (by rw [blk_set_ne (by simp)]; exact G1.out))) rfl ?_
      exact ⟨by rw [hs.out, he.out]; rfl, set5_below (BB.out.setCell (p := ⟨w.heap.size, 2, none⟩) (Nat.le_refl _) _) (by omega)⟩
  · have he : Hid (d.setFuseE n = d.use 0) := by unfold Hid Dk.setFuseE; rw [if_neg hu]
    have hs : Hid (d.setFuse n = d) := by unfold Hid Dk.setFuse; rw [he.out, if_neg hu]
    have hu1 : (d.use 0 == 0) = false := by simp [hu]
    clear hu
    go_enter Try.func34, Try.ntmps34
    go_wp2_with fail
    refine ((why _ _).out).mono ?_
    rintro e w1 ⟨rfl, b1⟩
    obtain ⟨g0, g1, bb⟩ := keep2 b1
    have BB := Lib.hid bb; have G0 := Lib.hid g0; have G1 := Lib.hid g1
    have c0 := blk_cell g0 0; have c1 := blk_cell g0 1; have c2 := blk_cell g0 2; have c3 := blk_cell g0 3; have c4 := blk_cell g0 4
    have z0 := blk_cell g1 0; have z1 := blk_cell g1 1; have z2 := blk_cell g1 2; have z3 := blk_cell g1 3; have z4 := blk_cell g1 4
    have f0 := blk_free g1 0; have f1 := blk_free g1 1; have f2 := blk_free g1 2; have f3 := blk_free g1 3; have f4 := blk_free g1 4
    have f5 := blk_free g0 2
    simp at c0 c1 c2 c3 c4 z0 z1 z2 z3 z4
    clear b1 bb g0 g1
    go_wp2
    refine bodyPost_ret (ret_ref rfl _ rfl (set5_blk G1.out)) rfl ?_
    exact ⟨by rw [hs.out, he.out]; rfl, set5_below BB.out (by omega)⟩
end Go.Proofs.Ytfkonndbgmmckaa
