/- GlA: a reader of a part: its next byte; whether a byte is one of those that a set wants a stroke for. -/
import Derived.Test.YtmagidkgajmhoaaDoorPathR
import Derived.Test.YtmagidkgajmhoaaDoorBase
import Derived.Test.YtmagidkgajmhoaaDoorGlP
import Derived.Test.YtmagidkgajmhoaaDoorReg
set_option linter.unusedVariables false
set_option linter.unusedSimpArgs false
namespace Go.Proofs.YtmagidkgajmhoaaDoor
open Go.RowKit

theorem own_slice {w : World} {base n : Nat} {e : TypeId} {size : Nat} {v : Value} {xs : List Value} (h : w.ownsRow base e size v n xs) : ∃ a c, v = .slice a n c := by
  obtain ⟨h1, h2⟩ := h
  rcases h2 with ⟨rfl, h0⟩ | ⟨g, cap, cur, hv, _⟩
  · exact ⟨none, 0, by
      rw [h0]⟩
  · exact ⟨_, cap, hv⟩
theorem lt_block {w : World} {g : Nat} {o : Obj} (h : w.heap[g]? = some o) : g < w.heap.size := (Array.getElem?_eq_some_iff.1 h).1
/-- A reader of a text, at a place. -/
def Rdr (w : World) (gr : Nat) (s : ByteArray) (k : Nat) : Prop := w.heap[gr]? = some (.cells #[.string s, .int .i64 (k : Int)] 71 (0, 0))
theorem Rdr.cells {w : World} {gr : Nat} {s : ByteArray} {k : Nat} (h : Rdr w gr s k) : w.cell? ⟨gr, 0, none⟩ = some (.string s) ∧ w.cell? ⟨gr, 1, none⟩ = some (.int .i64 (k : Int)) :=
  ⟨by rw [blk_cell h]; rfl, by rw [blk_cell h]; rfl⟩
/-- It stands at another place. -/
def RdTo (w : World) (gr : Nat) (s : ByteArray) (k : Nat) (w' : World) : Prop := Rdr w' gr s k ∧ Touch (fun j => j = gr) w w'
theorem RdTo.trans {a b c : World} {gr k k' : Nat} {s : ByteArray} (h : RdTo a gr s k b) (h' : RdTo b gr s k' c) : RdTo a gr s k' c := ⟨h'.1, h.2.trans h'.2 (fun _ _ x => x)⟩
theorem RdTo.below {a b c : World} {gr k : Nat} {s : ByteArray} (h : RdTo a gr s k b) (hb : Below b.heap.size b c) : RdTo a gr s k c := ⟨(hb.block _ (lt_block h.1)).trans h.1, h.2.trans (Touch.of_below hb : Touch (fun _ => False) b c) (fun _ _ x => x.elim)⟩
theorem Rdr.below {b c : World} {gr k : Nat} {s : ByteArray} (h : Rdr b gr s k) (hb : Below b.heap.size b c) : Rdr c gr s k := (hb.block _ (lt_block h)).trans h
theorem rdr_set {w : World} {gr : Nat} {s : ByteArray} {k : Nat} (h : Rdr w gr s k) (m : Nat) : RdTo w gr s m (w.setCell ⟨gr, 1, none⟩ (.int .i64 (m : Int))) := by
  refine ⟨?_, (Touch.refl (fun j => j = gr) w).setCell (S := fun j => j = gr) (p := ⟨gr, 1, none⟩) (.inl rfl) _⟩
  have := blk_set h 1 (.int .i64 (m : Int))
  unfold Rdr
  simpa using this
set_option maxHeartbeats 1600000 in
set_option maxRecDepth 100000 in
theorem next_any (w : World) (gr : Nat) (s : ByteArray) (k : Nat) (h : Rdr w gr s k) (hk : k ≤ s.size) (hs : s.size ≤ 1000000) :
    Calls Tryd.prog 45 #[.pointer (some ⟨gr, 0, none⟩)] w fun e w' => (k = s.size ∧ e = .returned (.tuple #[.int .u8 0, .bool false]) ∧ RdTo w gr s k w') ∨ ∃ hlt : k < s.size, e = .returned (.tuple #[.int .u8 (s[k].toNat : Int), .bool true]) ∧ RdTo w gr s (k + 1) w' := by
  obtain ⟨c0, c1⟩ := h.cells
  have d0 : w.drew.cell? ⟨gr, 0, none⟩ = some (.string s) := c0
  have d1 : w.drew.cell? ⟨gr, 1, none⟩ = some (.int .i64 (k : Int)) := c1
  have HR : Hid (RdTo w gr s k w.drew) := RdTo.below ⟨h, Touch.refl _ w⟩ (Below.refl _ w).drew
  have HR1 : Hid (RdTo w gr s (k + 1) (w.drew.setCell ⟨gr, 1, none⟩ (.int .i64 ((k + 1 : Nat) : Int)))) := HR.out.trans (rdr_set HR.out.1 (k + 1))
  have W : Hid (Below w.heap.size w w.drew) := (Below.refl _ w).drew
  by_cases he : k = s.size
  · have de : ((k : Int) == (s.size : Int)) = true := by simp [he]
    have de' : (k == s.size) = true := by simp [he]
    have HE := Lib.hid he
    have fz : w.frozen? ⟨gr, 1, none⟩ = false := by
      unfold Rdr at h
      simp [World.frozen?, h]
    clear he h
    go_enter Tryd.func45, Tryd.ntmps45
    go_wp2_with fail
    refine wp_region_flag (fun w' => w'.cell? ⟨gr, 0, none⟩ = some (.string s) ∧ w'.cell? ⟨gr, 1, none⟩ = some (.int .i64 (k : Int))) [(0, 1), (1, 1), (2, 1), (4, 1), (5, 1), (6, 1), (3, 2), (7, 0), (8, 1), (9, 1)] (by kernel_rfl) (by kernel_rfl) ⟨d0, d1⟩ ?_
    simp only [ordered, List.map_cons, List.map_nil, List.getD_cons_zero, List.getD_cons_succ]
    repeat (refine wpF_dry (fun K hK => ?_); go_simp; refine hK _ ?_; clear hK K)
    refine wpF_read (.int .i64 (k : Int)) rfl (fun w' hS => by obtain ⟨s0, s1⟩ := hS; go_simp) (fun K hK => ?_); go_simp; refine hK _ ?_; clear hK K
    refine wpF_do ?_
    go_wp2_with fail
    refine ⟨⟨d0, d1⟩, ?_⟩
    repeat (refine wpF_dry (fun K hK => ?_); go_simp; refine hK _ ?_; clear hK K)
    refine wpF_nil ?_
    go_wp2
    go_ret2
    exact .inl ⟨HE.out, rfl, HR.out⟩
  · have hlt : k < s.size := by omega
    have de : ((k : Int) == (s.size : Int)) = false := by simp; omega
    have de' : (k == s.size) = false := by simp; omega
    have wk : IntKind.i64.wrap ((k : Int) + 1) = ((k + 1 : Nat) : Int) := by rw [IntKind.wrap_i64]; omega
    have fz : w.frozen? ⟨gr, 1, none⟩ = false := by
      unfold Rdr at h
      simp [World.frozen?, h]
    clear he h
    go_enter Tryd.func45, Tryd.ntmps45
    go_wp2_with fail
    refine wp_region_flag (fun w' => w'.cell? ⟨gr, 0, none⟩ = some (.string s) ∧ w'.cell? ⟨gr, 1, none⟩ = some (.int .i64 (k : Int))) [(0, 1), (1, 1), (2, 1), (4, 1), (5, 1), (6, 1), (3, 2), (7, 0), (8, 1), (9, 1)] (by kernel_rfl) (by kernel_rfl) ⟨d0, d1⟩ ?_
    simp only [ordered, List.map_cons, List.map_nil, List.getD_cons_zero, List.getD_cons_succ]
    repeat (refine wpF_dry (fun K hK => ?_); go_simp; refine hK _ ?_; clear hK K)
    refine wpF_read (.int .i64 (k : Int)) rfl (fun w' hS => by obtain ⟨s0, s1⟩ := hS; go_simp) (fun K hK => ?_); go_simp; refine hK _ ?_; clear hK K
    refine wpF_do ?_
    go_wp2_with fail
    refine ⟨⟨d0, d1⟩, ?_⟩
    repeat (refine wpF_dry (fun K hK => ?_); go_simp; refine hK _ ?_; clear hK K)
    refine wpF_nil ?_
    have R4 : RdTo w gr s (k + 1) (w.setCell ⟨gr, 1, none⟩ (.int .i64 ((k : Int) + 1))).drew.drew := by
      have h0 : Rdr w gr s k := HR.out.1
      refine ((rdr_set h0 (k + 1)).below (Below.refl _ _).drew).below (Below.refl _ _).drew
    obtain ⟨e0, e1⟩ := R4.1.cells
    have HR4 := Lib.hid R4
    have wk2 : IntKind.i64.wrap (((k + 1 : Nat) : Int) - 1) = (k : Int) := by rw [IntKind.wrap_i64]; omega
    have wk3 : IntKind.i64.wrap ((k : Int) + 1 - 1) = (k : Int) := by rw [IntKind.wrap_i64]; omega
    have wk5 : IntKind.i64.wrap (k : Int) = (k : Int) := by rw [IntKind.wrap_i64]; omega
    have wk4 : (k : Int) + 1 - 1 = (k : Int) := by omega
    have hki : (k : Int) < (s.size : Int) := by omega
    clear R4
    go_wp2_with fail
    refine wp_region_flag (fun w' => w'.cell? ⟨gr, 0, none⟩ = some (.string s) ∧ w'.cell? ⟨gr, 1, none⟩ = some (.int .i64 ((k + 1 : Nat) : Int))) [(0, 1), (1, 1), (2, 1), (4, 1), (5, 1), (6, 1), (3, 2), (7, 0), (8, 1), (9, 1), (10, 1), (11, 1)] (by kernel_rfl) (by kernel_rfl) ⟨e0, e1⟩ ?_
    simp only [ordered, List.map_cons, List.map_nil, List.getD_cons_zero, List.getD_cons_succ]
    repeat (refine wpF_dry (fun K hK => ?_); go_simp; refine hK _ ?_; clear hK K)
    refine wpF_read (.string s) rfl (fun w' hS => by obtain ⟨s0, s1⟩ := hS; go_simp) (fun K hK => ?_); go_simp; refine hK _ ?_; clear hK K
    refine wpF_do ?_
    go_wp2_with fail
    refine ⟨⟨e0, e1⟩, ?_⟩
    repeat (refine wpF_dry (fun K hK => ?_); go_simp; refine hK _ ?_; clear hK K)
    refine wpF_nil ?_
    go_wp2
    go_ret2
    exact .inr ⟨hlt, rfl, HR4.out⟩
end Go.Proofs.YtmagidkgajmhoaaDoor
