/- PlayB: the walk of step. -/
import Derived.Test.YtfkonndbgmmckaaPlayA
import Derived.Test.YtfkonndbgmmckaaReg2
import Derived.Test.YtfkonndbgmmckaaOneP
set_option linter.unusedVariables false
set_option linter.unusedSimpArgs false
namespace Go.Proofs.Ytfkonndbgmmckaa
open Go.RowKit

/-- The document's disk, as one of the things that a call owns. -/
def rf (R : Nat → Prop) (d : Dk) (vl vw : Value) : Part := ⟨R, fun w => RefAt w R d vl vw⟩
theorem rf_good {w : World} {R : Nat → Prop} {d : Dk} {vl vw : Value} (h : RefAt w R d vl vw) : (rf R d vl vw).Good w := ⟨h, h.lt, fun w w' S h ht hS => h.keep ht hS⟩
theorem Mine.ref {w0 w : World} {l1 l2 : List Part} {R : Nat → Prop} {d : Dk} {vl vw : Value} (h : Mine w0 w (l1 ++ rf R d vl vw :: l2)) : RefAt w R d vl vw := (Sep.get (p := rf R d vl vw) h.sep).P
theorem Mine.rto {w0 w w' : World} {l1 l2 : List Part} {R R' : Nat → Prop} {d d' : Dk} {vl vw vl' vw' : Value} (h : Mine w0 w (l1 ++ rf R d vl vw :: l2)) (t : RTo w R d' w' R' vl' vw') : Mine w0 w' (l1 ++ rf R' d' vl' vw' :: l2) := by
  have hR : ∀ k, R k → w0.heap.size ≤ k := h.abv (rf R d vl vw) (by simp)
  refine ⟨h.sep.step (p := rf R d vl vw) (Touch.of_below t.bel) t.new (rf_good t.has), h.bel.trans (t.bel.mono h.bel.size), fun p hp k hk => ?_⟩
  rcases List.mem_append.1 hp with hp | hp
  · exact h.abv p (by simp [hp]) k hk
  · rcases List.mem_cons.1 hp with rfl | hp
    · rcases t.new k hk with hk | hk
      · exact hR k hk
      · have := h.bel.size; omega
    · exact h.abv p (by simp [hp]) k hk
def stepD (d : Dk) (o : OpV) : Dk :=
  if o.kind = 0 then d.write o.at_ o.text else if o.kind = 1 then d.flush else if o.kind = 3 then d.setFuse o.at_ else if o.kind = 4 then d.fail o.picks else if o.kind = 5 then d.start else d
theorem results_tct {fn : Func} {q p u : Tmp} {ty : TypeId} (h : fn.results = #[.tmp q, .cell p ty, .tmp u]) (tmps : Array Value) (P : Program) (w : World) :
    (results fn tmps).run P w = ((asAddr (tmps.getD p undef)).run P w).andThen fun a w₁ => ((loadVar ty a).run P w₁).andThen fun v w₂ => .ok (.tuple #[tmps.getD q undef, v, tmps.getD u undef]) w₂ := by
  simp only [results, h]
  simp [Sem.run_bind, Result.andThen]
theorem ret_ref3 {fn : Func} {q p u : Tmp} (h : fn.results = #[.tmp q, .cell p 50, .tmp u]) (tmps : Array Value) {w : World} {g : Nat} {a b c d e : Value} {t : TypeId} {fr : Nat × Nat} (hp : tmps.getD p undef = .pointer (some ⟨g, 0, none⟩)) (hg : w.heap[g]? = some (.cells #[a, b, c, d, e] t fr)) :
    (results fn tmps).run Try.prog w = .ok (.tuple #[tmps.getD q undef, .agg #[a, b, c, d, e], tmps.getD u undef]) w := by
  rw [results_tct h, hp, asAddr_some]
  simp only [Result.andThen]
  rw [load_ref hg]
/-- A block that a step lays. -/
def bx (g : Nat) (cs : Array Value) (t : TypeId) : Part := ⟨fun k => k = g, fun w => w.heap[g]? = some (.cells cs t (0, 0))⟩
theorem bx_good {w : World} {g : Nat} {cs : Array Value} {t : TypeId} (h : w.heap[g]? = some (.cells cs t (0, 0))) : (bx g cs t).Good w :=
  ⟨h, fun k hk => by have := lt_of_block h; have e : k = g := hk; omega, fun w w' S h ht hS => blk_touch ht h (hS g rfl)⟩
theorem Mine.box {w0 w : World} {l1 l2 : List Part} {g : Nat} {cs : Array Value} {t : TypeId} (h : Mine w0 w (l1 ++ bx g cs t :: l2)) : w.heap[g]? = some (.cells cs t (0, 0)) := (Sep.get (p := bx g cs t) h.sep).P
theorem Mine.newBx {w0 w : World} {ps : List Part} (h : Mine w0 w ps) (g : Nat) (hg : g = w.heap.size) (cs : Array Value) (t : TypeId) : Mine w0 (w.alloc (.cells cs t)) (bx g cs t :: ps) := by
  subst hg
  exact h.new ((Below.refl _ w).alloc (Nat.le_refl _) _) (fun k e => Nat.le_of_eq (show w.heap.size = k from (show k = w.heap.size from e).symm)) (bx_good (blk_new w _))
theorem Mine.setBx {w0 w : World} {l1 l2 : List Part} {g : Nat} {a b c d e a' b' c' d' e' : Value} {t : TypeId} (h : Mine w0 w (l1 ++ bx g #[a, b, c, d, e] t :: l2)) : Mine w0 (set5 w g a' b' c' d' e') (l1 ++ bx g #[a', b', c', d', e'] t :: l2) := by
  have hB : w0.heap.size ≤ g := h.abv (bx g #[a, b, c, d, e] t) (by simp) g rfl
  have ht : Touch (fun k => k = g) w (set5 w g a' b' c' d' e') := set5_touch (Touch.refl _ w) rfl
  refine ⟨h.sep.step (p := bx g #[a, b, c, d, e] t) ht (fun k hk => .inl hk) (bx_good (set5_blk h.box)), h.bel.trans (ht.below h.bel.size (fun k e => by omega)), fun p hp k hk => ?_⟩
  rcases List.mem_append.1 hp with hp | hp
  · exact h.abv p (by simp [hp]) k hk
  · rcases List.mem_cons.1 hp with rfl | hp
    · have e : k = g := hk; omega
    · exact h.abv p (by simp [hp]) k hk
theorem Mine.drop1 {w0 w : World} {p : Part} {l2 : List Part} (h : Mine w0 w (p :: l2)) : Mine w0 w l2 := ⟨Sep.drop (l1 := []) h.sep, h.bel, fun q hq k hk => h.abv q (by simp [hq]) k hk⟩

set_option maxHeartbeats 1600000 in
set_option maxRecDepth 100000 in
theorem step_flush (w0 w : World) (F R : Nat → Prop) (g : Nat) (d : Dk) (vl vw : Value) (ps : List Part) (h : Mine w0 w (dk F g d :: rf R d vl vw :: ps)) (o : OpV) (hk : o.kind = 1) (hm : d.waits.length + 1 ≤ 5864062014805) :
    Calls Try.prog 26 #[.pointer (some ⟨g, 0, none⟩), refV d vl vw, .agg #[.int .i64 o.kind, .int .i64 o.at_, .int .i64 o.long, .int .u8 o.fill.toNat, .slice o.pA o.picks.length o.pc]] w fun e w' =>
      ∃ F' g' R' vl' vw', e = .returned (.tuple #[.pointer (some ⟨g', 0, none⟩), refV d.flush vl' vw', .bool true]) ∧ Mine w0 w' (dk F' g' d.flush :: rf R' d.flush vl' vw' :: ps) := by
  have M := Lib.hid h
  obtain ⟨A, c, rfl⟩ := own_slice (h.ref (l1 := [_])).ownW
  obtain ⟨A2, c2, rfl⟩ := own_slice (h.ref (l1 := [_])).own
  clear h
  rw [hk]
  unfold refV
  have B3 : ∀ a b c, Hid (Below w.heap.size w (((w.alloc a).alloc b).alloc c)) := fun a b c => (((Below.refl _ w).alloc (Nat.le_refl _) a).alloc (by simp) b).alloc (by simp; omega) c
  have M3 : Hid (Mine w0 (((w.alloc (.cells #[.slice A2 d.l.length c2, .slice A d.waits.length c, .int .i64 d.fuse, .int .i64 d.writes, .bool d.down] 50)).alloc (.cells #[.int .i64 1, .int .i64 o.at_, .int .i64 o.long, .int .u8 o.fill.toNat, .slice o.pA o.picks.length o.pc] 35)).alloc (.cells #[.slice none 0 0, .slice none 0 0, .int .i64 0, .int .i64 0, .bool false] 50))
      (bx (w.heap.size + 2) #[.slice none 0 0, .slice none 0 0, .int .i64 0, .int .i64 0, .bool false] 50 :: bx (w.heap.size + 1) #[.int .i64 1, .int .i64 o.at_, .int .i64 o.long, .int .u8 o.fill.toNat, .slice o.pA o.picks.length o.pc] 35 ::
       bx w.heap.size #[.slice A2 d.l.length c2, .slice A d.waits.length c, .int .i64 d.fuse, .int .i64 d.writes, .bool d.down] 50 :: dk F g d :: rf R d (.slice A2 d.l.length c2) (.slice A d.waits.length c) :: ps)) :=
    ((M.out.newBx _ rfl _ _).newBx _ (by simp) _ _).newBx _ (by simp) _ _
  go_enter Try.func26, Try.ntmps26
  have RF := Lib.hid (rflush_any _ R d _ _ (M3.out.ref (l1 := [_, _, _, _])) (by omega))
  unfold refV at RF
  go_wp2_with fail
  refine RF.out.mono ?_
  rintro e w1 ⟨R1, v1, v2, rfl, t1⟩
  obtain ⟨A3, c3, rfl⟩ := own_slice t1.has.ownW
  obtain ⟨A4, c4, rfl⟩ := own_slice t1.has.own
  have M4 := Lib.hid (M3.out.rto (l1 := [_, _, _, _]) t1)
  have r0 := M4.out.box (l1 := [_, _])
  have k0 := blk_cell r0 0; have k1 := blk_cell r0 1; have k2 := blk_cell r0 2; have k3 := blk_cell r0 3; have k4 := blk_cell r0 4
  have f0 := blk_free r0 0; have f1 := blk_free r0 1; have f2 := blk_free r0 2; have f3 := blk_free r0 3; have f4 := blk_free r0 4
  simp only [List.getElem?_toArray, List.getElem?_cons_zero, List.getElem?_cons_succ] at k0 k1 k2 k3 k4
  clear t1 r0 RF M3 M
  go_wp2_with fail
  have M5 : Hid (Mine w0 (set5 w1 w.heap.size (.slice A4 d.flush.l.length c4) (.slice A3 d.flush.waits.length c3) (.int .i64 d.flush.fuse) (.int .i64 d.flush.writes) (.bool d.flush.down)) _) := M4.out.setBx (l1 := [_, _])
  refine (flush_h (M5.out.get (l1 := [_, _, _])) (by omega)).mono ?_
  rintro e w2 ⟨rfl, F2, h2⟩
  have M6 := Lib.hid (M5.out.dk (l1 := [_, _, _]) h2)
  clear M5 M4 h2 k0 k1 k2 k3 k4 f0 f1 f2 f3 f4
  have r0 := M6.out.box (l1 := [_, _])
  have k0 := blk_cell r0 0; have k1 := blk_cell r0 1; have k2 := blk_cell r0 2; have k3 := blk_cell r0 3; have k4 := blk_cell r0 4
  simp only [List.getElem?_toArray, List.getElem?_cons_zero, List.getElem?_cons_succ] at k0 k1 k2 k3 k4
  have q0 := M6.out.box (l1 := [])
  have z0 := blk_cell q0 0; have z1 := blk_cell q0 1; have z2 := blk_cell q0 2; have z3 := blk_cell q0 3; have z4 := blk_cell q0 4
  have y0 := blk_free q0 0; have y1 := blk_free q0 1; have y2 := blk_free q0 2; have y3 := blk_free q0 3; have y4 := blk_free q0 4
  simp only [List.getElem?_toArray, List.getElem?_cons_zero, List.getElem?_cons_succ] at z0 z1 z2 z3 z4
  clear r0 q0
  go_wp2_with fail
  refine wp_region_flag (fun _ => True) [(0, 1), (2, 1), (3, 1), (4, 1), (5, 1), (1, 0), (6, 0), (7, 1)] (by kernel_rfl) (by kernel_rfl) trivial ?_
  simp only [ordered, List.map_cons, List.map_nil, List.getD_cons_zero, List.getD_cons_succ]
  repeat (refine wpF_dry (fun K hK => ?_); go_simp; refine hK _ ?_; clear hK K)
  refine wpF_do ?_
  go_wp2_with fail
  refine ⟨trivial, ?_⟩
  refine wpF_do ?_
  go_wp2_with fail
  refine ⟨trivial, ?_⟩
  repeat (refine wpF_dry (fun K hK => ?_); go_simp; refine hK _ ?_; clear hK K)
  refine wpF_nil ?_
  go_wp2
  have M7 : Hid (Mine w0 ((set5 w2 (w.heap.size + 2) (.slice A4 d.flush.l.length c4) (.slice A3 d.flush.waits.length c3) (.int .i64 d.flush.fuse) (.int .i64 d.flush.writes) (.bool d.flush.down)).drew) _) := (M6.out.setBx (l1 := [])).drew
  refine bodyPost_ret (ret_ref3 rfl _ rfl (M7.out.box (l1 := []))) rfl ?_
  exact ⟨_, _, _, _, _, rfl, M7.out.drop1.drop1.drop1⟩
end Go.Proofs.Ytfkonndbgmmckaa
