/- PlM: the walk of step, kind by kind (written by gen_stepx.py). -/
import Derived.Test.YthloinmnojlleaaPlJ
import Derived.Test.YthloinmnojlleaaPlF
set_option linter.unusedVariables false
set_option linter.unusedSimpArgs false
namespace Go.Proofs.Ythloinmnojlleaa
open Go.RowKit

/-- A row of bools. -/
def rb (s : Value) (l : List Bool) : Part := ⟨fun k => s.ownBlock = some k, fun w => OwnL w 0 s l⟩
theorem rb_good {w : World} {s : Value} {l : List Bool} (h : OwnL w 0 s l) : (rb s l).Good w := ⟨h, fun k hk => (World.ownsRow.lt h k hk).2, fun w w' S h ht hS => own_touch h ht hS⟩
theorem Mine.rb {w0 w : World} {l1 l2 : List Part} {s : Value} {l : List Bool} (h : Mine w0 w (l1 ++ Go.Proofs.Ythloinmnojlleaa.rb s l :: l2)) : OwnL w 0 s l := (Sep.get (p := Go.Proofs.Ythloinmnojlleaa.rb s l) h.sep).P
theorem Mine.newRb {w0 w w' : World} {ps : List Part} {s : Value} {l : List Bool} (h : Mine w0 w ps) (hb : Below w.heap.size w w') (ho : OwnL w' w.heap.size s l) : Mine w0 w' (Go.Proofs.Ythloinmnojlleaa.rb s l :: ps) :=
  h.new hb (fun k hk => (World.ownsRow.lt ho k hk).1) (rb_good (ho.base (Nat.zero_le _)))
theorem Mine.perm {w0 w : World} {ps qs : List Part} (h : Mine w0 w ps) (hp : ps.Perm qs) : Mine w0 w qs :=
  ⟨⟨fun p hq => h.sep.1 p (hp.mem_iff.2 hq), hp.pairwise h.sep.2 (fun h k a b => h k b a)⟩, h.bel, fun p hq => h.abv p (hp.mem_iff.2 hq)⟩
/-- Three boxes laid one behind the other. -/
theorem boxes3 (w : World) (x y z : Array Value) (t u r : TypeId) : Hid ((((w.alloc (.cells x t)).alloc (.cells y u)).alloc (.cells z r)).heap[w.heap.size]? = some (.cells x t (0, 0)) ∧ (((w.alloc (.cells x t)).alloc (.cells y u)).alloc (.cells z r)).heap[w.heap.size + 1]? = some (.cells y u (0, 0)) ∧
    (((w.alloc (.cells x t)).alloc (.cells y u)).alloc (.cells z r)).heap[w.heap.size + 1 + 1]? = some (.cells z r (0, 0)) ∧ Below w.heap.size w (((w.alloc (.cells x t)).alloc (.cells y u)).alloc (.cells z r)) ∧ (((w.alloc (.cells x t)).alloc (.cells y u)).alloc (.cells z r)).heap.size = w.heap.size + 1 + 1 + 1) := by
  have g1 := blk_new (w.alloc (.cells x t)) (.cells y u)
  have g2 := blk_new ((w.alloc (.cells x t)).alloc (.cells y u)) (.cells z r)
  rw [World.size_alloc] at g1
  rw [World.size_alloc, World.size_alloc] at g2
  exact ⟨blk_alloc (blk_alloc (blk_new w _) _) _, blk_alloc g1 _, g2, (((Below.refl _ w).alloc (Nat.le_refl _) _).alloc (by simp) _).alloc (by simp; omega) _, by rw [World.size_alloc, World.size_alloc, World.size_alloc]⟩
/-- Both areas, and what was given out. -/
structure Both2 (w0 w : World) (n : Nat) (g : Nat) (s : Value) (nx : Nat) (gv : Value) (m : Nat) (ps : List Part) : Prop where
  ex : ∃ (F : Nat → Prop) (a : Ar) (bits : List Bool) (G : List (Nat × Nat)), Like a bits nx ∧ a.size = n ∧ G.length ≤ m ∧ Mine w0 w (ar F g a :: rb s bits :: rs gv G :: ps)
set_option maxHeartbeats 3200000 in
set_option maxRecDepth 100000 in
theorem step_ask (w0 w : World) (n g : Nat) (s : Value) (nx : Nat) (gv : Value) (m : Nat) (ps : List Part) (h : Both2 w0 w n g s nx gv m ps) (hm : m ≤ 60) (kd on ru po si : Int) (hin : OpE.In ⟨kd, on, ru, po, si⟩) (h0 : (kd == 0) = false) (h1 : (kd == 1) = false) (h2 : (kd == 2) = false) (h3 : (kd == 3) = false) (h4 : (kd == 4) = false) :
    Calls Try.prog 20 #[.pointer (some ⟨g, 0, none⟩), .agg #[s, .int .i64 nx], gv, .agg #[.int .i64 kd, .int .i64 on, .int .i64 ru, .int .i64 po, .int .i64 si]] w fun e w' => ∃ (g' : Nat) (s' : Value) (nx' : Nat) (gv' : Value), e = .returned (.tuple #[.pointer (some ⟨g', 0, none⟩), .agg #[s', .int .i64 nx'], gv', .bool true]) ∧ Both2 w0 w' n g' s' nx' gv' (m + 1) ps := by
  obtain ⟨F, a, bits, G, HL, hn, hG, M0⟩ := h.ex
  have LK := Lib.hid HL
  have HM0 := Lib.hid M0
  have hmost := HL.ok.most
  have hpos := HL.ok.pos
  have hs0 := M0.rb (l1 := [_])
  obtain ⟨A, c, e0⟩ := hs0.slice
  rw [HL.len, hn] at e0
  subst e0
  obtain ⟨Ag, cg, rfl⟩ := (M0.out (l1 := [_, _])).slice
  have TB := boxes3 w #[.slice A n c, .int .i64 (nx : Nat)] #[.int .i64 kd, .int .i64 on, .int .i64 ru, .int .i64 po, .int .i64 si] #[.slice none 0 0, .int .i64 0] 46 32 46
  have M1 : Hid (Mine w0 (((w.alloc (.cells #[.slice A n c, .int .i64 (nx : Nat)] 46)).alloc (.cells #[.int .i64 kd, .int .i64 on, .int .i64 ru, .int .i64 po, .int .i64 si] 32)).alloc (.cells #[.slice none 0 0, .int .i64 0] 46)) (ar F g a :: rb (.slice A n c) bits :: rs (.slice Ag G.length cg) G :: ps)) := M0.below TB.out.2.2.2.1
  have HLn : Hid (bits.length = n ∧ a.size = n) := ⟨HL.len.trans hn, hn⟩
  have HGm := Lib.hid hG
  have HIN := Lib.hid hin
  obtain ⟨w3, hw3⟩ : ∃ w3, w3 = (((w.alloc (.cells #[.slice A n c, .int .i64 (nx : Nat)] 46)).alloc (.cells #[.int .i64 kd, .int .i64 on, .int .i64 ru, .int .i64 po, .int .i64 si] 32)).alloc (.cells #[.slice none 0 0, .int .i64 0] 46)) := ⟨_, rfl⟩
  rw [← hw3] at TB M1
  have BB : Hid (Below w.heap.size w w3) := TB.out.2.2.2.1
  have hsz := TB.out.2.2.2.2
  have k0 := blk_cell TB.out.1 0; have k1 := blk_cell TB.out.1 1; have p0 := blk_cell TB.out.2.1 0; have p1 := blk_cell TB.out.2.1 1; have p2 := blk_cell TB.out.2.1 2; have p3 := blk_cell TB.out.2.1 3; have p4 := blk_cell TB.out.2.1 4; have j0 := blk_cell TB.out.2.2.1 0; have j1 := blk_cell TB.out.2.2.1 1
  have f0 := blk_free TB.out.2.2.1 0; have f1 := blk_free TB.out.2.2.1 1; have fx0 := blk_free TB.out.1 0; have fx1 := blk_free TB.out.1 1
  simp only [List.getElem?_toArray, List.getElem?_cons_zero, List.getElem?_cons_succ] at k0 k1 p0 p1 p2 p3 p4 j0 j1
  rw [hw3] at k0 k1 p0 p1 p2 p3 p4 j0 j1 f0 f1 fx0 fx1
  have HW3 := Lib.hid hw3
  clear HL hn hG M0 hs0 hin hw3 hsz h
  go_enter Try.func20, Try.ntmps20
  go_wp2_with fail
  refine wp_region_flag (fun _ => True) [(0, 1), (2, 1), (3, 1), (4, 1), (5, 1), (6, 1), (1, 0), (7, 0), (8, 1), (9, 1)] (by kernel_rfl) (by kernel_rfl) trivial ?_
  simp only [ordered, List.map_cons, List.map_nil, List.getD_cons_zero, List.getD_cons_succ]
  repeat (refine wpF_dry (fun K hK => ?_); go_simp; refine hK _ ?_; clear hK K)
  refine wpF_do ?_
  go_wp2_with fail
  refine ⟨trivial, ?_⟩
  refine wpF_do ?_
  go_wp2_with fail
  refine ⟨trivial, ?_⟩
  repeat (refine wpF_dry (fun K hK => ?_); go_simp; refine hK _ ?_; clear hK K)
  refine wpF_nil ?_
  go_wp2
  have TE := boxes3 w #[.slice A n c, .int .i64 (nx : Nat)] #[.int .i64 kd, .int .i64 on, .int .i64 ru, .int .i64 po, .int .i64 si] #[.slice A n c, .int .i64 (nx : Nat)] 46 32 46
  refine bodyPost_ret (ret_ra4 rfl _ rfl TE.out.2.2.1) rfl ?_
  exact ⟨g, _, nx, _, rfl, ⟨F, a, bits, G, LK.out, HLn.out.2, by have := HGm.out; omega, HM0.out.below TE.out.2.2.2.1.drew⟩⟩
end Go.Proofs.Ythloinmnojlleaa
