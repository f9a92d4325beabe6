/- RefB: the walks of the document's Start, Fuse. -/
import Derived.Test.YtpaabfadniakoaaMp18
import Derived.Laws.ResultCell
import Derived.Laws.Rows
import Derived.Laws.AppendOwnNone
set_option linter.unusedVariables false
set_option linter.unusedSimpArgs false
namespace Go.Proofs.Ytpaabfadniakoaa
open Go.RowKit

theorem infoD : (Try.prog.info? 57).map (·.size) = some 5 := by kernel_rfl
theorem load_ref {w : World} {g : Nat} {a b c d e : Value} {t : TypeId} {fr : Nat × Nat} (hg : w.heap[g]? = some (.cells #[a, b, c, d, e] t fr)) :
    (loadVar 57 ⟨g, 0, none⟩).run Try.prog w = .ok (.agg #[a, b, c, d, e]) w :=
  run_loadVar_row w g t _ _ fr _ hg Try.underlying57 rfl infoD
theorem asAddr_some (x : Addr) (w : World) : (asAddr (.pointer (some x))).run Try.prog w = .ok x w := by simp [asAddr, go_sem]
theorem ret_ref {fn : Func} {p u : Tmp} (h : fn.results = #[.cell p 57, .tmp u]) (tmps : Array Value) {w : World} {g : Nat} {a b c d e : Value} {t : TypeId} {fr : Nat × Nat} (hp : tmps.getD p undef = .pointer (some ⟨g, 0, none⟩)) (hg : w.heap[g]? = some (.cells #[a, b, c, d, e] t fr)) :
    (results fn tmps).run Try.prog w = .ok (.tuple #[.agg #[a, b, c, d, e], tmps.getD u undef]) w := by
  rw [results_cell_tmp h, hp, asAddr_some]
  simp only [Result.andThen]
  rw [load_ref hg]
theorem results_cell1 {fn : Func} {p : Tmp} {ty : TypeId} (h : fn.results = #[.cell p ty]) (tmps : Array Value) (P : Program) (w : World) :
    (results fn tmps).run P w = ((asAddr (tmps.getD p undef)).run P w).andThen fun a w₁ => (loadVar ty a).run P w₁ := by
  simp only [results, h]
  simp [Sem.run_bind, Result.andThen]
theorem ret_ref1 {fn : Func} {p : Tmp} (h : fn.results = #[.cell p 57]) (tmps : Array Value) {w : World} {g : Nat} {a b c d e : Value} {t : TypeId} {fr : Nat × Nat} (hp : tmps.getD p undef = .pointer (some ⟨g, 0, none⟩)) (hg : w.heap[g]? = some (.cells #[a, b, c, d, e] t fr)) :
    (results fn tmps).run Try.prog w = .ok (.agg #[a, b, c, d, e]) w := by
  rw [results_cell1 h, hp, asAddr_some]
  simp only [Result.andThen]
  rw [load_ref hg]
theorem keep2 {w w1 : World} {a b : Obj} (b1 : Below ((w.alloc a).alloc b).heap.size ((w.alloc a).alloc b) w1) : w1.heap[w.heap.size]? = some a ∧ w1.heap[w.heap.size + 1]? = some b ∧ Below w.heap.size w w1 := by
  have e : w.heap.size + 1 = (w.alloc a).heap.size := by simp
  refine ⟨(b1.block w.heap.size (by simp; omega)).trans (blk_alloc (blk_new w a) b), ?_, (((Below.refl _ w).alloc (Nat.le_refl _) a).alloc (by simp) b).trans (b1.mono (by simp; omega))⟩
  refine (b1.block (w.heap.size + 1) (by simp)).trans ?_
  rw [e]
  exact blk_new _ b

theorem rstart_any (w : World) (F : Nat → Prop) (d : Dk) (vl vw : Value) (h : RefAt w F d vl vw) (hm : d.waits.length < 9223372036854775807) :
    Calls Try.prog 32 #[refV d vl vw] w fun e w' => e = .returned (.tuple #[refV d.start vl vw, .int .i64 d.startE]) ∧ Below w.heap.size w w' := by
  unfold refV
  obtain ⟨A, c, rfl⟩ := own_slice h.ownW
  obtain ⟨A2, c2, rfl⟩ := own_slice h.own
  have B2 : ∀ a b, Below w.heap.size w ((w.alloc a).alloc b) := fun a b => ((Below.refl _ w).alloc (Nat.le_refl _) a).alloc (by simp) b
  by_cases hd : d.down = true
  · by_cases hw : d.waits = []
    · have he : Hid (d.startE = 0) := by unfold Hid Dk.startE; rw [if_pos ⟨hd, hw⟩]
      have hs : Hid (d.start = { d with down := false }) := by unfold Hid Dk.start; rw [he.out]; rfl
      have hl : d.waits.length = 0 := by rw [hw]; rfl
      rw [hd, hl]
      clear hw
      go_enter Try.func32, Try.ntmps32
      go_wp2
      refine bodyPost_ret (ret_ref rfl _ rfl (by rw [show w.heap.size + 1 = (w.alloc _).heap.size by simp]; exact blk_new _ _)) rfl ?_
      exact ⟨by rw [hs.out, he.out]; rfl, B2 _ _⟩
    · have he : Hid (d.startE = 8) := by unfold Hid Dk.startE; rw [if_neg (fun h => hw h.2)]
      have hs : Hid (d.start = d) := by unfold Hid Dk.start; rw [he.out]; rfl
      have hl : 0 < d.waits.length := List.length_pos_iff.2 hw
      rw [hd]
      clear hw
      go_enter Try.func32, Try.ntmps32
      go_wp2
      refine bodyPost_ret (ret_ref rfl _ rfl (by rw [show w.heap.size + 1 = (w.alloc _).heap.size by simp]; exact blk_new _ _)) rfl ?_
      exact ⟨by rw [hs.out, he.out, hd]; rfl, B2 _ _⟩
  · have he : Hid (d.startE = 8) := by unfold Hid Dk.startE; rw [if_neg (fun h => hd h.1)]
    have hs : Hid (d.start = d) := by unfold Hid Dk.start; rw [he.out]; rfl
    have hd' : d.down = false := by simpa using hd
    rw [hd']
    clear hd
    go_enter Try.func32, Try.ntmps32
    go_wp2
    refine bodyPost_ret (ret_ref rfl _ rfl (by rw [show w.heap.size + 1 = (w.alloc _).heap.size by simp]; exact blk_new _ _)) rfl ?_
    exact ⟨by rw [hs.out, he.out, hd']; rfl, B2 _ _⟩

/-- Five stores: a struct that is stored whole. -/
def set5 (w : World) (g : Nat) (a b c d e : Value) : World := ((((w.setCell ⟨g, 0, none⟩ a).setCell ⟨g, 1, none⟩ b).setCell ⟨g, 2, none⟩ c).setCell ⟨g, 3, none⟩ d).setCell ⟨g, 4, none⟩ e
theorem set5_blk {w : World} {g : Nat} {t : TypeId} {a b c d e a' b' c' d' e' : Value} (h : w.heap[g]? = some (.cells #[a, b, c, d, e] t (0, 0))) : (set5 w g a' b' c' d' e').heap[g]? = some (.cells #[a', b', c', d', e'] t (0, 0)) := by
  unfold set5
  rw [blk_set (blk_set (blk_set (blk_set (blk_set h 0 a') 1 b') 2 c') 3 d') 4 e']
  rfl
theorem set5_below {w w1 : World} {g B : Nat} {a b c d e : Value} (h : Below B w w1) (hg : B ≤ g) : Below B w (set5 w1 g a b c d e) :=
  ((((h.setCell (p := ⟨g, 0, none⟩) hg a).setCell (p := ⟨g, 1, none⟩) hg b).setCell (p := ⟨g, 2, none⟩) hg c).setCell (p := ⟨g, 3, none⟩) hg d).setCell (p := ⟨g, 4, none⟩) hg e
theorem rfuse_any (w : World) (F : Nat → Prop) (d : Dk) (vl vw : Value) (h : RefAt w F d vl vw) (n : Int) :
    Calls Try.prog 29 #[refV d vl vw, .int .i64 n] w fun e w' => e = .returned (.tuple #[refV (d.setFuse n) vl vw, .int .i64 (d.setFuseE n)]) ∧ Below w.heap.size w w' := by
  have H := Lib.hid h
  obtain ⟨A, c, rfl⟩ := own_slice h.ownW
  obtain ⟨A2, c2, rfl⟩ := own_slice h.own
  clear h
  have B2 : ∀ a b, Hid (Below w.heap.size w ((w.alloc a).alloc b)) := fun a b => ((Below.refl _ w).alloc (Nat.le_refl _) a).alloc (by simp) b
  have why : ∀ a b, Hid (Calls Try.prog 58 #[refV d _ _, .int .i64 0] ((w.alloc a).alloc b) fun e w' => e = .returned (.int .i64 (d.use 0)) ∧ Below ((w.alloc a).alloc b).heap.size ((w.alloc a).alloc b) w') := fun a b => why_any _ F d _ _ (H.out.below (B2 a b).out) 0
  unfold refV at why ⊢
  have nq : decide (n < 0) = false → ¬ n < 0 := by simp
  by_cases hu : d.use 0 = 0
  · rw [hu] at why
    by_cases hn : n < 0
    · have he : Hid (d.setFuseE n = 9) := by unfold Hid Dk.setFuseE; rw [if_pos hu, if_pos hn]
      have hs : Hid (d.setFuse n = d) := by unfold Hid Dk.setFuse; rw [he.out]; rfl
      clear hu
      go_enter Try.func29, Try.ntmps29
      go_wp2_with fail
      refine ((why _ _).out).mono ?_
      rintro e w1 ⟨rfl, b1⟩
      obtain ⟨g0, g1, bb⟩ := keep2 b1
      have BB := Lib.hid bb; have G0 := Lib.hid g0; have G1 := Lib.hid g1
      have c0 := blk_cell g0 0; have c1 := blk_cell g0 1; have c2 := blk_cell g0 2; have c3 := blk_cell g0 3; have c4 := blk_cell g0 4
      have z0 := blk_cell g1 0; have z1 := blk_cell g1 1; have z2 := blk_cell g1 2; have z3 := blk_cell g1 3; have z4 := blk_cell g1 4
      have f0 := blk_free g1 0; have f1 := blk_free g1 1; have f2 := blk_free g1 2; have f3 := blk_free g1 3; have f4 := blk_free g1 4
      have f5 := blk_free g0 2
      simp at c0 c1 c2 c3 c4 z0 z1 z2 z3 z4
      clear b1 bb g0 g1
      go_wp2
      refine bodyPost_ret (ret_ref rfl _ rfl (set5_blk G1.out)) rfl ?_
      exact ⟨by rw [hs.out, he.out]; rfl, set5_below BB.out (by omega)⟩
    · have he : Hid (d.setFuseE n = 0) := by unfold Hid Dk.setFuseE; rw [if_pos hu, if_neg hn]
      have hs : Hid (d.setFuse n = { d with fuse := n }) := by unfold Hid Dk.setFuse; rw [he.out]; rfl
      clear hu
      go_enter Try.func29, Try.ntmps29
      go_wp2_with fail
      refine ((why _ _).out).mono ?_
      rintro e w1 ⟨rfl, b1⟩
      obtain ⟨g0, g1, bb⟩ := keep2 b1
      have BB := Lib.hid bb; have G0 := Lib.hid g0; have G1 := Lib.hid g1
      have c0 := blk_cell g0 0; have c1 := blk_cell g0 1; have c2 := blk_cell g0 2; have c3 := blk_cell g0 3; have c4 := blk_cell g0 4
      have z0 := blk_cell g1 0; have z1 := blk_cell g1 1; have z2 := blk_cell g1 2; have z3 := blk_cell g1 3; have z4 := blk_cell g1 4
      have f0 := blk_free g1 0; have f1 := blk_free g1 1; have f2 := blk_free g1 2; have f3 := blk_free g1 3; have f4 := blk_free g1 4
      have f5 := blk_free g0 2
      simp at c0 c1 c2 c3 c4 z0 z1 z2 z3 z4
      clear b1 bb g0 g1
      go_wp2
      refine bodyPost_ret (ret_ref rfl _ rfl (set5_blk (w := w1.setCell ⟨w.heap.size, 2, none⟩ (.int .i64 n)) (by rw [blk_set_ne (by simp)]; exact G1.out))) rfl ?_
      exact ⟨by rw [hs.out, he.out]; rfl, set5_below (BB.out.setCell (p := ⟨w.heap.size, 2, none⟩) (Nat.le_refl _) _) (by omega)⟩
  · have he : Hid (d.setFuseE n = d.use 0) := by unfold Hid Dk.setFuseE; rw [if_neg hu]
    have hs : Hid (d.setFuse n = d) := by unfold Hid Dk.setFuse; rw [he.out, if_neg hu]
    have hu1 : (d.use 0 == 0) = false := by simp [hu]
    clear hu
    go_enter Try.func29, Try.ntmps29
    go_wp2_with fail
    refine ((why _ _).out).mono ?_
    rintro e w1 ⟨rfl, b1⟩
    obtain ⟨g0, g1, bb⟩ := keep2 b1
    have BB := Lib.hid bb; have G0 := Lib.hid g0; have G1 := Lib.hid g1
    have c0 := blk_cell g0 0; have c1 := blk_cell g0 1; have c2 := blk_cell g0 2; have c3 := blk_cell g0 3; have c4 := blk_cell g0 4
    have z0 := blk_cell g1 0; have z1 := blk_cell g1 1; have z2 := blk_cell g1 2; have z3 := blk_cell g1 3; have z4 := blk_cell g1 4
    have f0 := blk_free g1 0; have f1 := blk_free g1 1; have f2 := blk_free g1 2; have f3 := blk_free g1 3; have f4 := blk_free g1 4
    have f5 := blk_free g0 2
    simp at c0 c1 c2 c3 c4 z0 z1 z2 z3 z4
    clear b1 bb g0 g1
    go_wp2
    refine bodyPost_ret (ret_ref rfl _ rfl (set5_blk G1.out)) rfl ?_
    exact ⟨by rw [hs.out, he.out]; rfl, set5_below BB.out (by omega)⟩
end Go.Proofs.Ytpaabfadniakoaa
/- RefC: the walk of the document's Fail. -/
set_option linter.unusedVariables false
set_option linter.unusedSimpArgs false
namespace Go.Proofs.Ytpaabfadniakoaa
open Go.RowKit

/-- Which of the writes come: all, or those that are picked. -/
def rpick (picks : List Bool) (all : Bool) (i : Nat) : Bool := all || picks.getD i false
def rfailD (d : Dk) (picks : List Bool) (all : Bool) : Dk := if all then d.settled (rpick picks all) else { d.settled (rpick picks all) with down := true, fuse := 0 }
/-- What a call gives: the document's disk d', of what there was and of new blocks. -/
structure RTo (w : World) (F : Nat → Prop) (d' : Dk) (w' : World) (F' : Nat → Prop) (vl vw : Value) : Prop where
  has : RefAt w' F' d' vl vw
  new : ∀ k, F' k → F k ∨ w.heap.size ≤ k
  bel : Below w.heap.size w w'

theorem set5_touch {S : Nat → Prop} {w w1 : World} {g : Nat} {a b c d e : Value} (h : Touch S w w1) (hg : S g) : Touch S w (set5 w1 g a b c d e) :=
  ((((h.setCell (p := ⟨g, 0, none⟩) (.inl hg) a).setCell (p := ⟨g, 1, none⟩) (.inl hg) b).setCell (p := ⟨g, 2, none⟩) (.inl hg) c).setCell (p := ⟨g, 3, none⟩) (.inl hg) d).setCell (p := ⟨g, 4, none⟩) (.inl hg) e
theorem rfailD_ok {d : Dk} (h : d.Ok) (picks : List Bool) (all : Bool) : (rfailD d picks all).Ok := by
  have k := h.settled (rpick picks all)
  unfold rfailD
  split
  · exact k
  · exact ⟨k.at_, by simp, by simp, k.writes0, k.pos, k.most⟩
theorem rfailD_l (d : Dk) (picks : List Bool) (all : Bool) : (rfailD d picks all).l = Dk.settle (rpick picks all) 0 d.waits d.l ∧ (rfailD d picks all).waits = [] ∧ (rfailD d picks all).writes = d.writes := by
  unfold rfailD; split <;> exact ⟨rfl, rfl, rfl⟩
/-- The end of the document's Fail. -/
theorem rfail_to {w wr W : World} {F : Nat → Prop} {d : Dk} {picks : List Bool} {all : Bool} {cp : Nat} (hok : d.Ok) (hB : Below w.heap.size w wr)
    (ho : wr.ownsRow 0 9 1 (.slice (some ⟨w.heap.size + 2, 0, none⟩) d.l.length cp) d.l.length (strs (Dk.settle (rpick picks all) 0 d.waits d.l)))
    (ht : Touch (fun k => k = w.heap.size ∨ k = w.heap.size + 1) wr W) : RTo w F (rfailD d picks all) W (fun k => k = w.heap.size + 2) (.slice (some ⟨w.heap.size + 2, 0, none⟩) d.l.length cp) (.slice none 0 0) := by
  obtain ⟨e1, e2, _⟩ := rfailD_l d picks all
  have o := own_touch ho ht (fun k hk => by simp [Value.ownBlock] at hk; omega)
  refine ⟨⟨?_, ?_, fun k hk => by simp [Value.ownBlock] at hk; omega, fun k hk => by simp [Value.ownBlock] at hk, fun k hk => ?_, rfailD_ok hok _ _, fun _ => rfl⟩, fun k hk => .inr (by omega), hB.trans (ht.below hB.size (fun k hk => by omega))⟩
  · rw [e1, Dk.settle_length]; exact o
  · rw [e2]; exact World.ownsRow_nil _ _ _ _
  · have := (o.lt (w.heap.size + 2) rfl).2; omega

set_option maxHeartbeats 1600000 in
set_option maxRecDepth 100000 in
theorem rfail_any (w : World) (F : Nat → Prop) (d : Dk) (vl vw : Value) (h : RefAt w F d vl vw) (hm : d.waits.length < 9223372036854775807) (A0 : Option Addr) (pc : Nat) (picks : List Bool) (hr : RdB w (.slice A0 picks.length pc) picks) (all : Bool) :
    Calls Try.prog 31 #[refV d vl vw, .slice A0 picks.length pc, .bool all] w fun e w' => ∃ F' vl', e = .returned (refV (rfailD d picks all) vl' (.slice none 0 0)) ∧ RTo w F (rfailD d picks all) w' F' vl' (.slice none 0 0) := by
  have H := Lib.hid h
  have HR := Lib.hid hr
  have hno := h.ok.at_
  have hlen := h.ok.most
  have hpos := h.ok.pos
  obtain ⟨gl, cl, rfl, hfl, _, _⟩ := h.sector
  have hgl : gl < w.heap.size := h.lt gl hfl
  obtain ⟨A, c, rfl⟩ := own_slice h.ownW
  obtain ⟨i0, hi, hz0, hz1, hz2⟩ := info_parts infoS
  have hsrc : ∀ W, Below w.heap.size w W → ∀ j u, (strs d.l)[j]? = some u → W.cell? ((⟨gl, 0, none⟩ : Addr).add j) = some u := fun W hb j u hu => cell_below hb (h.own.cells (g := gl) rfl j u hu)
  have HSRC := Lib.hid hsrc
  have B2 : ∀ a b, Hid (Below w.heap.size w ((w.alloc a).alloc b)) := fun a b => ((Below.refl _ w).alloc (Nat.le_refl _) a).alloc (by simp) b
  clear hsrc h hr
  unfold refV
  go_enter Try.func31, Try.ntmps31
  go_wp2_with (at_builtin; refine wpList_append_own_at _ rfl (.tmp 9) (.tmp 11) 47 rfl 0 9 i0 _ 1 16 Try.underlying47 hi hz0 hz1 hz2 rfl (by decide) (.slice none 0 0) 0 [] rfl (World.ownsRow_nil _ _ _ _) ⟨gl, 0, none⟩ d.l.length cl (strs d.l) rfl (by simp [strs]) (HSRC.out _ (B2 _ _).out) ?c2 (by unfold maxLen; omega) (by omega) (Nat.zero_le _) ?_)
  case c2 => intro u hu; simp only [strs, List.mem_map] at hu; obtain ⟨x, _, rfl⟩ := hu; rfl
  intro v1 w1 ho1 hg1 _ hat1
  try simp only [Nat.zero_add, List.nil_append] at ho1
  have g0 := blk_grown hg1 (blk_alloc (blk_new w _) _) (by simp [Value.ownBlock])
  have g1' := blk_grown hg1 (heap_alloc2_new w _ _) (by simp [Value.ownBlock])
  have hB1 : Hid (Below w.heap.size w w1) := (B2 _ _).out.grown hg1 (by simp; omega) (fun k e => by simp [Value.ownBlock] at e)
  obtain ⟨m, hm1⟩ : ∃ m, d.l.length = m + 1 := ⟨d.l.length - 1, by omega⟩
  have hsh : ∃ g1 cp, v1 = .slice (some ⟨g1, 0, none⟩) d.l.length cp := by rw [hm1] at ho1 ⊢; exact own_shape ho1
  clear hm1
  obtain ⟨g1, cp, rfl⟩ := hsh
  obtain rfl : g1 = w.heap.size + 2 := by rcases hat1 with e | e <;> simp [Value.ownBlock] at e; omega
  have HO1 := Lib.hid ho1; have G0 := Lib.hid g0; have G1 := Lib.hid g1'
  clear ho1 hg1 hat1 g0 g1' B2 HSRC hi hz0 hz1 hz2
  obtain ⟨p, hp⟩ : ∃ p, p = rpick picks all := ⟨_, rfl⟩
  have HP := Lib.hid hp
  clear hp
  go_wp2_with fail
  go_loopw [8, 13] (fun j j2 wr => ∃ k : Nat, k ≤ d.waits.length ∧ j = .int .i64 k ∧ Hid (wr.ownsRow 0 9 1 (.slice (some ⟨w.heap.size + 2, 0, none⟩) d.l.length cp) d.l.length (strs (Dk.settle p 0 (d.waits.take k) d.l))) ∧ Hid (Touch (fun k => k = w.heap.size + 2) w1 wr)) (fun j _ _ => d.waits.length - (intOf j).toNat)
  case atStart => exact ⟨0, Nat.zero_le _, rfl, HO1, Touch.refl _ _⟩
  case round =>
    obtain ⟨k, hk, rfl, ho, ht⟩ := hrel
    have n0 : ¬ w.heap.size = w.heap.size + 2 := by omega
    have n1 : ¬ w.heap.size + 1 = w.heap.size + 2 := by omega
    have R0 := Lib.hid (blk_touch ht.out G0.out n0)
    have R1 := Lib.hid (blk_touch ht.out G1.out n1)
    have k0 := blk_cell R0.out 0; have k1 := blk_cell R0.out 1; have k2 := blk_cell R0.out 2; have k3 := blk_cell R0.out 3; have k4 := blk_cell R0.out 4
    simp at k0 k1 k2 k3 k4
    have hB : Hid (Below w.heap.size w wr) := (Touch.below ht.out (B := w.heap.size) (by have := hB1.out.size; omega) (fun k e => by omega)) |> fun z => hB1.out.trans (z.mono (Nat.le_refl _))
    by_cases hlt : k < d.waits.length
    · obtain ⟨gw, rfl, hfw, a1, a2⟩ := H.out.wait _ _ rfl k hlt
      have hgw : gw < w.heap.size := H.out.lt gw hfw
      obtain ⟨hx0, hx1⟩ := hno d.waits[k] (List.getElem_mem hlt)
      obtain ⟨n, hn⟩ := Int.eq_ofNat_of_zero_le hx0
      rw [hn] at hx1 a1
      have e1 := cell_below hB.out a1
      have e2 := cell_below hB.out a2
      have hn1 : n < d.l.length := by omega
      have e5 : wr.cell? ⟨w.heap.size + 2, n, none⟩ = some (.string ((Dk.settle p 0 (d.waits.take k) d.l).getD n ByteArray.empty)) := by
        have := ho.out.cellAt n (by omega)
        rw [this]
        have hl : n < (Dk.settle p 0 (d.waits.take k) d.l).length := by rw [Dk.settle_length]; exact hn1
        simp [strs, List.getElem?_map, List.getElem?_eq_getElem hl]
      have f5 := ho.out.frozenAt (g := w.heap.size + 2) n
      have hts : d.waits.take (k + 1) = d.waits.take k ++ [d.waits[k]] := by rw [List.take_succ_eq_append_getElem hlt]
      have hss := Lib.hid (settle_snoc p d.waits[k] (d.waits.take k) 0 d.l)
      rw [← hts, hn] at hss
      have hlk : (d.waits.take k).length = k := by simp; omega
      rw [hlk, Nat.zero_add] at hss
      clear a1 a2 hn hts hlk hx0 hx1
      have ne1 : ¬ gw = w.heap.size + 2 := by omega
      cases all with
      | true =>
        have hpk : Hid (p k = true) := by unfold Hid; rw [HP.out]; rfl
        have hss2 := Lib.hid (hss.out.trans (if_pos hpk.out))
        clear hpk hss
        go_wp2_with fail
        refine wp_region_flag (fun w' => w'.cell? ⟨w.heap.size, 1, none⟩ = some (.slice (some ⟨gw, 0, none⟩) d.waits.length c) ∧ w'.cell? ⟨gw, k * 2, none⟩ = some (.int .i64 (n : Int))) [(0, 1), (1, 1), (3, 1), (7, 1), (9, 1), (2, 2), (4, 1), (5, 1), (6, 2), (8, 0), (10, 1), (11, 1), (12, 0), (13, 1), (14, 0)] (by kernel_rfl) (by kernel_rfl) ⟨k1, e1⟩ ?_
        simp only [ordered, List.map_cons, List.map_nil, List.getD_cons_zero, List.getD_cons_succ]
        repeat (refine wpF_dry (fun K hK => ?_); go_simp; refine hK _ ?_; clear hK K)
        refine wpF_read (.slice (some ⟨gw, 0, none⟩) d.waits.length c) rfl (fun w' hS => by obtain ⟨s1, s2⟩ := hS; go_simp) (fun K hK => ?_)
        go_simp
        refine hK _ ?_
        clear hK K
        repeat (refine wpF_dry (fun K hK => ?_); go_simp; refine hK _ ?_; clear hK K)
        refine wpF_read (.int .i64 (n : Int)) rfl (fun w' hS => by obtain ⟨s1, s2⟩ := hS; go_simp) (fun K hK => ?_)
        go_simp
        refine hK _ ?_
        clear hK K
        refine wpF_do ?_
        go_wp2_with fail
        refine ⟨⟨k1, e1⟩, ?_⟩
        repeat (refine wpF_dry (fun K hK => ?_); go_simp; refine hK _ ?_; clear hK K)
        refine wpF_do ?_
        go_wp2_with fail
        refine ⟨⟨k1, e1⟩, ?_⟩
        repeat (refine wpF_dry (fun K hK => ?_); go_simp; refine hK _ ?_; clear hK K)
        refine wpF_do ?_
        go_wp2_with fail
        refine ⟨⟨(cell_keep (S := fun k => k = w.heap.size + 2) (Touch.setG (Touch.refl _ _) _ _) k1 (by simp)), (cell_keep (S := fun k => k = w.heap.size + 2) (Touch.setG (Touch.refl _ _) _ _) e1 (by show ¬ gw = _; omega))⟩, ?_⟩
        refine wpF_nil ?_
        go_wp2
        go_roundw
        case rel =>
          refine ⟨k + 1, by omega, by go_num, ?_, (ht.out.setCell (p := ⟨w.heap.size + 2, n, none⟩) (.inl rfl) _).drew⟩
          have st := (ho.out.stored n (.string d.waits[k].2)).1
          rw [hss2.out]
          simp only [strs, List.map_set, Int.toNat_natCast] at st ⊢
          exact st
        case measure => simp [intOf]; omega
      | false =>
        by_cases hkp : k < picks.length
        · have hx : ∃ ad, A0 = some ad ∧ wr.cell? (ad.add k) = some (.bool (picks.getD k false)) := by
            obtain ⟨_, A', c', e, _, _, h3⟩ := Rd.below HR.out hB.out
            injection e with e1 e2 e3
            subst e1
            obtain ⟨ad, rfl, hc⟩ := h3 (by omega)
            exact ⟨ad, rfl, hc k _ (by simp [List.getElem?_map, List.getElem?_eq_getElem hkp])⟩
          obtain ⟨ad, rfl, hx⟩ := hx
          have hkd : decide (k < picks.length) = true := by simpa using hkp
          have HG : Hid (p k = picks.getD k false) := by unfold Hid; rw [HP.out]; rfl
          obtain ⟨b, hb⟩ : ∃ b, b = picks.getD k false := ⟨_, rfl⟩
          rw [← hb] at hx HG
          clear hb
          cases b with
          | true =>
            have hpk : Hid (p k = true) := HG.out
            have hss2 := Lib.hid (hss.out.trans (if_pos hpk.out))
            clear hpk hss
            go_wp2_with fail
            refine wp_region_flag (fun w' => w'.cell? ⟨w.heap.size, 1, none⟩ = some (.slice (some ⟨gw, 0, none⟩) d.waits.length c) ∧ w'.cell? ⟨gw, k * 2, none⟩ = some (.int .i64 (n : Int))) [(0, 1), (1, 1), (3, 1), (7, 1), (9, 1), (2, 2), (4, 1), (5, 1), (6, 2), (8, 0), (10, 1), (11, 1), (12, 0), (13, 1), (14, 0)] (by kernel_rfl) (by kernel_rfl) ⟨k1, e1⟩ ?_
            simp only [ordered, List.map_cons, List.map_nil, List.getD_cons_zero, List.getD_cons_succ]
            repeat (refine wpF_dry (fun K hK => ?_); go_simp; refine hK _ ?_; clear hK K)
            refine wpF_read (.slice (some ⟨gw, 0, none⟩) d.waits.length c) rfl (fun w' hS => by obtain ⟨s1, s2⟩ := hS; go_simp) (fun K hK => ?_)
            go_simp
            refine hK _ ?_
            clear hK K
            repeat (refine wpF_dry (fun K hK => ?_); go_simp; refine hK _ ?_; clear hK K)
            refine wpF_read (.int .i64 (n : Int)) rfl (fun w' hS => by obtain ⟨s1, s2⟩ := hS; go_simp) (fun K hK => ?_)
            go_simp
            refine hK _ ?_
            clear hK K
            refine wpF_do ?_
            go_wp2_with fail
            refine ⟨⟨k1, e1⟩, ?_⟩
            repeat (refine wpF_dry (fun K hK => ?_); go_simp; refine hK _ ?_; clear hK K)
            refine wpF_do ?_
            go_wp2_with fail
            refine ⟨⟨k1, e1⟩, ?_⟩
            repeat (refine wpF_dry (fun K hK => ?_); go_simp; refine hK _ ?_; clear hK K)
            refine wpF_do ?_
            go_wp2_with fail
            refine ⟨⟨(cell_keep (S := fun k => k = w.heap.size + 2) (Touch.setG (Touch.refl _ _) _ _) k1 (by simp)), (cell_keep (S := fun k => k = w.heap.size + 2) (Touch.setG (Touch.refl _ _) _ _) e1 (by show ¬ gw = _; omega))⟩, ?_⟩
            refine wpF_nil ?_
            go_wp2
            go_roundw
            case rel =>
              refine ⟨k + 1, by omega, by go_num, ?_, (ht.out.setCell (p := ⟨w.heap.size + 2, n, none⟩) (.inl rfl) _).drew⟩
              have st := (ho.out.stored n (.string d.waits[k].2)).1
              rw [hss2.out]
              simp only [strs, List.map_set, Int.toNat_natCast] at st ⊢
              exact st
            case measure => simp [intOf]; omega
          | false =>
            have hss2 := Lib.hid (hss.out.trans (if_neg (by rw [HG.out]; decide)))
            clear HG hss
            go_wp2
            go_roundw
            case rel => exact ⟨k + 1, by omega, by go_num, by rw [hss2.out]; exact ho, ht⟩
            case measure => simp [intOf]; omega
        · have hkd : decide (k < picks.length) = false := by simpa using hkp
          have hpk : p k = false := by rw [HP.out]; simp [rpick, List.getD_eq_getElem?_getD, List.getElem?_eq_none (Nat.le_of_not_lt hkp)]
          have hss2 := Lib.hid (hss.out.trans (if_neg (by rw [hpk]; decide)))
          clear hpk hss hkp
          go_wp2
          go_roundw
          case rel => exact ⟨k + 1, by omega, by go_num, by rw [hss2.out]; exact ho, ht⟩
          case measure => simp [intOf]; omega
    · have hl : Hid (d.waits.take k = d.waits) := List.take_of_length_le (by omega)
      have f0 := blk_free R0.out 0; have f1 := blk_free R0.out 1; have f2 := blk_free R0.out 2; have f4 := blk_free R0.out 4
      have z0 := blk_cell R1.out 0; have z1 := blk_cell R1.out 1; have z2 := blk_cell R1.out 2; have z3 := blk_cell R1.out 3; have z4 := blk_cell R1.out 4
      have y0 := blk_free R1.out 0; have y1 := blk_free R1.out 1; have y2 := blk_free R1.out 2; have y3 := blk_free R1.out 3; have y4 := blk_free R1.out 4
      simp at z0 z1 z2 z3 z4
      have hoo := ho.out
      rw [hl.out, HP.out] at hoo
      have HOO := Lib.hid hoo
      have W0 : Hid (Touch (fun k => k = w.heap.size ∨ k = w.heap.size + 1) wr wr) := Touch.refl _ _
      clear hoo
      cases all with
      | true =>
        go_wp2
        refine bodyPost_ret (ret_ref1 rfl _ rfl (set5_blk (w := ((wr.setCell ⟨w.heap.size, 0, none⟩ (.slice (some ⟨w.heap.size + 2, 0, none⟩) d.l.length cp)).setCell ⟨w.heap.size, 1, none⟩ (.slice none 0 0))) (by rw [blk_set_ne (by simp), blk_set_ne (by simp)]; exact R1.out))) rfl ?_
        refine ⟨_, _, rfl, rfail_to H.out.ok hB.out HOO.out (set5_touch ?_ (.inr rfl))⟩
        exact ((W0.out.setCell (p := ⟨w.heap.size, 0, none⟩) (.inl (.inl rfl)) _).setCell (p := ⟨w.heap.size, 1, none⟩) (.inl (.inl rfl)) _)
      | false =>
        go_wp2
        refine bodyPost_ret (ret_ref1 rfl _ rfl (set5_blk (w := ((((wr.setCell ⟨w.heap.size, 0, none⟩ (.slice (some ⟨w.heap.size + 2, 0, none⟩) d.l.length cp)).setCell ⟨w.heap.size, 1, none⟩ (.slice none 0 0)).setCell ⟨w.heap.size, 4, none⟩ (.bool true)).setCell ⟨w.heap.size, 2, none⟩ (.int .i64 0))) (by rw [blk_set_ne (by simp), blk_set_ne (by simp), blk_set_ne (by simp), blk_set_ne (by simp)]; exact R1.out))) rfl ?_
        refine ⟨_, _, rfl, rfail_to H.out.ok hB.out HOO.out (set5_touch ?_ (.inr rfl))⟩
        exact ((((W0.out.setCell (p := ⟨w.heap.size, 0, none⟩) (.inl (.inl rfl)) _).setCell (p := ⟨w.heap.size, 1, none⟩) (.inl (.inl rfl)) _).setCell (p := ⟨w.heap.size, 4, none⟩) (.inl (.inl rfl)) _).setCell (p := ⟨w.heap.size, 2, none⟩) (.inl (.inl rfl)) _)
end Go.Proofs.Ytpaabfadniakoaa
/- RefD: the walks of the document's Flush and WriteTo. -/
set_option linter.unusedVariables false
set_option linter.unusedSimpArgs false
namespace Go.Proofs.Ytpaabfadniakoaa
open Go.RowKit

theorem keepB {w1 w2 : World} {g : Nat} {o : Obj} (b : Below w1.heap.size w1 w2) (h : w1.heap[g]? = some o) : w2.heap[g]? = some o := (b.block g (lt_of_block h)).trans h
theorem rpick_all : rpick [] true = fun _ => true := rfl
theorem RTo.self {w w' : World} {F : Nat → Prop} {d : Dk} {vl vw : Value} (h : RefAt w F d vl vw) (b : Below w.heap.size w w') : RTo w F d w' F vl vw := ⟨h.below b, fun k hk => .inl hk, b⟩

theorem RTo.after {w w1 w2 W : World} {F F2 : Nat → Prop} {d : Dk} {vl vw : Value} (hF : ∀ k, F k → k < w.heap.size) (b : Below w.heap.size w w1) (h2 : w.heap.size + 2 ≤ w1.heap.size) (t : RTo w1 F d w2 F2 vl vw)
    (ht : Touch (fun k => k = w.heap.size ∨ k = w.heap.size + 1) w2 W) : RTo w F d W F2 vl vw := by
  have n2 := t.bel.size
  refine ⟨t.has.keep ht (fun k hk e => ?_), fun k hk => ?_, (b.trans (t.bel.mono b.size)).trans (ht.below (by omega) (fun k hk => by omega))⟩
  · rcases t.new k hk with h | h
    · have := hF k h; omega
    · omega
  · rcases t.new k hk with h | h
    · exact .inl h
    · exact .inr (by omega)

set_option maxHeartbeats 800000 in
set_option maxRecDepth 100000 in
theorem rflush_any (w : World) (F : Nat → Prop) (d : Dk) (vl vw : Value) (h : RefAt w F d vl vw) (hm : d.waits.length < 9223372036854775807) :
    Calls Try.prog 54 #[refV d vl vw] w fun e w' => ∃ F' vl' vw', e = .returned (.tuple #[refV d.flush vl' vw', .int .i64 (d.use 0)]) ∧ RTo w F d.flush w' F' vl' vw' := by
  have H := Lib.hid h
  obtain ⟨A, c, rfl⟩ := own_slice h.ownW
  obtain ⟨A2, c2, rfl⟩ := own_slice h.own
  clear h
  have B2 : ∀ a b, Hid (Below w.heap.size w ((w.alloc a).alloc b)) := fun a b => ((Below.refl _ w).alloc (Nat.le_refl _) a).alloc (by simp) b
  have why : ∀ a b, Hid (Calls Try.prog 58 #[refV d _ _, .int .i64 0] ((w.alloc a).alloc b) fun e w' => e = .returned (.int .i64 (d.use 0)) ∧ Below ((w.alloc a).alloc b).heap.size ((w.alloc a).alloc b) w') := fun a b => why_any _ F d _ _ (H.out.below (B2 a b).out) 0
  unfold refV at why ⊢
  by_cases hu : d.use 0 = 0
  · rw [hu] at why
    have hs : Hid (d.flush = rfailD d [] true) := by unfold Hid Dk.flush; rw [if_pos hu]; rfl
    have HU := Lib.hid hu
    clear hu
    go_enter Try.func54, Try.ntmps54
    go_wp2_with fail
    refine ((why _ _).out).mono ?_
    rintro e w1 ⟨rfl, b1⟩
    obtain ⟨g0, g1, bb⟩ := keep2 b1
    have BB := Lib.hid bb; have G0 := Lib.hid g0; have G1 := Lib.hid g1
    have c0 := blk_cell g0 0; have c1 := blk_cell g0 1; have c2 := blk_cell g0 2; have c3 := blk_cell g0 3; have c4 := blk_cell g0 4
    have z0 := blk_cell g1 0; have z1 := blk_cell g1 1; have z2 := blk_cell g1 2; have z3 := blk_cell g1 3; have z4 := blk_cell g1 4
    have f0 := blk_free g1 0; have f1 := blk_free g1 1; have f2 := blk_free g1 2; have f3 := blk_free g1 3; have f4 := blk_free g1 4
    have f5 := blk_free g0 2
    simp at c0 c1 c2 c3 c4 z0 z1 z2 z3 z4
    clear b1 bb g0 g1
    have fl := rfail_any w1 F d _ _ (H.out.below BB.out) hm none 0 [] (nilB _) true
    have FL := Lib.hid fl
    unfold refV at FL
    clear fl
    go_wp2_with fail
    refine FL.out.mono ?_
    rintro e w2 ⟨F2, vl2, rfl, t2⟩
    obtain ⟨A3, c3, rfl⟩ := own_slice t2.has.own
    have r1 := keepB t2.bel G1.out
    have R1 := Lib.hid r1
    have z0 := blk_cell r1 0; have z1 := blk_cell r1 1; have z2 := blk_cell r1 2; have z3 := blk_cell r1 3; have z4 := blk_cell r1 4
    have f0 := blk_free r1 0; have f1 := blk_free r1 1; have f2 := blk_free r1 2; have f3 := blk_free r1 3; have f4 := blk_free r1 4
    simp at z0 z1 z2 z3 z4
    have hsz : Hid (w.heap.size + 2 ≤ w1.heap.size) := by have := lt_of_block G1.out; unfold Hid; omega
    have T2 := Lib.hid t2
    clear t2 r1 FL
    go_wp2
    refine bodyPost_ret (ret_ref rfl _ rfl (set5_blk R1.out)) rfl ?_
    refine ⟨F2, _, _, by rw [hs.out, HU.out]; rfl, ?_⟩
    rw [hs.out]
    exact RTo.after H.out.lt BB.out hsz.out T2.out (set5_touch (Touch.refl _ _) (.inr rfl))
  · have hu1 : (d.use 0 == 0) = false := by simp [hu]
    have hs : Hid (d.flush = d) := by unfold Hid Dk.flush; rw [if_neg hu]
    clear hu
    go_enter Try.func54, Try.ntmps54
    go_wp2_with fail
    refine ((why _ _).out).mono ?_
    rintro e w1 ⟨rfl, b1⟩
    obtain ⟨g0, g1, bb⟩ := keep2 b1
    have BB := Lib.hid bb; have G0 := Lib.hid g0; have G1 := Lib.hid g1
    have c0 := blk_cell g0 0; have c1 := blk_cell g0 1; have c2 := blk_cell g0 2; have c3 := blk_cell g0 3; have c4 := blk_cell g0 4
    have z0 := blk_cell g1 0; have z1 := blk_cell g1 1; have z2 := blk_cell g1 2; have z3 := blk_cell g1 3; have z4 := blk_cell g1 4
    have f0 := blk_free g1 0; have f1 := blk_free g1 1; have f2 := blk_free g1 2; have f3 := blk_free g1 3; have f4 := blk_free g1 4
    have f5 := blk_free g0 2
    simp at c0 c1 c2 c3 c4 z0 z1 z2 z3 z4
    clear b1 bb g0 g1
    go_wp2
    refine bodyPost_ret (ret_ref rfl _ rfl (set5_blk G1.out)) rfl ?_
    exact ⟨F, _, _, by rw [hs.out]; rfl, by rw [hs.out]; exact RTo.self H.out (set5_below BB.out (by omega))⟩

theorem infoRW : (Try.prog.info? 104).map (fun i => (i.zero, i.size, i.bytes)) = some (some (.agg #[.int .i64 0, .string ByteArray.empty]), 2, 24) := by kernel_rfl
theorem wcells_one (ws : List (Int × ByteArray)) (u : Value) (h : u ∈ wcells ws) : u.oneCell' = true := by
  induction ws with
  | nil => simp [wcells] at h
  | cons x ws ih => simp only [wcells, List.mem_cons] at h; rcases h with rfl | rfl | h; rfl; rfl; exact ih h
/-- The document's disk to which a write is added. -/
theorem rwrote {w w2 W : World} {F : Nat → Prop} {d : Dk} {vl vw v2 : Value} (h : RefAt w F d vl vw) (i : Int) (s : ByteArray) (ok : (d.wrote i s).Ok)
    (ho : w2.ownsRow 0 104 2 v2 (d.waits.length + 1) (wcells d.waits ++ [.int .i64 i, .string s])) (hB : Below w.heap.size w w2)
    (hv : ∀ k, v2.ownBlock = some k → w.heap.size + 2 ≤ k) (ht : Touch (fun k => k = w.heap.size ∨ k = w.heap.size + 1) w2 W) : RTo w F (d.wrote i s) W (fun k => F k ∨ v2.ownBlock = some k) vl v2 := by
  have h2 := h.below hB
  have h3 := h2.keep ht (fun k hk e => by have := h.lt k hk; omega)
  refine ⟨⟨h3.own, ?_, fun k hk => .inl (h.fl k hk), fun k hk => .inr hk, fun k hk => ?_, ok, fun e => by simp [Dk.wrote] at e⟩, fun k hk => ?_, hB.trans (ht.below hB.size (fun k hk => by omega))⟩
  · have o := own_touch ho ht (fun k hk e => by have := hv k hk; omega)
    have e1 : (d.wrote i s).waits = d.waits ++ [(i, s)] := rfl
    rw [e1, wcells_append, List.length_append]
    exact o
  · rcases hk with hk | hk
    · exact h3.lt k hk
    · exact Nat.lt_of_lt_of_le (ho.lt k hk).2 ht.size
  · rcases hk with hk | hk
    · exact .inl hk
    · exact .inr (by have := hv k hk; omega)

set_option maxHeartbeats 1600000 in
set_option maxRecDepth 100000 in
theorem rwrite_any (w : World) (F : Nat → Prop) (d : Dk) (vl vw : Value) (h : RefAt w F d vl vw) (i : Int) (s : ByteArray) (hs : s.size ≤ 9223372036854775807) (hm : d.waits.length + 1 ≤ 5864062014805) (hm2 : d.writes < 9223372036854775807) :
    Calls Try.prog 55 #[refV d vl vw, .int .i64 i, .string s] w fun e w' => ∃ F' vl' vw', e = .returned (.tuple #[refV (d.write i s) vl' vw', .int .i64 (d.writeE i s)]) ∧ RTo w F (d.write i s) w' F' vl' vw' := by
  have H := Lib.hid h
  obtain ⟨A, c, rfl⟩ := own_slice h.ownW
  obtain ⟨A2, c2, rfl⟩ := own_slice h.own
  have B2 : ∀ a b, Hid (Below w.heap.size w ((w.alloc a).alloc b)) := fun a b => ((Below.refl _ w).alloc (Nat.le_refl _) a).alloc (by simp) b
  have why : ∀ a b, Hid (Calls Try.prog 58 #[refV d _ _, .int .i64 i] ((w.alloc a).alloc b) fun e w' => e = .returned (.int .i64 (d.use i)) ∧ Below ((w.alloc a).alloc b).heap.size ((w.alloc a).alloc b) w') := fun a b => why_any _ F d _ _ (H.out.below (B2 a b).out) i
  unfold refV at why ⊢
  by_cases hu : d.use i = 0
  · rw [hu] at why
    by_cases hs2 : s.size = 256
    · have hss : ((s.size : Int) == 256) = true := by simp [hs2]
      have he : Hid (d.writeE i s = 0) := by unfold Hid Dk.writeE; rw [if_pos hu, if_pos hs2]
      have hd : Hid (d.write i s = d.wrote i s) := by unfold Hid Dk.write; rw [if_pos he.out]
      have OK : Hid (d.wrote i s).Ok := by have := h.ok.write i s; rw [hd.out] at this; exact this
      have w0 := h.ok.writes0
      have u0 := h.ok.fuse0
      have u1 := h.ok.fuse1
      have hdn : Hid (d.down = false) := (Dk.use_zero hu).1
      have hmx : d.waits.length + 1 ≤ maxLen := by unfold maxLen; omega
      have hmb : (d.waits.length + 1) * 24 ≤ 140737488355328 := by omega
      obtain ⟨j0, hj, hy0, hy1, hy2⟩ := info_parts infoRW
      clear hu hs2 h
      go_enter Try.func55, Try.ntmps55
      go_wp2_with fail
      refine ((why _ _).out).mono ?_
      rintro e w1 ⟨rfl, b1⟩
      obtain ⟨g0, g1, bb⟩ := keep2 b1
      have BB := Lib.hid bb; have G0 := Lib.hid g0; have G1 := Lib.hid g1
      have c0 := blk_cell g0 0; have c1 := blk_cell g0 1; have c2 := blk_cell g0 2; have c3 := blk_cell g0 3; have c4 := blk_cell g0 4
      have z0 := blk_cell g1 0; have z1 := blk_cell g1 1; have z2 := blk_cell g1 2; have z3 := blk_cell g1 3; have z4 := blk_cell g1 4
      have f0 := blk_free g1 0; have f1 := blk_free g1 1; have f2 := blk_free g1 2; have f3 := blk_free g1 3; have f4 := blk_free g1 4
      have f5 := blk_free g0 2
      simp at c0 c1 c2 c3 c4 z0 z1 z2 z3 z4
      clear b1 bb g0 g1 why
      by_cases hnil : d.waits = []
      · have hl0 : d.waits.length = 0 := by rw [hnil]; rfl
        have hw := H.out.nil hnil
        injection hw with hA hz hc
        subst hA hc
        have HX : Hid (w1.ownsRow 0 104 2 (.slice none 0 0) 0 []) := World.ownsRow_nil _ _ _ _
        rw [hl0] at c1
        rw [hl0]
        have HNIL := Lib.hid hnil
        clear hnil hz
        have HV : Hid (∀ k, (Value.slice none 0 0).ownBlock = some k → w.heap.size + 2 ≤ k) := fun k hk => by simp [Value.ownBlock] at hk
        have BX := BB; have GX0 := G0; have GX1 := G1
        have hsx : Hid (w.heap.size + 2 ≤ w1.heap.size) := by have := lt_of_block G1.out; unfold Hid; omega
        have HX2 : Hid (w1.ownsRow 0 104 2 (.slice none 0 0) d.waits.length (wcells d.waits)) := by unfold Hid; rw [hl0, HNIL.out]; exact HX.out
        have hmx0 : 0 + 1 ≤ maxLen := by decide
        go_wp2_with (first | (at_builtin; refine wpList_append_own_none rfl (.tmp 21) (.tmp 23) 55 rfl 0 104 j0 2 Try.underlying55 hj (.slice none 0 0) 0 [] rfl HX.out rfl ?_) | (at_builtin; refine wpList_append_own_at _ rfl (.tmp 25) (.tmp 29) 55 rfl 0 104 j0 _ 2 24 Try.underlying55 hj hy0 hy1 hy2 rfl (by decide) (.slice none 0 0) d.waits.length (wcells d.waits) rfl (HX2.out.alloc _) ⟨w1.heap.size, 0, none⟩ 1 1 [.int .i64 i, .string s] rfl rfl ?c1 ?c2 hmx hmb (Nat.zero_le _) ?_))
        case c1 =>
          intro j u hj
          match j, hj with
          | 0, hj => simp at hj; subst hj; simp [Addr.add]
          | 1, hj => simp at hj; subst hj; simp [Addr.add]
        case c2 => intro u hu; simp at hu; rcases hu with rfl | rfl <;> rfl
        intro v2 w2 ho hg _ hat
        obtain ⟨gv, cp, rfl⟩ := own_shape ho
        have hbx : Hid (Below w.heap.size w w2) := (BX.out.alloc BX.out.size _).grown hg (by have := BX.out.size; simp; omega) (fun k e => by have := HV.out k e; omega)
        have HVV : Hid (∀ k, (Value.slice (some ⟨gv, 0, none⟩) (d.waits.length + 1) cp).ownBlock = some k → w.heap.size + 2 ≤ k) := fun k hk => by
          rcases hat with e | e
          · exact HV.out k (by rw [← e]; simpa [Value.ownBlock] using hk)
          · simp [Value.ownBlock] at hk e; have := hsx.out; omega
        have r0 := blk_grown hg (blk_alloc GX0.out _) (fun e => by have := HV.out _ e; omega)
        have r1 := blk_grown hg (blk_alloc GX1.out _) (fun e => by have := HV.out _ e; omega)
        have HO := Lib.hid ho
        have R0 := Lib.hid r0; have R1 := Lib.hid r1
        have k0 := blk_cell r0 0; have k1 := blk_cell r0 1; have k2 := blk_cell r0 2; have k3 := blk_cell r0 3; have k4 := blk_cell r0 4
        have p1 := blk_free r0 1; have p2 := blk_free r0 2; have p3 := blk_free r0 3; have p4 := blk_free r0 4
        have m0 := blk_cell r1 0; have m1 := blk_cell r1 1; have m2 := blk_cell r1 2; have m3 := blk_cell r1 3; have m4 := blk_cell r1 4
        have q0 := blk_free r1 0; have q1 := blk_free r1 1; have q2 := blk_free r1 2; have q3 := blk_free r1 3; have q4 := blk_free r1 4
        simp at k0 k1 k2 k3 k4 m0 m1 m2 m3 m4
        clear ho hg hat r0 r1 c0 c1 c2 c3 c4 z0 z1 z2 z3 z4 f0 f1 f2 f3 f4 f5 hj hy0 hy1 hy2
        by_cases hf1 : d.fuse = 1
        · have y1 : Hid ((d.wrote i s).fuse = 0) := by unfold Hid Dk.wrote; simp [hf1]
          have y2 : Hid ((d.wrote i s).down = true) := by unfold Hid Dk.wrote; simp [hf1]
          rw [hf1] at k2
          clear hf1
          go_wp2
          refine bodyPost_ret (ret_ref rfl _ rfl (set5_blk (w := (((w2.setCell ⟨w.heap.size, 1, none⟩ _).setCell ⟨w.heap.size, 3, none⟩ _).setCell ⟨w.heap.size, 4, none⟩ _).setCell ⟨w.heap.size, 2, none⟩ _) (by rw [blk_set_ne (by simp), blk_set_ne (by simp), blk_set_ne (by simp), blk_set_ne (by simp)]; exact R1.out))) rfl ?_
          refine ⟨fun k => F k ∨ (Value.slice (some ⟨gv, 0, none⟩) (d.waits.length + 1) cp).ownBlock = some k, _, .slice (some ⟨gv, 0, none⟩) (d.waits.length + 1) cp, by rw [he.out, hd.out, y1.out, y2.out, hl0]; rfl, ?_⟩
          rw [hd.out]
          exact rwrote H.out i s OK.out (by have := HO.out; rw [hl0]; exact this) hbx.out HVV.out (set5_touch (((((Touch.refl _ _).setCell (p := ⟨w.heap.size, 1, none⟩) (.inl (.inl rfl)) _).setCell (p := ⟨w.heap.size, 3, none⟩) (.inl (.inl rfl)) _).setCell (p := ⟨w.heap.size, 4, none⟩) (.inl (.inl rfl)) _).setCell (p := ⟨w.heap.size, 2, none⟩) (.inl (.inl rfl)) _) (.inr rfl))
        · have y0 : (d.fuse == 1) = false := by simpa using hf1
          by_cases hf : 0 < d.fuse
          · have y1 : Hid ((d.wrote i s).fuse = d.fuse - 1) := by unfold Hid Dk.wrote; simp [hf]
            have y2 : Hid ((d.wrote i s).down = d.down) := by unfold Hid Dk.wrote; simp [hf, hdn.out]; omega
            go_wp2
            refine bodyPost_ret (ret_ref rfl _ rfl (set5_blk (w := ((w2.setCell ⟨w.heap.size, 1, none⟩ _).setCell ⟨w.heap.size, 3, none⟩ _).setCell ⟨w.heap.size, 2, none⟩ _) (by rw [blk_set_ne (by simp), blk_set_ne (by simp), blk_set_ne (by simp)]; exact R1.out))) rfl ?_
            refine ⟨fun k => F k ∨ (Value.slice (some ⟨gv, 0, none⟩) (d.waits.length + 1) cp).ownBlock = some k, _, .slice (some ⟨gv, 0, none⟩) (d.waits.length + 1) cp, by rw [he.out, hd.out, y1.out, y2.out, hl0]; rfl, ?_⟩
            rw [hd.out]
            exact rwrote H.out i s OK.out (by have := HO.out; rw [hl0]; exact this) hbx.out HVV.out (set5_touch ((((Touch.refl _ _).setCell (p := ⟨w.heap.size, 1, none⟩) (.inl (.inl rfl)) _).setCell (p := ⟨w.heap.size, 3, none⟩) (.inl (.inl rfl)) _).setCell (p := ⟨w.heap.size, 2, none⟩) (.inl (.inl rfl)) _) (.inr rfl))
          · have y1 : Hid ((d.wrote i s).fuse = d.fuse) := by unfold Hid Dk.wrote; simp [hf]
            have y2 : Hid ((d.wrote i s).down = d.down) := by unfold Hid Dk.wrote; simp [hf]
            go_wp2
            refine bodyPost_ret (ret_ref rfl _ rfl (set5_blk (w := (w2.setCell ⟨w.heap.size, 1, none⟩ _).setCell ⟨w.heap.size, 3, none⟩ _) (by rw [blk_set_ne (by simp), blk_set_ne (by simp)]; exact R1.out))) rfl ?_
            refine ⟨fun k => F k ∨ (Value.slice (some ⟨gv, 0, none⟩) (d.waits.length + 1) cp).ownBlock = some k, _, .slice (some ⟨gv, 0, none⟩) (d.waits.length + 1) cp, by rw [he.out, hd.out, y1.out, y2.out, hl0]; rfl, ?_⟩
            rw [hd.out]
            exact rwrote H.out i s OK.out (by have := HO.out; rw [hl0]; exact this) hbx.out HVV.out (set5_touch (((Touch.refl _ _).setCell (p := ⟨w.heap.size, 1, none⟩) (.inl (.inl rfl)) _).setCell (p := ⟨w.heap.size, 3, none⟩) (.inl (.inl rfl)) _) (.inr rfl))
      · have hlp : 0 < d.waits.length := List.length_pos_iff.2 hnil
        have hgw : ∃ gw, A = some ⟨gw, 0, none⟩ ∧ ∀ j u, (wcells d.waits)[j]? = some u → w1.cell? ((⟨gw, 0, none⟩ : Addr).add j) = some u := by
          obtain ⟨gw, e, _, _, _⟩ := H.out.wait _ _ rfl 0 hlp
          subst e
          exact ⟨gw, rfl, fun j u hu => cell_below BB.out (H.out.ownW.cells (g := gw) rfl j u hu)⟩
        obtain ⟨gw, rfl, hsrc⟩ := hgw
        have HSRC := Lib.hid hsrc
        clear hsrc hnil
        go_wp2_with (at_builtin; refine wpList_append_own_at _ rfl (.tmp 21) (.tmp 23) 55 rfl 0 104 j0 _ 2 24 Try.underlying55 hj hy0 hy1 hy2 rfl (by decide) (.slice none 0 0) 0 [] rfl (World.ownsRow_nil _ _ _ _) ⟨gw, 0, none⟩ d.waits.length c (wcells d.waits) rfl (by rw [wcells_length]) HSRC.out ?c3 (by unfold maxLen; omega) (by omega) (Nat.zero_le _) ?_)
        case c3 => exact fun u hu => wcells_one _ u hu
        intro vx wx hox hgx _ hatx
        try simp only [Nat.zero_add, List.nil_append] at hox
        obtain ⟨m, hm1⟩ : ∃ m, d.waits.length = m + 1 := ⟨d.waits.length - 1, by omega⟩
        have hsh : ∃ g1 cp, vx = .slice (some ⟨g1, 0, none⟩) d.waits.length cp := by rw [hm1] at hox ⊢; exact own_shape hox
        clear hm1
        obtain ⟨gx, cx, rfl⟩ := hsh
        have hsx0 : w.heap.size + 2 ≤ w1.heap.size := by have := lt_of_block G1.out; omega
        have HV : Hid (∀ k, (Value.slice (some ⟨gx, 0, none⟩) d.waits.length cx).ownBlock = some k → w.heap.size + 2 ≤ k) := fun k hk => by
          rcases hatx with e | e <;> simp [Value.ownBlock] at hk e; omega
        have BX : Hid (Below w.heap.size w wx) := BB.out.grown hgx BB.out.size (fun k e => by simp [Value.ownBlock] at e)
        have gx0 := blk_grown hgx G0.out (by simp [Value.ownBlock])
        have gx1 := blk_grown hgx G1.out (by simp [Value.ownBlock])
        have GX0 := Lib.hid gx0; have GX1 := Lib.hid gx1
        have hsx : Hid (w.heap.size + 2 ≤ wx.heap.size) := Nat.le_trans hsx0 hgx.size
        have HX := Lib.hid hox
        clear c0 c1 c2 c3 c4 z0 z1 z2 z3 z4 f0 f1 f2 f3 f4 f5 hox hgx hatx
        have c0 := blk_cell gx0 0; have c1 := blk_cell gx0 1; have c2 := blk_cell gx0 2; have c3 := blk_cell gx0 3; have c4 := blk_cell gx0 4
        have z0 := 0; have z1 := 0; have z2 := 0; have z3 := 0; have z4 := 0
        have f0 := 0; have f1 := 0; have f2 := 0; have f3 := 0; have f4 := 0; have f5 := 0
        simp at c0 c1 c2 c3 c4
        clear gx0 gx1
        go_wp2_with (at_builtin; refine wpList_append_own_at _ rfl (.tmp 25) (.tmp 29) 55 rfl 0 104 j0 _ 2 24 Try.underlying55 hj hy0 hy1 hy2 rfl (by decide) (.slice (some ⟨gx, 0, none⟩) d.waits.length cx) d.waits.length (wcells d.waits) rfl (HX.out.alloc _) ⟨wx.heap.size, 0, none⟩ 1 1 [.int .i64 i, .string s] rfl rfl ?c1 ?c2 hmx hmb (Nat.zero_le _) ?_)
        case c1 =>
          intro j u hj
          match j, hj with
          | 0, hj => simp at hj; subst hj; simp [Addr.add]
          | 1, hj => simp at hj; subst hj; simp [Addr.add]
        case c2 => intro u hu; simp at hu; rcases hu with rfl | rfl <;> rfl
        intro v2 w2 ho hg _ hat
        obtain ⟨gv, cp, rfl⟩ := own_shape ho
        have hbx : Hid (Below w.heap.size w w2) := (BX.out.alloc BX.out.size _).grown hg (by have := BX.out.size; simp; omega) (fun k e => by have := HV.out k e; omega)
        have HVV : Hid (∀ k, (Value.slice (some ⟨gv, 0, none⟩) (d.waits.length + 1) cp).ownBlock = some k → w.heap.size + 2 ≤ k) := fun k hk => by
          rcases hat with e | e
          · exact HV.out k (by rw [← e]; simpa [Value.ownBlock] using hk)
          · simp [Value.ownBlock] at hk e; have := hsx.out; omega
        have r0 := blk_grown hg (blk_alloc GX0.out _) (fun e => by have := HV.out _ e; omega)
        have r1 := blk_grown hg (blk_alloc GX1.out _) (fun e => by have := HV.out _ e; omega)
        have HO := Lib.hid ho
        have R0 := Lib.hid r0; have R1 := Lib.hid r1
        have k0 := blk_cell r0 0; have k1 := blk_cell r0 1; have k2 := blk_cell r0 2; have k3 := blk_cell r0 3; have k4 := blk_cell r0 4
        have p1 := blk_free r0 1; have p2 := blk_free r0 2; have p3 := blk_free r0 3; have p4 := blk_free r0 4
        have m0 := blk_cell r1 0; have m1 := blk_cell r1 1; have m2 := blk_cell r1 2; have m3 := blk_cell r1 3; have m4 := blk_cell r1 4
        have q0 := blk_free r1 0; have q1 := blk_free r1 1; have q2 := blk_free r1 2; have q3 := blk_free r1 3; have q4 := blk_free r1 4
        simp at k0 k1 k2 k3 k4 m0 m1 m2 m3 m4
        clear ho hg hat r0 r1 c0 c1 c2 c3 c4 z0 z1 z2 z3 z4 f0 f1 f2 f3 f4 f5 hj hy0 hy1 hy2
        by_cases hf1 : d.fuse = 1
        · have y1 : Hid ((d.wrote i s).fuse = 0) := by unfold Hid Dk.wrote; simp [hf1]
          have y2 : Hid ((d.wrote i s).down = true) := by unfold Hid Dk.wrote; simp [hf1]
          rw [hf1] at k2
          clear hf1
          go_wp2
          refine bodyPost_ret (ret_ref rfl _ rfl (set5_blk (w := (((w2.setCell ⟨w.heap.size, 1, none⟩ _).setCell ⟨w.heap.size, 3, none⟩ _).setCell ⟨w.heap.size, 4, none⟩ _).setCell ⟨w.heap.size, 2, none⟩ _) (by rw [blk_set_ne (by simp), blk_set_ne (by simp), blk_set_ne (by simp), blk_set_ne (by simp)]; exact R1.out))) rfl ?_
          refine ⟨fun k => F k ∨ (Value.slice (some ⟨gv, 0, none⟩) (d.waits.length + 1) cp).ownBlock = some k, _, .slice (some ⟨gv, 0, none⟩) (d.waits.length + 1) cp, by rw [he.out, hd.out, y1.out, y2.out]; rfl, ?_⟩
          rw [hd.out]
          exact rwrote H.out i s OK.out HO.out hbx.out HVV.out (set5_touch (((((Touch.refl _ _).setCell (p := ⟨w.heap.size, 1, none⟩) (.inl (.inl rfl)) _).setCell (p := ⟨w.heap.size, 3, none⟩) (.inl (.inl rfl)) _).setCell (p := ⟨w.heap.size, 4, none⟩) (.inl (.inl rfl)) _).setCell (p := ⟨w.heap.size, 2, none⟩) (.inl (.inl rfl)) _) (.inr rfl))
        · have y0 : (d.fuse == 1) = false := by simpa using hf1
          by_cases hf : 0 < d.fuse
          · have y1 : Hid ((d.wrote i s).fuse = d.fuse - 1) := by unfold Hid Dk.wrote; simp [hf]
            have y2 : Hid ((d.wrote i s).down = d.down) := by unfold Hid Dk.wrote; simp [hf, hdn.out]; omega
            go_wp2
            refine bodyPost_ret (ret_ref rfl _ rfl (set5_blk (w := ((w2.setCell ⟨w.heap.size, 1, none⟩ _).setCell ⟨w.heap.size, 3, none⟩ _).setCell ⟨w.heap.size, 2, none⟩ _) (by rw [blk_set_ne (by simp), blk_set_ne (by simp), blk_set_ne (by simp)]; exact R1.out))) rfl ?_
            refine ⟨fun k => F k ∨ (Value.slice (some ⟨gv, 0, none⟩) (d.waits.length + 1) cp).ownBlock = some k, _, .slice (some ⟨gv, 0, none⟩) (d.waits.length + 1) cp, by rw [he.out, hd.out, y1.out, y2.out]; rfl, ?_⟩
            rw [hd.out]
            exact rwrote H.out i s OK.out HO.out hbx.out HVV.out (set5_touch ((((Touch.refl _ _).setCell (p := ⟨w.heap.size, 1, none⟩) (.inl (.inl rfl)) _).setCell (p := ⟨w.heap.size, 3, none⟩) (.inl (.inl rfl)) _).setCell (p := ⟨w.heap.size, 2, none⟩) (.inl (.inl rfl)) _) (.inr rfl))
          · have y1 : Hid ((d.wrote i s).fuse = d.fuse) := by unfold Hid Dk.wrote; simp [hf]
            have y2 : Hid ((d.wrote i s).down = d.down) := by unfold Hid Dk.wrote; simp [hf]
            go_wp2
            refine bodyPost_ret (ret_ref rfl _ rfl (set5_blk (w := (w2.setCell ⟨w.heap.size, 1, none⟩ _).setCell ⟨w.heap.size, 3, none⟩ _) (by rw [blk_set_ne (by simp), blk_set_ne (by simp)]; exact R1.out))) rfl ?_
            refine ⟨fun k => F k ∨ (Value.slice (some ⟨gv, 0, none⟩) (d.waits.length + 1) cp).ownBlock = some k, _, .slice (some ⟨gv, 0, none⟩) (d.waits.length + 1) cp, by rw [he.out, hd.out, y1.out, y2.out]; rfl, ?_⟩
            rw [hd.out]
            exact rwrote H.out i s OK.out HO.out hbx.out HVV.out (set5_touch (((Touch.refl _ _).setCell (p := ⟨w.heap.size, 1, none⟩) (.inl (.inl rfl)) _).setCell (p := ⟨w.heap.size, 3, none⟩) (.inl (.inl rfl)) _) (.inr rfl))
    · have hss : ((s.size : Int) == 256) = false := by simpa using (by omega : ¬ (s.size : Int) = 256)
      have he : Hid (d.writeE i s = 1) := by unfold Hid Dk.writeE; rw [if_pos hu, if_neg hs2]
      have hd : Hid (d.write i s = d) := by unfold Hid Dk.write; rw [if_neg (by rw [he.out]; decide)]
      clear hu hs2 h
      go_enter Try.func55, Try.ntmps55
      go_wp2_with fail
      refine ((why _ _).out).mono ?_
      rintro e w1 ⟨rfl, b1⟩
      obtain ⟨g0, g1, bb⟩ := keep2 b1
      have BB := Lib.hid bb; have G0 := Lib.hid g0; have G1 := Lib.hid g1
      have c0 := blk_cell g0 0; have c1 := blk_cell g0 1; have c2 := blk_cell g0 2; have c3 := blk_cell g0 3; have c4 := blk_cell g0 4
      have z0 := blk_cell g1 0; have z1 := blk_cell g1 1; have z2 := blk_cell g1 2; have z3 := blk_cell g1 3; have z4 := blk_cell g1 4
      have f0 := blk_free g1 0; have f1 := blk_free g1 1; have f2 := blk_free g1 2; have f3 := blk_free g1 3; have f4 := blk_free g1 4
      have f5 := blk_free g0 2
      simp at c0 c1 c2 c3 c4 z0 z1 z2 z3 z4
      clear b1 bb g0 g1
      go_wp2
      refine bodyPost_ret (ret_ref rfl _ rfl (set5_blk G1.out)) rfl ?_
      exact ⟨F, _, _, by rw [hd.out, he.out]; rfl, by rw [hd.out]; exact RTo.self H.out (set5_below BB.out (by omega))⟩
  · have hu1 : (d.use i == 0) = false := by simp [hu]
    have he : Hid (d.writeE i s = d.use i) := by unfold Hid Dk.writeE; rw [if_neg hu]
    have hd : Hid (d.write i s = d) := by unfold Hid Dk.write; rw [he.out, if_neg hu]
    clear hu h
    go_enter Try.func55, Try.ntmps55
    go_wp2_with fail
    refine ((why _ _).out).mono ?_
    rintro e w1 ⟨rfl, b1⟩
    obtain ⟨g0, g1, bb⟩ := keep2 b1
    have BB := Lib.hid bb; have G0 := Lib.hid g0; have G1 := Lib.hid g1
    have c0 := blk_cell g0 0; have c1 := blk_cell g0 1; have c2 := blk_cell g0 2; have c3 := blk_cell g0 3; have c4 := blk_cell g0 4
    have z0 := blk_cell g1 0; have z1 := blk_cell g1 1; have z2 := blk_cell g1 2; have z3 := blk_cell g1 3; have z4 := blk_cell g1 4
    have f0 := blk_free g1 0; have f1 := blk_free g1 1; have f2 := blk_free g1 2; have f3 := blk_free g1 3; have f4 := blk_free g1 4
    have f5 := blk_free g0 2
    simp at c0 c1 c2 c3 c4 z0 z1 z2 z3 z4
    clear b1 bb g0 g1
    go_wp2
    refine bodyPost_ret (ret_ref rfl _ rfl (set5_blk G1.out)) rfl ?_
    exact ⟨F, _, _, by rw [hd.out, he.out]; rfl, by rw [hd.out]; exact RTo.self H.out (set5_below BB.out (by omega))⟩
end Go.Proofs.Ytpaabfadniakoaa
