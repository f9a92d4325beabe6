/- ShE: a new shelf: load and Open over pages that are all zero. -/
import Derived.Test.YtoolkamajlgcbaaShD
import Derived.Carry
import Derived.Maps.Own
import Derived.Maps.Keyed
set_option linter.unusedVariables false
set_option linter.unusedSimpArgs false
namespace Go.Proofs.Ytoolkamajlgcbaa
open Go.RowKit

theorem rep_get (n : Nat) (c : UInt8) (i : Nat) (h : i < (Dk.rep n c).size) : (Dk.rep n c)[i] = c := by
  show (List.replicate n c).toArray[i] = c
  simp
set_option maxRecDepth 100000 in
theorem two_zero (w : World) (b : ByteArray) (h0 : 0 < b.size) (h1 : 1 < b.size) (z0 : b[0] = 0) (z1 : b[1] = 0) : Calls Try.prog 77 #[.string b, .int .i64 0] w fun e w' => e = .returned (.int .i64 0) ∧ Below w.heap.size w w' := by
  have i0 : (0 : Int) < (b.size : Int) := by omega
  have i1 : (1 : Int) < (b.size : Int) := by omega
  have wr0 : IntKind.i64.wrap 0 = 0 := by decide
  have wr1 : IntKind.i64.wrap 1 = 1 := by decide
  have or0 : bits .or .i64 0 0 = 0 := by decide
  go_enter Try.func77, Try.ntmps77
  go_wp2_with fail
  refine wp_region_flag (fun _ => True) [(0, 1), (1, 1), (2, 1), (3, 1), (4, 1), (5, 1), (6, 1), (7, 1), (8, 1), (9, 1), (10, 1), (11, 1)] (by kernel_rfl) (by kernel_rfl) trivial ?_
  simp only [ordered, List.map_cons, List.map_nil, List.getD_cons_zero, List.getD_cons_succ]
  repeat (refine wpF_dry (fun K hK => ?_); go_simp; refine hK _ ?_; clear hK K)
  refine wpF_nil ?_
  go_wp2
  go_ret
  exact ⟨rfl, (Below.refl _ w).drew⟩
/-- A shelf's struct. -/
def ShB (w : World) (gs gj : Nat) (v : Value) : Prop := w.heap[gs]? = some (.cells #[.pointer (some ⟨gj, 0, none⟩), v] 85 (0, 0))
set_option maxHeartbeats 1600000 in
set_option maxRecDepth 100000 in
theorem load_zero (w : World) (F : Nat → Prop) (gs gj g P : Nat) (d : Dk) (h : HasDisk w F g d) (hj : Jb w gj g P) (hz : Sz d) (hw : d.waits.length < 9223372036854775807) (hP1 : 1 ≤ P) (hP : P ≤ 128) (hs : 8 * P + 1 ≤ d.l.length) (hup : d.down = false) (hpg : pageB d (1 + 4 * ((P : Int) + 0)) = Dk.rep 1024 0) (hb : ShB w gs gj (.slice none 0 0)) (hg : ¬ F gs) :
    Calls Try.prog 55 #[.pointer (some ⟨gs, 0, none⟩)] w fun e w' => e = .returned (.int .i64 0) ∧ Touch (fun k => k = gs) w w' ∧ ShB w' gs gj (.slice none 0 0) := by
  have RD := Lib.hid (jread_any w F gj g P d h hj hz hw hP hs 0)
  have JR : jrd d P 0 = (Dk.rep 1024 0, 0) := by unfold jrd; rw [if_neg (by omega), if_neg (by rw [hup]; decide), hpg]
  rw [JR] at RD
  have c0 := blk_cell hb 0; have c1 := blk_cell hb 1
  simp at c0 c1
  clear JR hpg
  have HB := Lib.hid hb
  go_enter Try.func55, Try.ntmps55
  go_wp2_with fail
  refine RD.out.mono ?_
  rintro e w1 ⟨rfl, q1⟩
  have r1 : ShB w1 gs gj (.slice none 0 0) := (q1.block _ (lt_of_block hb)).trans hb
  have R1 := Lib.hid r1
  replace c0 := blk_cell r1 0; replace c1 := blk_cell r1 1
  have f0 := blk_free r1 0; have f1 := blk_free r1 1
  simp at c0 c1
  have hmm : ∀ W : World, (Instr.makeMap 115 none).run Try.prog W = .ok (.map (some W.heap.size)) (W.alloc (.map #[] 0)) := fun W => run_makeMap _ W
  obtain ⟨W2, hup, _, hgr⟩ := (World.ownsMap_made (H := Unit) (w1.setCell ⟨gs, 1, none⟩ (.slice none 0 0)) Try.prog 3 (plainElem Try.prog 4)).update (Maps.int_keyed Try.underlying3) Try.underlying115 (by decide) (key := .int .i64 0) (val := .bool true) (kl := .int .i64 0) (d := .lit (.bool true)) (ps := []) (by kernel_rfl) (by unfold plainElem; rw [Try.underlying4])
  have es : (w1.setCell ⟨gs, 1, none⟩ (.slice none 0 0)).heap.size = w1.heap.size := by simp
  rw [es] at hup
  have HGR := Lib.hid hgr
  have e2 : Hid (Touch (fun k => k = gs) w W2) := by
    have t1 : Touch (fun k => k = gs) w w1 := Touch.of_below q1
    have t2 := t1.setCell (p := ⟨gs, 1, none⟩) (.inl rfl) (.slice none 0 0)
    have t3 := (t2.alloc (.map #[] 0)).grown hgr (fun k e => by
      cases e
      exact .inr (by rw [es]; exact q1.size))
    exact t3
  have e3 : Hid (ShB W2 gs gj (.slice none 0 0)) := by
    have b1 : (w1.setCell ⟨gs, 0 + 1, none⟩ (.slice none 0 0)).heap[gs]? = some (.cells #[.pointer (some ⟨gj, 0, none⟩), .slice none 0 0] 85 (0, 0)) := blk_set r1 1 _
    exact (hgr.block gs (by have := lt_of_block r1; simp; omega) (by intro e; have e' := Option.some.inj e; have := lt_of_block r1; omega)).trans (blk_alloc b1 _)
  have ZP : ∀ i : Nat, (h : i < (Dk.rep 1024 0).size) → (Dk.rep 1024 0)[i] = 0 := fun i h => rep_get 1024 0 i h
  have TZ := Lib.hid (two_zero W2 (Dk.rep 1024 0) (by rw [Dk.rep_size]; decide) (by rw [Dk.rep_size]; decide) (ZP 0 _) (ZP 1 _))
  clear hgr ZP q1
  go_wp2_with fail
  refine TZ.out.mono ?_
  rintro e w3 ⟨rfl, q3⟩
  have e4 : Hid (Touch (fun k => k = gs) w w3) := e2.out.trans (Touch.of_below q3 : Touch (fun _ => False) W2 w3) (fun _ _ x => x.elim)
  have e5 : Hid (ShB w3 gs gj (.slice none 0 0)) := (q3.block _ (lt_of_block e3.out)).trans e3.out
  clear q3 TZ
  go_wp2_with fail
  go_loopw [7] (fun i wr => i = .int .i64 0 ∧ wr = w3) (fun _ _ => 0)
  case atStart => exact ⟨rfl, rfl⟩
  case round =>
    obtain ⟨rfl, rfl⟩ := hrel
    go_wp2
    go_ret
    exact ⟨rfl, e4.out, e5.out⟩
end Go.Proofs.Ytoolkamajlgcbaa
