/- RefE: the walk of the document's New. -/
import Derived.Test.YtfkonndbgmmckaaRefD
import Derived.Deep.AppendLies
import Derived.Deep.RegionLaw
set_option linter.unusedVariables false
set_option linter.unusedSimpArgs false
namespace Go.Proofs.Ytfkonndbgmmckaa
open Go.RowKit

set_option maxHeartbeats 1600000 in
set_option maxRecDepth 100000 in
theorem rnew_yes (w : World) (n : Nat) (h1 : 1 ≤ n) (h2 : n ≤ 2048) :
    Calls Try.prog 24 #[.int .i64 n] w fun e w' => ∃ F vl, e = .returned (.tuple #[refV (Dk.new n) vl (.slice none 0 0), .bool true]) ∧ RefAt w' F (Dk.new n) vl (.slice none 0 0) ∧ (∀ k, F k → w.heap.size ≤ k) ∧ Below w.heap.size w w' := by
  have d1 : decide ((n : Int) < 1) = false := by simp; omega
  obtain ⟨i0, hi, hz0, hz1, hz2⟩ := info_parts infoS
  have hmk : ∀ W : World, (Instr.makeSlice 62 (.int .i64 256) (.int .i64 256)).run Try.prog W = .ok (.slice (some ⟨W.heap.size, 0, none⟩) 256 256) (W.alloc (.cells (madeCells #[.int .u8 0] 256) 5)) := by
    intro W
    exact run_make_row' 62 5 (.int .u8 0) 1 Try.underlying62 infoB rfl .i64 .i64 256 (by decide) (by decide) W
  have hcv : ∀ (W : World) b, b = W.heap.size → (convert 62 9 (.slice (some ⟨b, 0, none⟩) 256 256)).run Try.prog (W.alloc (.cells (madeCells #[.int .u8 0] 256) 5)) = .ok (.string (Dk.rep 256 0)) (W.alloc (.cells (madeCells #[.int .u8 0] 256) 5)) := fun W b e => conv_zero W 256 b e (by decide)
  obtain ⟨z, hz⟩ : ∃ z, z = Dk.rep 256 0 := ⟨_, rfl⟩
  rw [← hz] at hcv
  have HZ := Lib.hid hz
  have HCV := Lib.hid hcv
  clear hz hcv
  go_enter Try.func24, Try.ntmps24
  go_wp2_with fail
  go_loopw [5, 14] (fun j j2 wr => ∃ (k : Nat) (v : Value), k ≤ n ∧ j = .int .i64 k ∧ Hid (wr.heap[w.heap.size]? = some (.cells #[.slice none 0 0, .slice none 0 0, .int .i64 0, .int .i64 0, .bool false] 50 (0, 0))) ∧ Hid (wr.heap[w.heap.size + 1]? = some (.cells #[v, .slice none 0 0, .int .i64 0, .int .i64 0, .bool false] 50 (0, 0))) ∧
    Hid (wr.ownsRow (w.heap.size + 2) 9 1 v k (strs (List.replicate k z))) ∧ Hid (Below w.heap.size w wr)) (fun j _ _ => n - (intOf j).toNat)
  case atStart =>
    refine ⟨0, .slice none 0 0, Nat.zero_le _, rfl, ?_, ?_, World.ownsRow_nil _ _ _ _, ?_⟩
    · exact blk_alloc (blk_new w _) _
    · exact heap_alloc2_new w _ _
    · exact ((Below.refl _ w).alloc (Nat.le_refl _) _).alloc (by simp) _
  case round =>
    obtain ⟨k, v, hk, rfl, hb0, hb, ho, hbel⟩ := hrel
    have c0 := blk_cell hb.out 0
    have f0 := blk_free hb.out 0
    simp at c0
    by_cases hlt : k < n
    · obtain ⟨A, c, rfl⟩ := own_slice ho.out
      have hs1 : w.heap.size + 2 ≤ wr.heap.size := by have := lt_of_block hb.out; omega
      have hown : Hid ((((wr.alloc (.cells (madeCells #[.int .u8 0] 256) 5)).alloc (.cells #[.string z] 9)).drew).ownsRow (w.heap.size + 2) 9 1 (.slice A k c) k (strs (List.replicate k z))) := (((ho.out.alloc _).alloc _).drew)
      have hnews : Hid (∀ j u, [Value.string z][j]? = some u → (((wr.alloc (.cells (madeCells #[.int .u8 0] 256) 5)).alloc (.cells #[.string z] 9)).drew).cell? ((⟨wr.heap.size + 1, 0, none⟩ : Addr).add j) = some u) := by
        intro j u hj
        match j, hj with
        | 0, hj =>
          simp at hj; subst hj
          exact cell_of_one (heap_alloc2_new wr _ _)
      have hlt1 : w.heap.size + 1 < wr.heap.size := lt_of_block hb.out
      have hlt2 : ¬ w.heap.size + 1 = wr.heap.size := by omega
      have e9 : ∀ B1 : Obj, (wr.alloc B1).drew.cell? ⟨w.heap.size + 1, 0, none⟩ = some (.slice A k c) := fun B1 => blk_cell (blk_alloc hb.out B1) 0
      have e8 : ∀ B1 B2 : Obj, ((wr.alloc B1).alloc B2).drew.cell? ⟨w.heap.size + 1, 0, none⟩ = some (.slice A k c) := fun B1 B2 => blk_cell (blk_alloc (blk_alloc hb.out B1) B2) 0
      have hbA : Hid (∀ B1 B2, ((wr.alloc B1).alloc B2).drew.heap[w.heap.size + 1]? = some (.cells #[.slice A k c, .slice none 0 0, .int .i64 0, .int .i64 0, .bool false] 50 (0, 0))) := fun B1 B2 => blk_alloc (blk_alloc hb.out B1) B2
      have hb0A : Hid (∀ B1 B2, ((wr.alloc B1).alloc B2).drew.heap[w.heap.size]? = some (.cells #[.slice none 0 0, .slice none 0 0, .int .i64 0, .int .i64 0, .bool false] 50 (0, 0))) := fun B1 B2 => blk_alloc (blk_alloc hb0.out B1) B2
      have hne : Hid ((Value.slice A k c).ownBlock ≠ some (w.heap.size + 1)) := own_ne_blk ho.out hb.out (by decide)
      have hne0 : Hid ((Value.slice A k c).ownBlock ≠ some w.heap.size) := own_ne_blk ho.out hb0.out (by decide)
      have hBA : Hid (∀ B1 B2 W', ((wr.alloc B1).alloc B2).drew.grownBy W' (Value.slice A k c).ownBlock → Below w.heap.size w W') := fun B1 B2 W' g => (((hbel.out.alloc (by omega) B1).alloc (by simp; omega) B2).drew).grown g (by simp; omega) (fun j hj => by have := (ho.out.lt j hj).1; omega)
      have hcv : (convert 62 9 (.slice (some ⟨wr.heap.size, 0, none⟩) 256 256)).run Try.prog (wr.alloc (.cells (madeCells #[.int .u8 0] 256) 5)).drew = .ok (.string z) (wr.alloc (.cells (madeCells #[.int .u8 0] 256) 5)).drew := HCV.out wr.drew wr.heap.size rfl
      go_wp2_with fail
      go_region_law? (refine step_append_lies _ rfl (.tmp 20) (.tmp 23) 29 rfl (w.heap.size + 2) 9 i0 _ 1 16 Try.underlying29 hi hz0 hz1 hz2 rfl (by decide) (.slice A k c) k (strs (List.replicate k z)) (by simp [Act.eval, Act.put]) hown.out ⟨wr.heap.size + 1, 0, none⟩ 1 1 [.string z] (by simp [Act.eval, Act.put]) (by simp) hnews.out (by intro u hu; simp at hu; subst hu; rfl) (by decide) (by unfold maxLen; omega) (by omega) (by simp; omega) _ rfl ?_; intro g cap w' q1 q2 q3 q4; have b1 := blk_grown q2 (hbA.out _ _) hne.out; have b0 := blk_grown q2 (hb0A.out _ _) hne0.out; have e0 := blk_cell b1 0; have e1 := blk_free b1 0; simp at e0; have Q1 := Lib.hid q1; have HL := Lib.hid (hBA.out _ _ _ q2); have B1 := Lib.hid b1; have B0 := Lib.hid b0; clear q1 q2 q3 b1 b0)
      all_goals
        go_wp2
        go_roundw
        case rel =>
          refine ⟨k + 1, _, by omega, by go_num, ?_, (by unfold Hid; rw [blk_set B1.out 0 _]; rfl), ?_, HL.out.setCell (p := ⟨w.heap.size + 1, 0, none⟩) (by simp) _⟩
          · unfold Hid; rw [blk_set_ne (by simp)]; exact B0.out
          · have o := ownsRow_setCell_other Q1.out (a := ⟨w.heap.size + 1, 0, none⟩) (own_ne_blk Q1.out B1.out (by decide)) (.slice (some ⟨g, 0, none⟩) (k + 1) cap)
            have e : strs (List.replicate (k + 1) z) = strs (List.replicate k z) ++ [.string z] := by simp [strs, List.replicate_succ']
            rw [e]
            exact o
        case measure => simp [intOf]; omega
    · obtain rfl : k = n := by omega
      obtain ⟨A, c, rfl⟩ := own_slice ho.out
      have y0 := blk_cell hb.out 0; have y1 := blk_cell hb.out 1; have y2 := blk_cell hb.out 2; have y3 := blk_cell hb.out 3; have y4 := blk_cell hb.out 4
      have z0 := blk_cell hb0.out 0; have z1 := blk_cell hb0.out 1; have z2 := blk_cell hb0.out 2; have z3 := blk_cell hb0.out 3; have z4 := blk_cell hb0.out 4
      have x0 := blk_free hb0.out 0; have x1 := blk_free hb0.out 1; have x2 := blk_free hb0.out 2; have x3 := blk_free hb0.out 3; have x4 := blk_free hb0.out 4
      simp at y0 y1 y2 y3 y4 z0 z1 z2 z3 z4
      go_wp2
      refine bodyPost_ret (ret_ref rfl _ rfl (set5_blk hb0.out)) rfl ?_
      have hB : Below w.heap.size w (set5 wr w.heap.size (.slice A k c) (.slice none 0 0) (.int .i64 0) (.int .i64 0) (.bool false)) := set5_below hbel.out (Nat.le_refl _)
      have hT : Touch (fun j => j = w.heap.size) wr (set5 wr w.heap.size (.slice A k c) (.slice none 0 0) (.int .i64 0) (.int .i64 0) (.bool false)) := set5_touch (Touch.refl _ _) rfl
      have o := own_touch ho.out hT (fun j hj e => by have := (ho.out.lt j hj).1; omega)
      refine ⟨fun j => (Value.slice A k c).ownBlock = some j, .slice A k c, rfl, ⟨?_, World.ownsRow_nil _ _ _ _, fun j hj => hj, fun j hj => by simp [Value.ownBlock] at hj, fun j hj => (o.lt j hj).2, Dk.Ok.new k h1 h2, fun _ => rfl⟩, fun j hj => by have := (o.lt j hj).1; omega, hB⟩
      have e : (Dk.new k).l = List.replicate k z := by rw [HZ.out]; rfl
      rw [e, List.length_replicate]
      obtain ⟨a, b⟩ := o
      refine ⟨a, ?_⟩
      rcases b with b | ⟨g, cap, cur, b1, _, b2⟩
      · exact .inl b
      · exact .inr ⟨g, cap, cur, b1, Nat.zero_le _, b2⟩
theorem rnew_no (w : World) (n : Int) (h : n < 1 ∨ 2048 < n) :
    Calls Try.prog 24 #[.int .i64 n] w fun e w' => e = .returned (.tuple #[.agg #[.slice none 0 0, .slice none 0 0, .int .i64 0, .int .i64 0, .bool false], .bool false]) ∧ Below w.heap.size w w' := by
  have B2 : ∀ a b, Hid (Below w.heap.size w ((w.alloc a).alloc b)) := fun a b => ((Below.refl _ w).alloc (Nat.le_refl _) a).alloc (by simp) b
  by_cases h1 : n < 1
  · go_enter Try.func24, Try.ntmps24
    go_wp2
    refine bodyPost_ret (ret_ref rfl _ rfl (by first | exact blk_alloc (blk_new w _) _ | exact set5_blk (blk_alloc (blk_new w _) _))) rfl ?_
    refine ⟨rfl, ?_⟩
    first | exact (B2 _ _).out | exact set5_below (B2 _ _).out (Nat.le_refl _)
  · have h2 : 2048 < n := by omega
    have h1' : decide (n < 1) = false := by simpa using h1
    clear h
    go_enter Try.func24, Try.ntmps24
    go_wp2
    refine bodyPost_ret (ret_ref rfl _ rfl (by first | exact blk_alloc (blk_new w _) _ | exact set5_blk (blk_alloc (blk_new w _) _))) rfl ?_
    refine ⟨rfl, ?_⟩
    first | exact (B2 _ _).out | exact set5_below (B2 _ _).out (Nat.le_refl _)
end Go.Proofs.Ytfkonndbgmmckaa
