/- RefE: the walk of the document's New. -/
import Derived.Test.YtpaabfadniakoaaMp19
import Derived.Deep.AppendLies
import Derived.Deep.RegionLaw
set_option linter.unusedVariables false
set_option linter.unusedSimpArgs false
namespace Go.Proofs.Ytpaabfadniakoaa
open Go.RowKit

set_option maxHeartbeats 1600000 in
set_option maxRecDepth 100000 in
theorem rnew_yes (w : World) (n : Nat) (h1 : 1 ≤ n) (h2 : n ≤ 2048) :
    Calls Try.prog 25 #[.int .i64 n] w fun e w' => ∃ F vl, e = .returned (.tuple #[refV (Dk.new n) vl (.slice none 0 0), .bool true]) ∧ RefAt w' F (Dk.new n) vl (.slice none 0 0) ∧ (∀ k, F k → w.heap.size ≤ k) ∧ Below w.heap.size w w' := by
  have d1 : decide ((n : Int) < 1) = false := by simp; omega
  obtain ⟨i0, hi, hz0, hz1, hz2⟩ := info_parts infoS
  have hmk : ∀ W : World, (Instr.makeSlice 84 (.int .i64 256) (.int .i64 256)).run Try.prog W = .ok (.slice (some ⟨W.heap.size, 0, none⟩) 256 256) (W.alloc (.cells (madeCells #[.int .u8 0] 256) 5)) := by
    intro W
    exact run_make_row' 84 5 (.int .u8 0) 1 Try.underlying84 infoB rfl .i64 .i64 256 (by decide) (by decide) W
  have hcv : ∀ (W : World) b, b = W.heap.size → (convert 84 9 (.slice (some ⟨b, 0, none⟩) 256 256)).run Try.prog (W.alloc (.cells (madeCells #[.int .u8 0] 256) 5)) = .ok (.string (Dk.rep 256 0)) (W.alloc (.cells (madeCells #[.int .u8 0] 256) 5)) := fun W b e => conv_zero W 256 b e (by decide)
  obtain ⟨z, hz⟩ : ∃ z, z = Dk.rep 256 0 := ⟨_, rfl⟩
  rw [← hz] at hcv
  have HZ := Lib.hid hz
  have HCV := Lib.hid hcv
  clear hz hcv
  go_enter Try.func25, Try.ntmps25
  go_wp2_with fail
  go_loopw [5, 14] (fun j j2 wr => ∃ (k : Nat) (v : Value), k ≤ n ∧ j = .int .i64 k ∧ Hid (wr.heap[w.heap.size]? = some (.cells #[.slice none 0 0, .slice none 0 0, .int .i64 0, .int .i64 0, .bool false] 57 (0, 0))) ∧ Hid (wr.heap[w.heap.size + 1]? = some (.cells #[v, .slice none 0 0, .int .i64 0, .int .i64 0, .bool false] 57 (0, 0))) ∧
    Hid (wr.ownsRow (w.heap.size + 2) 9 1 v k (strs (List.replicate k z))) ∧ Hid (Below w.heap.size w wr)) (fun j _ _ => n - (intOf j).toNat)
  case atStart =>
    refine ⟨0, .slice none 0 0, Nat.zero_le _, rfl, ?_, ?_, World.ownsRow_nil _ _ _ _, ?_⟩
    · exact blk_alloc (blk_new w _) _
    · exact heap_alloc2_new w _ _
    · exact ((Below.refl _ w).alloc (Nat.le_refl _) _).alloc (by simp) _
  case round =>
    obtain ⟨k, v, hk, rfl, hb0, hb, ho, hbel⟩ := hrel
    have c0 := blk_cell hb.out 0
    have f0 := blk_free hb.out 0
    simp at c0
    by_cases hlt : k < n
    · obtain ⟨A, c, rfl⟩ := own_slice ho.out
      have hs1 : w.heap.size + 2 ≤ wr.heap.size := by have := lt_of_block hb.out; omega
      have hown : Hid ((((wr.alloc (.cells (madeCells #[.int .u8 0] 256) 5)).alloc (.cells #[.string z] 9)).drew).ownsRow (w.heap.size + 2) 9 1 (.slice A k c) k (strs (List.replicate k z))) := (((ho.out.alloc _).alloc _).drew)
      have hnews : Hid (∀ j u, [Value.string z][j]? = some u → (((wr.alloc (.cells (madeCells #[.int .u8 0] 256) 5)).alloc (.cells #[.string z] 9)).drew).cell? ((⟨wr.heap.size + 1, 0, none⟩ : Addr).add j) = some u) := by
        intro j u hj
        match j, hj with
        | 0, hj =>
          simp at hj; subst hj
          exact cell_of_one (heap_alloc2_new wr _ _)
      have hlt1 : w.heap.size + 1 < wr.heap.size := lt_of_block hb.out
      have hlt2 : ¬ w.heap.size + 1 = wr.heap.size := by omega
      have e9 : ∀ B1 : Obj, (wr.alloc B1).drew.cell? ⟨w.heap.size + 1, 0, none⟩ = some (.slice A k c) := fun B1 => blk_cell (blk_alloc hb.out B1) 0
      have e8 : ∀ B1 B2 : Obj, ((wr.alloc B1).alloc B2).drew.cell? ⟨w.heap.size + 1, 0, none⟩ = some (.slice A k c) := fun B1 B2 => blk_cell (blk_alloc (blk_alloc hb.out B1) B2) 0
      have hbA : Hid (∀ B1 B2, ((wr.alloc B1).alloc B2).drew.heap[w.heap.size + 1]? = some (.cells #[.slice A k c, .slice none 0 0, .int .i64 0, .int .i64 0, .bool false] 57 (0, 0))) := fun B1 B2 => blk_alloc (blk_alloc hb.out B1) B2
      have hb0A : Hid (∀ B1 B2, ((wr.alloc B1).alloc B2).drew.heap[w.heap.size]? = some (.cells #[.slice none 0 0, .slice none 0 0, .int .i64 0, .int .i64 0, .bool false] 57 (0, 0))) := fun B1 B2 => blk_alloc (blk_alloc hb0.out B1) B2
      have hne : Hid ((Value.slice A k c).ownBlock ≠ some (w.heap.size + 1)) := own_ne_blk ho.out hb.out (by decide)
      have hne0 : Hid ((Value.slice A k c).ownBlock ≠ some w.heap.size) := own_ne_blk ho.out hb0.out (by decide)
      have hBA : Hid (∀ B1 B2 W', ((wr.alloc B1).alloc B2).drew.grownBy W' (Value.slice A k c).ownBlock → Below w.heap.size w W') := fun B1 B2 W' g => (((hbel.out.alloc (by omega) B1).alloc (by simp; omega) B2).drew).grown g (by simp; omega) (fun j hj => by have := (ho.out.lt j hj).1; omega)
      have hcv : (convert 84 9 (.slice (some ⟨wr.heap.size, 0, none⟩) 256 256)).run Try.prog (wr.alloc (.cells (madeCells #[.int .u8 0] 256) 5)).drew = .ok (.string z) (wr.alloc (.cells (madeCells #[.int .u8 0] 256) 5)).drew := HCV.out wr.drew wr.heap.size rfl
      go_wp2_with fail
      go_region_law? (refine step_append_lies _ rfl (.tmp 20) (.tmp 23) 47 rfl (w.heap.size + 2) 9 i0 _ 1 16 Try.underlying47 hi hz0 hz1 hz2 rfl (by decide) (.slice A k c) k (strs (List.replicate k z)) (by simp [Act.eval, Act.put]) hown.out ⟨wr.heap.size + 1, 0, none⟩ 1 1 [.string z] (by simp [Act.eval, Act.put]) (by simp) hnews.out (by intro u hu; simp at hu; subst hu; rfl) (by decide) (by unfold maxLen; omega) (by omega) (by simp; omega) _ rfl ?_; intro g cap w' q1 q2 q3 q4; have b1 := blk_grown q2 (hbA.out _ _) hne.out; have b0 := blk_grown q2 (hb0A.out _ _) hne0.out; have e0 := blk_cell b1 0; have e1 := blk_free b1 0; simp at e0; have Q1 := Lib.hid q1; have HL := Lib.hid (hBA.out _ _ _ q2); have B1 := Lib.hid b1; have B0 := Lib.hid b0; clear q1 q2 q3 b1 b0)
      all_goals
        go_wp2
        go_roundw
        case rel =>
          refine ⟨k + 1, _, by omega, by go_num, ?_, (by unfold Hid; rw [blk_set B1.out 0 _]; rfl), ?_, HL.out.setCell (p := ⟨w.heap.size + 1, 0, none⟩) (by simp) _⟩
          · unfold Hid; rw [blk_set_ne (by simp)]; exact B0.out
          · have o := ownsRow_setCell_other Q1.out (a := ⟨w.heap.size + 1, 0, none⟩) (own_ne_blk Q1.out B1.out (by decide)) (.slice (some ⟨g, 0, none⟩) (k + 1) cap)
            have e : strs (List.replicate (k + 1) z) = strs (List.replicate k z) ++ [.string z] := by simp [strs, List.replicate_succ']
            rw [e]
            exact o
        case measure => simp [intOf]; omega
    · obtain rfl : k = n := by omega
      obtain ⟨A, c, rfl⟩ := own_slice ho.out
      have y0 := blk_cell hb.out 0; have y1 := blk_cell hb.out 1; have y2 := blk_cell hb.out 2; have y3 := blk_cell hb.out 3; have y4 := blk_cell hb.out 4
      have z0 := blk_cell hb0.out 0; have z1 := blk_cell hb0.out 1; have z2 := blk_cell hb0.out 2; have z3 := blk_cell hb0.out 3; have z4 := blk_cell hb0.out 4
      have x0 := blk_free hb0.out 0; have x1 := blk_free hb0.out 1; have x2 := blk_free hb0.out 2; have x3 := blk_free hb0.out 3; have x4 := blk_free hb0.out 4
      simp at y0 y1 y2 y3 y4 z0 z1 z2 z3 z4
      go_wp2
      refine bodyPost_ret (ret_ref rfl _ rfl (set5_blk hb0.out)) rfl ?_
      have hB : Below w.heap.size w (set5 wr w.heap.size (.slice A k c) (.slice none 0 0) (.int .i64 0) (.int .i64 0) (.bool false)) := set5_below hbel.out (Nat.le_refl _)
      have hT : Touch (fun j => j = w.heap.size) wr (set5 wr w.heap.size (.slice A k c) (.slice none 0 0) (.int .i64 0) (.int .i64 0) (.bool false)) := set5_touch (Touch.refl _ _) rfl
      have o := own_touch ho.out hT (fun j hj e => by have := (ho.out.lt j hj).1; omega)
      refine ⟨fun j => (Value.slice A k c).ownBlock = some j, .slice A k c, rfl, ⟨?_, World.ownsRow_nil _ _ _ _, fun j hj => hj, fun j hj => by simp [Value.ownBlock] at hj, fun j hj => (o.lt j hj).2, Dk.Ok.new k h1 h2, fun _ => rfl⟩, fun j hj => by have := (o.lt j hj).1; omega, hB⟩
      have e : (Dk.new k).l = List.replicate k z := by rw [HZ.out]; rfl
      rw [e, List.length_replicate]
      obtain ⟨a, b⟩ := o
      refine ⟨a, ?_⟩
      rcases b with b | ⟨g, cap, cur, b1, _, b2⟩
      · exact .inl b
      · exact .inr ⟨g, cap, cur, b1, Nat.zero_le _, b2⟩
theorem rnew_no (w : World) (n : Int) (h : n < 1 ∨ 2048 < n) :
    Calls Try.prog 25 #[.int .i64 n] w fun e w' => e = .returned (.tuple #[.agg #[.slice none 0 0, .slice none 0 0, .int .i64 0, .int .i64 0, .bool false], .bool false]) ∧ Below w.heap.size w w' := by
  have B2 : ∀ a b, Hid (Below w.heap.size w ((w.alloc a).alloc b)) := fun a b => ((Below.refl _ w).alloc (Nat.le_refl _) a).alloc (by simp) b
  by_cases h1 : n < 1
  · go_enter Try.func25, Try.ntmps25
    go_wp2
    refine bodyPost_ret (ret_ref rfl _ rfl (by first | exact blk_alloc (blk_new w _) _ | exact set5_blk (blk_alloc (blk_new w _) _))) rfl ?_
    refine ⟨rfl, ?_⟩
    first | exact (B2 _ _).out | exact set5_below (B2 _ _).out (Nat.le_refl _)
  · have h2 : 2048 < n := by omega
    have h1' : decide (n < 1) = false := by simpa using h1
    clear h
    go_enter Try.func25, Try.ntmps25
    go_wp2
    refine bodyPost_ret (ret_ref rfl _ rfl (by first | exact blk_alloc (blk_new w _) _ | exact set5_blk (blk_alloc (blk_new w _) _))) rfl ?_
    refine ⟨rfl, ?_⟩
    first | exact (B2 _ _).out | exact set5_below (B2 _ _).out (Nat.le_refl _)
end Go.Proofs.Ytpaabfadniakoaa
/- JpC: the document's Page. -/
set_option linter.unusedVariables false
set_option linter.unusedSimpArgs false
namespace Go.Proofs.Ytpaabfadniakoaa
open Go.RowKit

def rdB (d : Dk) (p : Int) (k : Nat) : ByteArray := ⟨(rdK d p k).toArray⟩
theorem rdB_succ (d : Dk) (p : Int) (k : Nat) : rdB d p k ++ (d.read (p + (k : Nat))).1 = rdB d p (k + 1) := by
  refine ba_eq ?_
  unfold rdB
  rw [ByteArray.data_append, Array.toList_append, rdK]
theorem rdB_size {d : Dk} (h : Sz d) {p : Int} (k : Nat) (hu : ∀ i : Nat, i < k → d.use (p + (i : Nat)) = 0) : (rdB d p k).size = 256 * k := by
  have := rdK_len h k hu
  show (rdK d p k).toArray.size = _
  rw [List.size_toArray, this]
/-- The document's disk in a box. -/
def BxD (w : World) (g : Nat) (d : Dk) (vl vw : Value) : Prop := w.heap[g]? = some (.cells #[vl, vw, .int .i64 d.fuse, .int .i64 d.writes, .bool d.down] 57 (0, 0))
theorem BxD.cells {w : World} {g : Nat} {d : Dk} {vl vw : Value} (h : BxD w g d vl vw) : w.cell? ⟨g, 0, none⟩ = some vl ∧ w.cell? ⟨g, 1, none⟩ = some vw ∧ w.cell? ⟨g, 2, none⟩ = some (.int .i64 d.fuse) ∧ w.cell? ⟨g, 3, none⟩ = some (.int .i64 d.writes) ∧ w.cell? ⟨g, 4, none⟩ = some (.bool d.down) := by
  have c0 := blk_cell h 0; have c1 := blk_cell h 1; have c2 := blk_cell h 2; have c3 := blk_cell h 3; have c4 := blk_cell h 4
  simp at c0 c1 c2 c3 c4
  exact ⟨c0, c1, c2, c3, c4⟩
theorem BxD.below {w w' : World} {g : Nat} {d : Dk} {vl vw : Value} (h : BxD w g d vl vw) (hb : Below w.heap.size w w') : BxD w' g d vl vw := (hb.block g (lt_of_block h)).trans h
theorem BxD.belowB {w w' : World} {B g : Nat} {d : Dk} {vl vw : Value} (h : BxD w g d vl vw) (hb : Below B w w') (hg : g < B) : BxD w' g d vl vw := (hb.block g hg).trans h
set_option maxHeartbeats 3200000 in
set_option maxRecDepth 100000 in
theorem rpage_any (w : World) (F : Nat → Prop) (d : Dk) (vl vw : Value) (h : RefAt w F d vl vw) (hz : Sz d) (hm : d.waits.length < 9223372036854775807) (p : Nat) (hp : p + 4 ≤ d.l.length) :
    Calls Try.prog 34 #[refV d vl vw, .int .i64 (p : Int)] w fun e w' => e = .returned (.tuple #[.string (if d.down = true then (ByteArray.empty, (10 : Int)) else (pageB d (p : Int), 0)).1, .int .i64 (if d.down = true then (ByteArray.empty, (10 : Int)) else (pageB d (p : Int), 0)).2]) ∧ Below w.heap.size w w' := by
  have H := Lib.hid h; have HZ := Lib.hid hz
  have hmost := h.ok.most
  have RD : Hid (∀ W, Below w.heap.size w W → ∀ i : Int, Calls Try.prog 60 #[refV d vl vw, .int .i64 i] W fun e w' => e = .returned (.tuple #[.string (d.read i).1, .int .i64 (d.read i).2]) ∧ Below W.heap.size W w') := fun W hb i => rread_any W F d vl vw (h.below hb) i hm
  have BX : Hid (∀ o, Below w.heap.size w (w.alloc o)) := fun o => (Below.refl _ w).alloc (Nat.le_refl _) o
  unfold refV at RD ⊢
  have B5 : Hid (BxD (w.alloc (.cells #[vl, vw, .int .i64 d.fuse, .int .i64 d.writes, .bool d.down] 57)) w.heap.size d vl vw) := blk_new w _
  clear h hz
  by_cases hd : d.down = true
  · rw [if_pos hd]
    have RR : Hid (d.read (p : Int) = (ByteArray.empty, 10)) := by
      have hu : d.use (p : Int) = 10 := by unfold Dk.use; rw [if_pos hd]
      unfold Hid Dk.read
      rw [if_neg (by rw [hu]; decide), hu]
    clear hd
    have RD0 := Lib.hid (RD.out _ (BX.out (.cells #[vl, vw, .int .i64 d.fuse, .int .i64 d.writes, .bool d.down] 57)) (p : Int))
    rw [RR.out] at RD0
    go_enter Try.func34, Try.ntmps34
    go_wp2_with fail
    go_loopw [6, 7] (fun s i wr => i = .int .i64 0 ∧ wr = w.alloc (.cells #[vl, vw, .int .i64 d.fuse, .int .i64 d.writes, .bool d.down] 57)) (fun _ _ _ => 0)
    case atStart => exact ⟨rfl, rfl⟩
    case round =>
      obtain ⟨rfl, rfl⟩ := hrel
      go_wp2_with fail
      refine RD0.out.mono ?_
      rintro e w1 ⟨rfl, b1⟩
      have B1 : Hid (Below w.heap.size w w1) := (BX.out _).trans (b1.mono (by simp))
      clear b1
      go_wp2
      go_ret2
      exact ⟨rfl, B1.out⟩
  · rw [if_neg hd]
    have hd0 : d.down = false := by simpa using hd
    have HU : Hid (∀ i : Nat, i < 4 → d.use ((p : Int) + (i : Nat)) = 0) := fun i hi => by unfold Dk.use; rw [if_neg hd, if_neg (by omega)]
    clear hd hd0
    go_enter Try.func34, Try.ntmps34
    go_wp2_with fail
    go_loopw [6, 7] (fun s i wr => ∃ k : Nat, k ≤ 4 ∧ i = .int .i64 k ∧ s = .string (rdB d (p : Int) k) ∧ Hid (Below w.heap.size w wr) ∧ Hid (BxD wr w.heap.size d vl vw)) (fun _ i _ => 4 - (intOf i).toNat)
    case atStart => exact ⟨0, by decide, rfl, rfl, BX.out _, B5⟩
    case round =>
      obtain ⟨k, hk, rfl, rfl, hb, hbx⟩ := hrel
      by_cases hlt : k < 4
      · have hu := HU.out k hlt
        have RR : Hid ((d.read ((p : Int) + (k : Nat))).2 = 0) := by unfold Hid Dk.read; rw [if_pos hu]
        have RZ : Hid ((d.read ((p : Int) + (k : Nat))).1.size = 256) := read_size HZ.out hu
        have RS := Lib.hid (rdB_succ d (p : Int) k)
        have SZ : Hid ((rdB d (p : Int) k).size = 256 * k) := rdB_size HZ.out k (fun i hi => HU.out i (by omega))
        have RDk := Lib.hid (RD.out wr hb.out ((p : Int) + (k : Nat)))
        rw [RR.out] at RDk
        obtain ⟨q, hq⟩ : ∃ q : Nat, q = p + k := ⟨_, rfl⟩
        have e1 : (p : Int) + (k : Int) = (q : Int) := by omega
        rw [e1] at RDk RS RZ
        have e2 : IntKind.i64.wrap (q : Int) = (q : Int) := by rw [IntKind.wrap_i64]; omega
        obtain ⟨c0, c1, c2, c3, c4⟩ := hbx.out.cells
        generalize (d.read (q : Int)).1 = t at RDk RS RZ
        generalize rdB d (p : Int) k = acc at RS SZ ⊢
        clear hu hq RR
        go_wp2_with fail
        refine RDk.out.mono ?_
        rintro e w1 ⟨rfl, b1⟩
        have B1 : Hid (Below w.heap.size w w1) := hb.out.trans (b1.mono hb.out.size)
        have X1 := Lib.hid (hbx.out.below b1)
        clear b1 RDk c0 c1 c2 c3 c4
        have hsz : acc.size + t.size ≤ 9223372036854775807 := by have := SZ.out; have := RZ.out; omega
        go_wp2
        go_roundw
        case rel => exact ⟨k + 1, hlt, by go_num, by rw [← RS.out], B1, X1⟩
        case measure => simp [intOf]; omega
      · have hk4 : k = 4 := by omega
        subst hk4
        go_wp2
        go_ret2
        exact ⟨rfl, hb.out⟩
end Go.Proofs.Ytpaabfadniakoaa
/- Reg7: as Reg4, by a plan with several last operations, one behind the other, that may break S. -/
set_option linter.unusedVariables false
set_option linter.unusedSimpArgs false
namespace Go.Proofs.Ytpaabfadniakoaa
open Go.RowKit

/-- None of L has come. -/
def cleanB (L : List Nat) (listed : Array Bool) : Bool := L.all (fun x => listed.getD x true == false)
theorem clean_ne {L : List Nat} {i : Nat} {listed : Array Bool} (hi : i ∉ L) (h : cleanB L (listed.setIfInBounds i true) = true) : cleanB L listed = true := by
  unfold cleanB at *
  rw [List.all_eq_true] at *
  intro x hx
  have := h x hx
  rwa [getD_set_ne true (fun e => hi (by rw [e]; exact hx))] at this
theorem clean_set {L : List Nat} {i : Nat} {listed : Array Bool} (hi : i ∉ L) (h : cleanB L listed = true) : cleanB L (listed.setIfInBounds i true) = true := by
  unfold cleanB at *
  rw [List.all_eq_true] at *
  intro x hx
  rw [getD_set_ne true (fun e => hi (by rw [e]; exact hx))]
  exact h x hx
theorem clean_not {L : List Nat} {i : Nat} {listed : Array Bool} (hi : i ∈ L) : ¬ cleanB L (listed.setIfInBounds i true) = true := fun h => by
  unfold cleanB at h
  rw [List.all_eq_true] at h
  have := h i hi
  rcases Nat.lt_or_ge i listed.size with h' | h'
  · simp [h'] at this
  · simp [h'] at this
/-- In whatever order; S holds behind each operation till one of L comes. -/
def anyT (P : Program) (ops : Array Oper) (Q : Exit → Act → World → Prop) (S : World → Prop) (L : List Nat) : Nat → Array Bool → Act → World → Prop
  | 0, listed, a, w => Region.ready .any ops listed = [] ∧ Q .normal a w
  | n + 1, listed, a, w => (Region.ready .any ops listed = [] → Q .normal a w) ∧
      ∀ i ∈ Region.ready .any ops listed, wpOp P ops Q i (fun a' w' => (cleanB L (listed.setIfInBounds i true) = true → S w') ∧ anyT P ops Q S L n (listed.setIfInBounds i true) a' w') a w
theorem any_of_anyT {P : Program} {ops : Array Oper} {Q : Exit → Act → World → Prop} {S : World → Prop} {L : List Nat} : ∀ (n : Nat) (listed : Array Bool) (a : Act) (w : World), anyT P ops Q S L n listed a w → wpAny P .any ops Q n listed a w
  | 0, _, _, _, h => h
  | n + 1, _, _, _, h => ⟨h.1, fun i hi => wpOp_mono (fun a' w' h' => any_of_anyT n _ a' w' h'.2) (h.2 i hi)⟩
def waitsT (ops : Array Oper) (L : List Nat) (i : Nat) : Bool := L.all (fun x => waitsB ops x i)
theorem waits_notT {ops : Array Oper} {L : List Nat} {i j : Nat} {listed : Array Bool} (h : waitsT ops L i = true) (hi : i ∈ Region.ready .any ops listed) (hj : j ∈ Region.ready .any ops listed) : j ∉ L := fun hL => by
  unfold waitsT at h
  rw [List.all_eq_true] at h
  exact waits_not (h j hL) hi hj
theorem anyT_read {P : Program} {ops : Array Oper} {Q : Exit → Act → World → Prop} {S : World → Prop} {L : List Nat} {i : Nat} {oi : Oper} {v : Value} (hi : ops[i]? = some oi) (hs : Region.noSelect ops = true) (hw : waitsT ops L i = true)
    (hQ : ∀ c a w, Q (.panic c) (a.put oi.dst v) w → Q (.panic c) a w) : ∀ (n : Nat) (listed : Array Bool) (a : Act) (w : World),
      (∀ j oj, ops[j]? = some oj → j ≠ i → listed.getD j true = false → (∀ e ∈ oj.after, Region.binds .any e = true → e.on ≠ i) → oi.apart ops oj = true) →
      i ∈ Region.ready .any ops listed → YieldsIf P ops S oi v a → cleanB L listed = true → S w → anyT P ops Q S L n (listed.setIfInBounds i true) (a.put oi.dst v) w → anyT P ops Q S L (n + 1) listed a w := by
  have hsel := Region.noSelect_spec hs
  have hiL : i ∉ L := fun h => by
    unfold waitsT at hw
    rw [List.all_eq_true] at hw
    have := hw i h
    simp [waitsB] at this
  intro n
  induction n with
  | zero =>
    intro listed a w _ hr hy hc hS H
    refine ⟨fun h => (by rw [h] at hr; cases hr), fun j hj => ?_⟩
    by_cases hji : j = i
    · subst hji; exact hy.wpOp hi hS ⟨fun _ => hS, H⟩
    · have := ready_mono hj hji
      rw [H.1] at this
      cases this
  | succ n ih =>
    intro listed a w hfree hr hy hc hS H
    refine ⟨fun h => (by rw [h] at hr; cases hr), fun j hj => ?_⟩
    by_cases hji : j = i
    · subst hji; exact hy.wpOp hi hS ⟨fun _ => hS, H⟩
    · have hjL : j ∉ L := waits_notT hw hr hj
      have h1 := H.2 j (ready_mono hj hji)
      obtain ⟨hjun, oj, hoj, hall⟩ := mem_ready.1 hj
      have hnot : ∀ e ∈ oj.after, Region.binds .any e = true → e.on ≠ i := fun e he hb heq => by
        have h1 := hall e he hb
        have h0 := (mem_ready.1 hr).1
        rw [heq] at h1
        rcases Nat.lt_or_ge i listed.size with h' | h'
        · simp [h'] at h0 h1; rw [h0] at h1; cases h1
        · simp [Array.getElem?_eq_none h'] at h1
      have h2 := wpOp_putIf hoj (hfree j oj hoj hji hjun hnot) (fun cs b => hsel i oi cs b hi) (fun cs b => hsel j oj cs b hoj) hQ hy h1
      have hfree' : ∀ k ok, ops[k]? = some ok → k ≠ i → (listed.setIfInBounds j true).getD k true = false →
          (∀ e ∈ ok.after, Region.binds .any e = true → e.on ≠ i) → oi.apart ops ok = true := fun k ok hk hki hun hno => by
        refine hfree k ok hk hki ?_ hno
        by_cases hjk : j = k
        · subst hjk; exact hjun
        · rw [getD_set_ne true hjk] at hun; exact hun
      refine wpOp_mono (fun a' w' h3 => ?_) h2
      have hS' := h3.2.1 (clean_set hjL (clean_set hiL hc))
      refine ⟨fun _ => hS', ih (listed.setIfInBounds j true) a' w' hfree' (ready_mono hr (Ne.symm hji)) h3.1 (clean_set hjL hc) hS' ?_⟩
      rw [Array.setIfInBounds_comm _ _ hji]
      exact h3.2.2
theorem anyT_dry {P : Program} {ops : Array Oper} {Q : Exit → Act → World → Prop} {S : World → Prop} {L : List Nat} {i : Nat} {oi : Oper} {v : Value} (hi : ops[i]? = some oi) (hs : Region.noSelect ops = true) (hw : i ∉ L)
    (hQ : ∀ c a w, Q (.panic c) (a.put oi.dst v) w → Q (.panic c) a w) : ∀ (n : Nat) (listed : Array Bool) (a : Act) (w : World),
      (∀ j oj, ops[j]? = some oj → j ≠ i → listed.getD j true = false → (∀ e ∈ oj.after, Region.binds .any e = true → e.on ≠ i) → oi.apart ops oj = true) →
      i ∈ Region.ready .any ops listed → YieldsIf P ops (fun _ => True) oi v a → (cleanB L listed = true → S w) → anyT P ops Q S L n (listed.setIfInBounds i true) (a.put oi.dst v) w → anyT P ops Q S L (n + 1) listed a w := by
  have hsel := Region.noSelect_spec hs
  intro n
  induction n with
  | zero =>
    intro listed a w _ hr hy hS H
    refine ⟨fun h => (by rw [h] at hr; cases hr), fun j hj => ?_⟩
    by_cases hji : j = i
    · subst hji; exact hy.wpOp hi trivial ⟨fun h => hS (clean_ne hw h), H⟩
    · have := ready_mono hj hji
      rw [H.1] at this
      cases this
  | succ n ih =>
    intro listed a w hfree hr hy hS H
    refine ⟨fun h => (by rw [h] at hr; cases hr), fun j hj => ?_⟩
    by_cases hji : j = i
    · subst hji; exact hy.wpOp hi trivial ⟨fun h => hS (clean_ne hw h), H⟩
    · skip
      have h1 := H.2 j (ready_mono hj hji)
      obtain ⟨hjun, oj, hoj, hall⟩ := mem_ready.1 hj
      have hnot : ∀ e ∈ oj.after, Region.binds .any e = true → e.on ≠ i := fun e he hb heq => by
        have h1 := hall e he hb
        have h0 := (mem_ready.1 hr).1
        rw [heq] at h1
        rcases Nat.lt_or_ge i listed.size with h' | h'
        · simp [h'] at h0 h1; rw [h0] at h1; cases h1
        · simp [Array.getElem?_eq_none h'] at h1
      have h2 := wpOp_putIf hoj (hfree j oj hoj hji hjun hnot) (fun cs b => hsel i oi cs b hi) (fun cs b => hsel j oj cs b hoj) hQ hy h1
      have hfree' : ∀ k ok, ops[k]? = some ok → k ≠ i → (listed.setIfInBounds j true).getD k true = false →
          (∀ e ∈ ok.after, Region.binds .any e = true → e.on ≠ i) → oi.apart ops ok = true := fun k ok hk hki hun hno => by
        refine hfree k ok hk hki ?_ hno
        by_cases hjk : j = k
        · subst hjk; exact hjun
        · rw [getD_set_ne true hjk] at hun; exact hun
      refine wpOp_mono (fun a' w' h3 => ?_) h2
      have hS' : cleanB L (listed.setIfInBounds j true) = true → S w' := fun h => h3.2.1 (by rw [Array.setIfInBounds_comm _ _ (Ne.symm hji)]; exact clean_set hw h)
      refine ⟨hS', ih (listed.setIfInBounds j true) a' w' hfree' (ready_mono hr (Ne.symm hji)) h3.1 hS' ?_⟩
      rw [Array.setIfInBounds_comm _ _ hji]
      exact h3.2.2
theorem anyT_all {P : Program} {ops : Array Oper} {Q : Exit → Act → World → Prop} {S : World → Prop} {L : List Nat} {i n : Nat} {listed : Array Bool} {a : Act} {w : World} (hr : Region.ready .any ops listed = [i])
    (h : wpOp P ops Q i (fun a' w' => (cleanB L (listed.setIfInBounds i true) = true → S w') ∧ anyT P ops Q S L n (listed.setIfInBounds i true) a' w') a w) : anyT P ops Q S L (n + 1) listed a w :=
  ⟨fun h0 => absurd (hr ▸ h0) (by simp), fun j hj => by
    obtain rfl : j = i := by rw [hr] at hj; simpa using hj
    exact h⟩
theorem anyT_done {P : Program} {ops : Array Oper} {Q : Exit → Act → World → Prop} {S : World → Prop} {L : List Nat} {listed : Array Bool} {a : Act} {w : World} (hr : Region.ready .any ops listed = []) (h : Q .normal a w) : ∀ n, anyT P ops Q S L n listed a w
  | 0 => ⟨hr, h⟩
  | _ + 1 => ⟨fun _ => h, by rw [hr]; simp⟩

/-- The last operations, one behind the other. -/
def tailB (ops : Array Oper) : List Nat → Array Bool → Bool
  | [], listed => (Region.ready .any ops listed).isEmpty
  | x :: t, listed => decide (x < ops.size) && (Region.ready .any ops listed == [x]) && tailB ops t (listed.setIfInBounds x true)
def wpE (P : Program) (ops : Array Oper) (l : List Oper) (Q : Exit → Act → World → Prop) : List Nat → Act → World → Prop
  | [], a, w => Q .normal a w
  | x :: t, a, w => wpList P ops (Exit.then (fun a' w' => Both True (wpE P ops l Q t a' w')) (OnlyOut Q)) [l.getD x default] a w
/-- A plan: flags as in Reg; then L. -/
def planTB (ops : Array Oper) (L : List Nat) : List (Nat × Nat) → Array Bool → Bool
  | [], listed => tailB ops L listed
  | (i, 0) :: p, listed => decide (i < ops.size) && cleanB L listed && !L.contains i && (Region.ready .any ops listed == [i]) && planTB ops L p (listed.setIfInBounds i true)
  | (i, 1) :: p, listed => decide (i < ops.size) && (Region.ready .any ops listed).contains i && Region.free .any ops listed i && !L.contains i && planTB ops L p (listed.setIfInBounds i true)
  | (i, _) :: p, listed => decide (i < ops.size) && (Region.ready .any ops listed).contains i && Region.free .any ops listed i && (waitsT ops L i && cleanB L listed) && planTB ops L p (listed.setIfInBounds i true)
def wpT (P : Program) (ops : Array Oper) (l : List Oper) (S : World → Prop) (Q : Exit → Act → World → Prop) (L : List Nat) : List (Nat × Nat) → Act → World → Prop
  | [], a, w => wpE P ops l Q L a w
  | (i, 0) :: p, a, w => wpList P ops (Exit.then (fun a' w' => Both (S w') (wpT P ops l S Q L p a' w')) (OnlyOut Q)) [l.getD i default] a w
  | (i, 1) :: p, a, w => dry P ops (l.getD i default) a (fun a' => wpT P ops l S Q L p a' w)
  | (i, _) :: p, a, w => dryS P ops S (l.getD i default) a (fun a' => wpT P ops l S Q L p a' w)

theorem dryT {P : Program} {Q : Exit → Act → World → Prop} {S : World → Prop} {L : List Nat} (ops : List Oper) (hs : Region.noSelect ops.toArray = true) (i : Nat) (hi : i < ops.length) {n : Nat} {listed : Array Bool} {a : Act} {w : World}
    (h1 : (Region.ready .any ops.toArray listed).contains i = true) (h2 : Region.free .any ops.toArray listed i = true) (h3 : waitsT ops.toArray L i = true) (hc : cleanB L listed = true) (hS : S w) {K : Act → Prop}
    (hK : ∀ a', K a' → anyT P ops.toArray (Exit.then (fun a w => Q .normal a w) (OnlyOut Q)) S L n (listed.setIfInBounds i true) a' w)
    (h : dryS P ops.toArray S ops[i] a K) : anyT P ops.toArray (Exit.then (fun a w => Q .normal a w) (OnlyOut Q)) S L (n + 1) listed a w := by
  have ho : ops.toArray[i]? = some ops[i] := by simp [hi]
  unfold dryS at h
  split at h
  · rename_i hw
    obtain ⟨v, hv, h⟩ := h
    exact anyT_read ho hs h3 (fun c a w x => by simp [Exit.then, OnlyOut] at x) n listed a w (Region.free_spec ho h2) (by simpa using h1) (.inl ⟨hw, hv⟩) hc hS (hK _ h)
  · rename_i hw
    exact anyT_read ho hs h3 (fun c a w x => by simp [Exit.then, OnlyOut] at x) n listed a w (Region.free_spec ho h2) (by simpa using h1) (.inr ⟨by simpa using hw, rfl⟩) hc hS (hK _ h)

theorem dryU {P : Program} {Q : Exit → Act → World → Prop} {S : World → Prop} {L : List Nat} (ops : List Oper) (hs : Region.noSelect ops.toArray = true) (i : Nat) (hi : i < ops.length) {n : Nat} {listed : Array Bool} {a : Act} {w : World}
    (h1 : (Region.ready .any ops.toArray listed).contains i = true) (h2 : Region.free .any ops.toArray listed i = true) (h3 : i ∉ L) (hS : cleanB L listed = true → S w) {K : Act → Prop}
    (hK : ∀ a', K a' → anyT P ops.toArray (Exit.then (fun a w => Q .normal a w) (OnlyOut Q)) S L n (listed.setIfInBounds i true) a' w)
    (h : dryS P ops.toArray (fun _ => True) ops[i] a K) : anyT P ops.toArray (Exit.then (fun a w => Q .normal a w) (OnlyOut Q)) S L (n + 1) listed a w := by
  have ho : ops.toArray[i]? = some ops[i] := by simp [hi]
  unfold dryS at h
  split at h
  · rename_i hw
    obtain ⟨v, hv, h⟩ := h
    exact anyT_dry ho hs h3 (fun c a w x => by simp [Exit.then, OnlyOut] at x) n listed a w (Region.free_spec ho h2) (by simpa using h1) (.inl ⟨hw, hv⟩) hS (hK _ h)
  · rename_i hw
    exact anyT_dry ho hs h3 (fun c a w x => by simp [Exit.then, OnlyOut] at x) n listed a w (Region.free_spec ho h2) (by simpa using h1) (.inr ⟨by simpa using hw, rfl⟩) hS (hK _ h)

theorem any_tail {P : Program} {Q : Exit → Act → World → Prop} {S : World → Prop} {L : List Nat} (ops : List Oper) :
    ∀ (t : List Nat) (n : Nat) (listed : Array Bool) (a : Act) (w : World), tailB ops.toArray t listed = true → (∀ x ∈ t, x ∈ L) → n = t.length →
      wpE P ops.toArray ops Q t a w → anyT P ops.toArray (Exit.then (fun a w => Q .normal a w) (OnlyOut Q)) S L n listed a w
  | [], n, listed, a, w, hB, _, hn, h => by
    obtain rfl : n = 0 := hn
    exact anyT_done (Q := Exit.then (fun a w => Q .normal a w) (OnlyOut Q)) (by simpa [tailB] using hB) h _
  | x :: t, n, listed, a, w, hB, hL, hn, h => by
    obtain rfl : n = t.length + 1 := hn
    simp only [tailB, Bool.and_eq_true, beq_iff_eq, decide_eq_true_eq, List.size_toArray] at hB
    obtain ⟨⟨hi, h1⟩, h3⟩ := hB
    have hd : ops.getD x default = ops[x] := by simp [hi]
    simp only [wpE, hd] at h
    exact anyT_all h1 (do_one (S := fun _ => True) ops x hi (fun a w hh => ⟨fun e => absurd e (clean_not (hL x (List.mem_cons_self ..))), any_tail ops t _ _ a w h3 (fun y hy => hL y (List.mem_cons_of_mem _ hy)) rfl hh.2⟩) h)
theorem any_planT {P : Program} {Q : Exit → Act → World → Prop} {S : World → Prop} {L : List Nat} (ops : List Oper) (hs : Region.noSelect ops.toArray = true) :
    ∀ (p : List (Nat × Nat)) (n : Nat) (listed : Array Bool) (a : Act) (w : World), planTB ops.toArray L p listed = true → n = p.length + L.length → S w →
      wpT P ops.toArray ops S Q L p a w → anyT P ops.toArray (Exit.then (fun a w => Q .normal a w) (OnlyOut Q)) S L n listed a w
  | [], n, listed, a, w, hB, hn, hS, h => by
    have hn' : n = L.length := by simpa using hn
    exact any_tail ops L n listed a w hB (fun x hx => hx) hn' h
  | (i, 0) :: p, n, listed, a, w, hB, hn, hS, h => by
    obtain rfl : n = (p.length + L.length) + 1 := by rw [hn, List.length_cons]; omega
    simp only [planTB, Bool.and_eq_true, beq_iff_eq, decide_eq_true_eq, List.size_toArray] at hB
    obtain ⟨⟨⟨⟨hi, hc⟩, hL⟩, h1⟩, h3⟩ := hB
    have hd : ops.getD i default = ops[i] := by simp [hi]
    simp only [wpT, hd] at h
    exact anyT_all h1 (do_one ops i hi (fun a w hh => ⟨fun _ => hh.1, any_planT ops hs p _ _ a w h3 rfl hh.1 hh.2⟩) h)
  | (i, 1) :: p, n, listed, a, w, hB, hn, hS, h => by
    obtain rfl : n = (p.length + L.length) + 1 := by rw [hn, List.length_cons]; omega
    simp only [planTB, Bool.and_eq_true, decide_eq_true_eq, List.size_toArray] at hB
    obtain ⟨⟨⟨⟨hi, h1⟩, h2⟩, h4⟩, h3⟩ := hB
    have hd : ops.getD i default = ops[i] := by simp [hi]
    simp only [wpT, hd] at h
    exact dryU ops hs i hi h1 h2 (by simpa using h4) (fun _ => hS) (fun a' hh => any_planT ops hs p _ _ a' w h3 rfl hS hh) (dry_S h)
  | (i, k + 2) :: p, n, listed, a, w, hB, hn, hS, h => by
    obtain rfl : n = (p.length + L.length) + 1 := by rw [hn, List.length_cons]; omega
    simp only [planTB, Bool.and_eq_true, decide_eq_true_eq, List.size_toArray] at hB
    obtain ⟨⟨⟨⟨hi, h1⟩, h2⟩, h4, hc⟩, h3⟩ := hB
    have hd : ops.getD i default = ops[i] := by simp [hi]
    simp only [wpT, hd] at h
    exact dryT ops hs i hi h1 h2 h4 hc hS (fun a' hh => any_planT ops hs p _ _ a' w h3 rfl hS hh) h

/-- A region that draws its order, by a plan and its last operation. -/
theorem wp_region_tail {P : Program} {id : Nat} {Q : Exit → Act → World → Prop} {a : Act} {w : World} {l : List Oper} (S : World → Prop) (p : List (Nat × Nat)) (L : List Nat) (hm : P.follows .mixedOrders = true)
    (hB : (Region.noSelect l.toArray && planTB l.toArray L p (Array.replicate l.length false) && decide (l.length = p.length + L.length)) = true) (hS : S w.drew)
    (h : wpT P l.toArray l S Q L p a w.drew) : (Code.region id l.toArray true).wp P Q a w := by
  simp only [Bool.and_eq_true, decide_eq_true_eq] at hB
  obtain ⟨⟨h1, h4⟩, h5⟩ := hB
  refine Code.wp_mono (Q := Exit.then (fun a w => Q .normal a w) (OnlyOut Q)) ?_ ?_
  · intro e a w q
    cases e with
    | normal => exact q
    | outgrown => exact q
    | _ => exact q.elim
  · refine wp_region_any hm (any_of_anyT (S := S) (L := L) _ _ _ _ ?_)
    have := any_planT l h1 p l.length (Array.replicate l.length false) a w.drew h4 h5 hS h
    simpa using this
theorem wpT_dry {P : Program} {ops : Array Oper} {l : List Oper} {S : World → Prop} {Q : Exit → Act → World → Prop} {L : List Nat} {a : Act} {w : World} {i : Nat} {p : List (Nat × Nat)} (h : ∀ K : Act → Prop, (∀ a', wpT P ops l S Q L p a' w → K a') → dry P ops (l.getD i default) a K) : wpT P ops l S Q L ((i, 1) :: p) a w := h _ (fun _ hh => hh)
theorem wpT_do {P : Program} {ops : Array Oper} {l : List Oper} {S : World → Prop} {Q : Exit → Act → World → Prop} {L : List Nat} {a : Act} {w : World} {i : Nat} {p : List (Nat × Nat)} (h : wpList P ops (Exit.then (fun a' w' => Both (S w') (wpT P ops l S Q L p a' w')) (OnlyOut Q)) [l.getD i default] a w) : wpT P ops l S Q L ((i, 0) :: p) a w := h
theorem wpT_tail {P : Program} {ops : Array Oper} {l : List Oper} {S : World → Prop} {Q : Exit → Act → World → Prop} {L : List Nat} {a : Act} {w : World} (h : wpE P ops l Q L a w) : wpT P ops l S Q L [] a w := h
theorem wpE_do {P : Program} {ops : Array Oper} {l : List Oper} {Q : Exit → Act → World → Prop} {x : Nat} {t : List Nat} {a : Act} {w : World} (h : wpList P ops (Exit.then (fun a' w' => Both True (wpE P ops l Q t a' w')) (OnlyOut Q)) [l.getD x default] a w) : wpE P ops l Q (x :: t) a w := h
theorem wpE_nil {P : Program} {ops : Array Oper} {l : List Oper} {Q : Exit → Act → World → Prop} {a : Act} {w : World} (h : Q .normal a w) : wpE P ops l Q [] a w := h
theorem wpT_read {P : Program} {ops : Array Oper} {l : List Oper} {S : World → Prop} {Q : Exit → Act → World → Prop} {L : List Nat} {a : Act} {w : World} {i : Nat} {p : List (Nat × Nat)} (v : Value) (hw : Region.wanted (l.getD i default) (yielded ops a.tmps) = true) (hv : ∀ w', S w' → (execOp a.eval (l.getD i default)).run P w' = .ok (.value v) w')
    (h : ∀ K : Act → Prop, (∀ a', wpT P ops l S Q L p a' w → K a') → K (a.put (l.getD i default).dst v)) : wpT P ops l S Q L ((i, 2) :: p) a w := by
  show dryS _ _ _ _ _ _
  unfold dryS
  rw [if_pos hw]
  exact ⟨v, hv, h _ (fun _ hh => hh)⟩
theorem wpT_skip {P : Program} {ops : Array Oper} {l : List Oper} {S : World → Prop} {Q : Exit → Act → World → Prop} {L : List Nat} {a : Act} {w : World} {i : Nat} {p : List (Nat × Nat)} (h : ∀ K : Act → Prop, (∀ a', wpT P ops l S Q L p a' w → K a') → dry P ops (l.getD i default) a K) : wpT P ops l S Q L ((i, 2) :: p) a w := dry_S (h _ (fun _ hh => hh))
attribute [irreducible] wpT wpE
end Go.Proofs.Ytpaabfadniakoaa
