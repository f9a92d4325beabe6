/- Disk6: the walks of disk.New and of Clone. -/
import Derived.Test.YtoolkamajlgcbaaDisk5
import Derived.Deep.OwnRows
set_option linter.unusedVariables false
set_option linter.unusedSimpArgs false
namespace Go.Proofs.Ytoolkamajlgcbaa
open Go.RowKit

theorem infoB : (Try.prog.info? 5).map (fun i => (i.zero, i.size, i.bytes)) = some (some (.int .u8 0), 1, 1) := by kernel_rfl

/-- A new disk. -/
def DiskNew (w : World) (d : Dk) (e : Ending) (w' : World) : Prop :=
  ∃ g F vl vw, e = .returned (.tuple #[.pointer (some ⟨g, 0, none⟩), .int .i64 0]) ∧ IsDisk w' F g d vl vw ∧ (∀ k, F k → w.heap.size ≤ k) ∧ Below w.heap.size w w'

theorem new_no (w : World) (n : Int) (h : n < 1 ∨ 2048 < n) :
    Calls Try.prog 33 #[.int .i64 n] w fun e w' => e = .returned (.tuple #[.pointer none, .int .i64 1]) ∧ w = w' := by
  by_cases h1 : n < 1
  · go_enter Try.func33, Try.ntmps33
    go_wp2
    go_ret2
    exact ⟨rfl, rfl⟩
  · have h2 : 2048 < n := by omega
    have h1' : decide (n < 1) = false := by simpa using h1
    go_enter Try.func33, Try.ntmps33
    go_wp2
    go_ret2
    exact ⟨rfl, rfl⟩

theorem strOfNums_zero (n : Nat) : strOfNums (List.replicate n 0) = Dk.rep n 0 := by
  simp [strOfNums, Dk.rep]
theorem conv_zero (W : World) (n b : Nat) (hb : b = W.heap.size) (hn : n ≤ 9223372036854775807) :
    (convert 51 9 (.slice (some ⟨b, 0, none⟩) n n)).run Try.prog (W.alloc (.cells (madeCells #[.int .u8 0] n) 5)) = .ok (.string (Dk.rep n 0)) (W.alloc (.cells (madeCells #[.int .u8 0] n) 5)) := by
  subst hb
  rw [← strOfNums_zero]
  refine run_convert_bytes_arg _ _ _ Try.underlying51 Try.underlying5 _ 0 n n _ (by simp) (fun i hi => ?_) _ Try.underlying9
  rw [blk_cell (blk_new W _), Nat.zero_add]
  rw [← Array.getElem?_toList, toList_madeCells_one]
  simp [hi, List.getD_eq_getElem?_getD]

set_option maxHeartbeats 800000 in
set_option maxRecDepth 100000 in
theorem new_yes (w : World) (n : Nat) (h1 : 1 ≤ n) (h2 : n ≤ 2048) :
    Calls Try.prog 33 #[.int .i64 n] w (DiskNew w (Dk.new n)) := by
  have d1 : decide ((n : Int) < 1) = false := by simp; omega
  obtain ⟨i0, hi, hz0, hz1, hz2⟩ := info_parts infoS
  have hmk : ∀ W : World, (Instr.makeSlice 51 (.int .i64 256) (.int .i64 256)).run Try.prog W = .ok (.slice (some ⟨W.heap.size, 0, none⟩) 256 256) (W.alloc (.cells (madeCells #[.int .u8 0] 256) 5)) := by
    intro W
    exact run_make_row' 51 5 (.int .u8 0) 1 Try.underlying51 infoB rfl .i64 .i64 256 (by decide) (by decide) W
  go_enter Try.func33, Try.ntmps33
  have hcv := conv_zero (w.alloc (.cells #[.slice none 0 0, .slice none 0 0, .int .i64 0, .int .i64 0, .bool false] 104)) 256 (w.heap.size + 1) (by simp) (by decide)
  obtain ⟨z, hz⟩ : ∃ z, z = Dk.rep 256 0 := ⟨_, rfl⟩
  rw [← hz] at hcv
  have HZ := Lib.hid hz
  clear hz
  go_wp2_with fail
  go_loopw [17] (fun j wr => ∃ (k : Nat) (v : Value), k ≤ n ∧ j = .int .i64 k ∧ wr.heap[w.heap.size]? = some (.cells #[v, .slice none 0 0, .int .i64 0, .int .i64 0, .bool false] 104 (0, 0)) ∧
    wr.ownsRow w.heap.size 9 1 v k (strs (List.replicate k z)) ∧ Below w.heap.size w wr ∧ w.heap.size < wr.heap.size) (fun j _ => n - (intOf j).toNat)
  case atStart =>
    exact ⟨0, .slice none 0 0, Nat.zero_le _, rfl, blk_alloc (blk_new w _) _, World.ownsRow_nil _ _ _ _, ((Below.refl _ w).alloc (Nat.le_refl _) _).alloc (by simp) _, by simp; omega⟩
  case round =>
    obtain ⟨k, v, hk, rfl, hb, ho, hbel, hsz⟩ := hrel
    have c0 := blk_cell hb 0
    simp at c0
    by_cases hlt : k < n
    · go_wp2_with (at_builtin; refine wpList_append_own_at _ rfl (.tmp 23) (.tmp 25) 101 rfl w.heap.size 9 i0 _ 1 16 Try.underlying101 hi hz0 hz1 hz2 rfl (by decide) v k (strs (List.replicate k z)) rfl (ho.alloc _) ⟨wr.heap.size, 0, none⟩ 1 1 [.string z] rfl rfl ?c1 ?c2 (by unfold maxLen; omega) (by omega) (by simp; omega) ?_)
      case c1 =>
        intro j u hj
        match j, hj with
        | 0, hj => simp at hj; subst hj; simp [Addr.add]
      case c2 => intro u hu; simp at hu; subst hu; rfl
      intro v1 w1 ho1 hg _ _
      have hne : v.ownBlock ≠ some w.heap.size := own_ne_blk ho hb (by decide)
      have hb1 := blk_grown hg (blk_alloc hb _) hne
      have HO := Lib.hid ho1
      have HB := Lib.hid hb1
      have HL : Hid (Below w.heap.size w w1) := (hbel.alloc (by omega) _).grown hg (by simp; omega) (fun j hj => (ho.lt j hj).1)
      have hs1 : w.heap.size < w1.heap.size := blk_lt hb1
      obtain ⟨g1, cp, rfl⟩ := own_shape ho1
      have k0 := blk_cell hb1 0
      have f0 := blk_free hb1 0
      simp at k0
      clear ho1 hg hb1 ho hb hbel
      go_wp2
      go_roundw
      case rel =>
        refine ⟨k + 1, _, by omega, by go_num, by rw [blk_set HB.out 0 _]; rfl, ?_, HL.out.setCell (p := ⟨w.heap.size, 0, none⟩) (Nat.le_refl _) _, by simpa using hs1⟩
        have hne1 := own_ne_blk HO.out HB.out (by decide)
        have o := ownsRow_setCell_other HO.out (a := ⟨w.heap.size, 0, none⟩) hne1 (.slice (some ⟨g1, 0, none⟩) (k + 1) cp)
        have e : strs (List.replicate (k + 1) z) = strs (List.replicate k z) ++ [.string z] := by simp [strs, List.replicate_succ']
        rw [e]
        exact o
      case measure => simp [intOf]; omega
    · obtain rfl : k = n := by omega
      have HO := Lib.hid ho
      have HB := Lib.hid hb
      clear ho hb
      go_wp2
      go_ret2
      refine ⟨w.heap.size, fun j => w.heap.size ≤ j ∧ j < wr.heap.size, v, .slice none 0 0, rfl, ⟨HB.out, ?_, World.ownsRow_nil _ _ _ _, ⟨Nat.le_refl _, hsz⟩, fun j hj => HO.out.lt j hj, fun j hj => by simp [Value.ownBlock] at hj, fun j hj => hj.2, Dk.Ok.new k h1 h2⟩, fun j hj => hj.1, hbel⟩
      have e : (Dk.new k).l = List.replicate k z := by rw [HZ.out]; rfl
      rw [e, List.length_replicate]
      obtain ⟨a, b⟩ := HO.out
      refine ⟨a, ?_⟩
      rcases b with b | ⟨g, cap, cur, b1, _, b2⟩
      · exact .inl b
      · exact .inr ⟨g, cap, cur, b1, Nat.zero_le _, b2⟩
end Go.Proofs.Ytoolkamajlgcbaa
