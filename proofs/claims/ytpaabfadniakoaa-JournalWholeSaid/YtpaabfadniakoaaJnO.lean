/- JnO: the walk of filled (written by gen_fill.py). -/
import Derived.Test.YtpaabfadniakoaaJnN
set_option linter.unusedVariables false
set_option linter.unusedSimpArgs false
namespace Go.Proofs.Ytpaabfadniakoaa
open Go.RowKit

def filledN (l : Int) : Nat := if l = 0 then 1024 else if l < 0 then 1 else if 3000 < l then 1 else l.toNat
theorem filledN_le (l : Int) : filledN l ≤ 3000 := by unfold filledN; split; omega; split; omega; split; omega; omega
def part (k n : Nat) (f : UInt8) : List Value := (List.replicate k (Value.int .u8 f.toNat)) ++ List.replicate (n - k) (Value.int .u8 0)
theorem part_length (k n : Nat) (f : UInt8) (h : k ≤ n) : (part k n f).length = n := by simp [part]; omega
theorem part_set (k n : Nat) (f : UInt8) (h : k < n) : (part k n f).set k (.int .u8 f.toNat) = part (k + 1) n f := by
  apply List.ext_getElem
  · simp [part_length, part_length _ _ f (Nat.le_of_lt h), part_length (k + 1) n f h]
  · intro i h1 h2
    simp only [part, List.getElem_set, List.getElem_append, List.getElem_replicate, List.length_replicate]
    by_cases e : k = i
    · subst e; simp
    · rw [if_neg e]
      by_cases e2 : i < k
      · simp [e2, show i < k + 1 by omega]
      · simp [e2, show ¬ i < k + 1 by omega]
theorem part_at (k n i : Nat) (f : UInt8) (h : k ≤ n) (hi : i < n) : ∃ v, (part k n f)[i]? = some v := by
  rw [List.getElem?_eq_getElem (by rw [part_length _ _ _ h]; exact hi)]; exact ⟨_, rfl⟩
theorem strOfNums_rep (n : Nat) (f : UInt8) : strOfNums (List.replicate n (f.toNat : Int)) = Dk.rep n f := by
  simp [strOfNums, Dk.rep]
theorem conv_part (W : World) (n b c : Nat) (f : UInt8) (ho : W.ownsRow 0 5 1 (.slice (some ⟨b, 0, none⟩) n c) n (part n n f)) :
    (convert 84 9 (.slice (some ⟨b, 0, none⟩) n c)).run Try.prog W = .ok (.string (Dk.rep n f)) W := by
  rw [← strOfNums_rep]
  refine run_convert_bytes_arg _ _ _ Try.underlying84 Try.underlying5 _ 0 n c _ (by simp) (fun i hi => ?_) _ Try.underlying9
  rw [Nat.zero_add, ho.cellAt i (by omega)]
  simp [part, hi, List.getD_eq_getElem?_getD]
theorem own_part0 (W : World) (n : Nat) (hn : n ≤ maxLen) : (W.alloc (.cells (madeCells #[.int .u8 0] n) 5)).ownsRow 0 5 1 (.slice (some ⟨W.heap.size, 0, none⟩) n n) n (part 0 n 0) := by
  have h := World.ownsRow_lit (base := 0) (e := 5) (size := 1) W (madeCells #[.int .u8 0] n) n (Nat.zero_le _) hn (by simp [size_madeCells])
  rw [toList_madeCells_one] at h
  simpa [part] using h
theorem part_zero (n : Nat) (f : UInt8) : part 0 n f = part 0 n 0 := by simp [part]

set_option maxHeartbeats 800000 in
set_option maxRecDepth 300000 in
theorem filled_zero (w : World) (p l : Int) (f : UInt8) (hl : l = 0) :
    Calls Try.prog 51 #[.agg #[.int .i64 p, .int .i64 l, .int .u8 f.toNat]] w fun e w' => e = .returned (.string (Dk.rep (filledN l) f)) ∧ Below w.heap.size w w' := by
  subst hl
  have HN : Hid (filledN 0 = 1024) := rfl
  obtain ⟨m, hm⟩ : ∃ m : Nat, m = 1024 := ⟨_, rfl⟩
  have hmk : ∀ W : World, (Instr.makeSlice 84 (.int .i64 (1024 : Int)) (.int .i64 (1024 : Int))).run Try.prog W = .ok (.slice (some ⟨W.heap.size, 0, none⟩) 1024 1024) (W.alloc (.cells (madeCells #[.int .u8 0] 1024) 5)) := by
    intro W
    exact run_make_row' 84 5 (.int .u8 0) 1 Try.underlying84 infoB rfl .i64 .i64 1024 (by omega) (by omega) W
  have hf := f.toNat_lt
  go_enter Try.func51, Try.ntmps51
  go_wp2_with fail
  have hown := own_part0 (w.alloc (.cells #[.int .i64 p, .int .i64 0, .int .u8 f.toNat] 96)) 1024 (by unfold maxLen; omega)
  rw [← part_zero 1024 f] at hown
  simp only [World.size_alloc] at hown
  have hbb := blk_alloc (blk_new w (.cells #[.int .i64 p, .int .i64 0, .int .u8 f.toNat] 96)) (.cells (madeCells #[.int .u8 0] 1024) 5)
  go_loopw [5, 18] (fun j j2 wr => ∃ i : Nat, i ≤ 1024 ∧ j = .int .i64 i ∧ wr.ownsRow 0 5 1 (.slice (some ⟨w.heap.size + 1, 0, none⟩) 1024 1024) 1024 (part i 1024 f) ∧ wr.heap[w.heap.size]? = some (.cells #[.int .i64 p, .int .i64 0, .int .u8 f.toNat] 96 (0, 0)) ∧ Below w.heap.size w wr) (fun j _ _ => 1024 - (intOf j).toNat)
  case atStart => exact ⟨0, Nat.zero_le _, rfl, hown, hbb, ((Below.refl _ w).alloc (Nat.le_refl _) _).alloc (by simp) _⟩
  case round =>
    obtain ⟨i, hi, rfl, ho, hb, hbel⟩ := hrel
    by_cases hlt : i < 1024
    · obtain ⟨v, hv⟩ := part_at i 1024 i f (by omega) hlt
      have c3 := blk_cell hb 2
      simp at c3
      have ci := (ho.cellAt i (by omega)).trans hv
      have fi := ho.frozenAt (g := w.heap.size + 1) i
      have HO := Lib.hid ho
      have HB := Lib.hid hb
      clear hv ho hb hown hbb
      go_wp2
      go_roundw
      case rel =>
        refine ⟨i + 1, by omega, by go_num, ?_, by rw [blk_set_ne (by simp)]; exact HB.out, hbel.setCell (p := ⟨w.heap.size + 1, i, none⟩) (by simp) _⟩
        have st := (HO.out.stored i (.int .u8 f.toNat)).1
        rw [part_set _ _ _ hlt] at st
        exact st
      case measure => simp [intOf]; omega
    · have hi2 : i = 1024 := by omega
      rw [hi2] at ho
      have hcv := conv_part wr 1024 (w.heap.size + 1) 1024 f ho
      clear ho hb hown hbb
      go_wp2
      go_ret
      exact ⟨by rw [HN.out]; rfl, hbel⟩

set_option maxHeartbeats 800000 in
set_option maxRecDepth 300000 in
theorem filled_neg (w : World) (p l : Int) (f : UInt8) (hl : l < 0) :
    Calls Try.prog 51 #[.agg #[.int .i64 p, .int .i64 l, .int .u8 f.toNat]] w fun e w' => e = .returned (.string (Dk.rep (filledN l) f)) ∧ Below w.heap.size w w' := by
  have HN : Hid (filledN l = 1) := by unfold Hid filledN; rw [if_neg (by omega), if_pos hl]
  have q : (l == 0) = false := by simpa using (by omega : ¬ l = 0)
  have hmk : ∀ W : World, (Instr.makeSlice 84 (.int .i64 (1 : Int)) (.int .i64 (1 : Int))).run Try.prog W = .ok (.slice (some ⟨W.heap.size, 0, none⟩) 1 1) (W.alloc (.cells (madeCells #[.int .u8 0] 1) 5)) := by
    intro W
    exact run_make_row' 84 5 (.int .u8 0) 1 Try.underlying84 infoB rfl .i64 .i64 1 (by omega) (by omega) W
  have hf := f.toNat_lt
  go_enter Try.func51, Try.ntmps51
  go_wp2_with fail
  have hown := own_part0 (w.alloc (.cells #[.int .i64 p, .int .i64 l, .int .u8 f.toNat] 96)) 1 (by unfold maxLen; omega)
  rw [← part_zero 1 f] at hown
  simp only [World.size_alloc] at hown
  have hbb := blk_alloc (blk_new w (.cells #[.int .i64 p, .int .i64 l, .int .u8 f.toNat] 96)) (.cells (madeCells #[.int .u8 0] 1) 5)
  go_loopw [5, 18] (fun j j2 wr => ∃ i : Nat, i ≤ 1 ∧ j = .int .i64 i ∧ wr.ownsRow 0 5 1 (.slice (some ⟨w.heap.size + 1, 0, none⟩) 1 1) 1 (part i 1 f) ∧ wr.heap[w.heap.size]? = some (.cells #[.int .i64 p, .int .i64 l, .int .u8 f.toNat] 96 (0, 0)) ∧ Below w.heap.size w wr) (fun j _ _ => 1 - (intOf j).toNat)
  case atStart => exact ⟨0, Nat.zero_le _, rfl, hown, hbb, ((Below.refl _ w).alloc (Nat.le_refl _) _).alloc (by simp) _⟩
  case round =>
    obtain ⟨i, hi, rfl, ho, hb, hbel⟩ := hrel
    by_cases hlt : i < 1
    · obtain ⟨v, hv⟩ := part_at i 1 i f (by omega) hlt
      have c3 := blk_cell hb 2
      simp at c3
      have ci := (ho.cellAt i (by omega)).trans hv
      have fi := ho.frozenAt (g := w.heap.size + 1) i
      have HO := Lib.hid ho
      have HB := Lib.hid hb
      clear hv ho hb hown hbb
      go_wp2
      go_roundw
      case rel =>
        refine ⟨i + 1, by omega, by go_num, ?_, by rw [blk_set_ne (by simp)]; exact HB.out, hbel.setCell (p := ⟨w.heap.size + 1, i, none⟩) (by simp) _⟩
        have st := (HO.out.stored i (.int .u8 f.toNat)).1
        rw [part_set _ _ _ hlt] at st
        exact st
      case measure => simp [intOf]; omega
    · have hi2 : i = 1 := by omega
      rw [hi2] at ho
      have hcv := conv_part wr 1 (w.heap.size + 1) 1 f ho
      clear ho hb hown hbb
      go_wp2
      go_ret
      exact ⟨by rw [HN.out]; rfl, hbel⟩

set_option maxHeartbeats 800000 in
set_option maxRecDepth 300000 in
theorem filled_big (w : World) (p l : Int) (f : UInt8) (hl : 3000 < l) :
    Calls Try.prog 51 #[.agg #[.int .i64 p, .int .i64 l, .int .u8 f.toNat]] w fun e w' => e = .returned (.string (Dk.rep (filledN l) f)) ∧ Below w.heap.size w w' := by
  have HN : Hid (filledN l = 1) := by unfold Hid filledN; rw [if_neg (by omega), if_neg (by omega), if_pos hl]
  have q : (l == 0) = false := by simpa using (by omega : ¬ l = 0)
  have q2 : decide (l < 0) = false := by simpa using (by omega : ¬ l < 0)
  have hmk : ∀ W : World, (Instr.makeSlice 84 (.int .i64 (1 : Int)) (.int .i64 (1 : Int))).run Try.prog W = .ok (.slice (some ⟨W.heap.size, 0, none⟩) 1 1) (W.alloc (.cells (madeCells #[.int .u8 0] 1) 5)) := by
    intro W
    exact run_make_row' 84 5 (.int .u8 0) 1 Try.underlying84 infoB rfl .i64 .i64 1 (by omega) (by omega) W
  have hf := f.toNat_lt
  go_enter Try.func51, Try.ntmps51
  go_wp2_with fail
  have hown := own_part0 (w.alloc (.cells #[.int .i64 p, .int .i64 l, .int .u8 f.toNat] 96)) 1 (by unfold maxLen; omega)
  rw [← part_zero 1 f] at hown
  simp only [World.size_alloc] at hown
  have hbb := blk_alloc (blk_new w (.cells #[.int .i64 p, .int .i64 l, .int .u8 f.toNat] 96)) (.cells (madeCells #[.int .u8 0] 1) 5)
  go_loopw [5, 18] (fun j j2 wr => ∃ i : Nat, i ≤ 1 ∧ j = .int .i64 i ∧ wr.ownsRow 0 5 1 (.slice (some ⟨w.heap.size + 1, 0, none⟩) 1 1) 1 (part i 1 f) ∧ wr.heap[w.heap.size]? = some (.cells #[.int .i64 p, .int .i64 l, .int .u8 f.toNat] 96 (0, 0)) ∧ Below w.heap.size w wr) (fun j _ _ => 1 - (intOf j).toNat)
  case atStart => exact ⟨0, Nat.zero_le _, rfl, hown, hbb, ((Below.refl _ w).alloc (Nat.le_refl _) _).alloc (by simp) _⟩
  case round =>
    obtain ⟨i, hi, rfl, ho, hb, hbel⟩ := hrel
    by_cases hlt : i < 1
    · obtain ⟨v, hv⟩ := part_at i 1 i f (by omega) hlt
      have c3 := blk_cell hb 2
      simp at c3
      have ci := (ho.cellAt i (by omega)).trans hv
      have fi := ho.frozenAt (g := w.heap.size + 1) i
      have HO := Lib.hid ho
      have HB := Lib.hid hb
      clear hv ho hb hown hbb
      go_wp2
      go_roundw
      case rel =>
        refine ⟨i + 1, by omega, by go_num, ?_, by rw [blk_set_ne (by simp)]; exact HB.out, hbel.setCell (p := ⟨w.heap.size + 1, i, none⟩) (by simp) _⟩
        have st := (HO.out.stored i (.int .u8 f.toNat)).1
        rw [part_set _ _ _ hlt] at st
        exact st
      case measure => simp [intOf]; omega
    · have hi2 : i = 1 := by omega
      rw [hi2] at ho
      have hcv := conv_part wr 1 (w.heap.size + 1) 1 f ho
      clear ho hb hown hbb
      go_wp2
      go_ret
      exact ⟨by rw [HN.out]; rfl, hbel⟩

set_option maxHeartbeats 800000 in
set_option maxRecDepth 300000 in
theorem filled_mid (w : World) (p l : Int) (f : UInt8) (hl : 1 ≤ l) (hl2 : l ≤ 3000) :
    Calls Try.prog 51 #[.agg #[.int .i64 p, .int .i64 l, .int .u8 f.toNat]] w fun e w' => e = .returned (.string (Dk.rep (filledN l) f)) ∧ Below w.heap.size w w' := by
  obtain ⟨m, rfl⟩ := Int.eq_ofNat_of_zero_le (show 0 ≤ l by omega)
  have HN : Hid (filledN m = m) := by unfold Hid filledN; rw [if_neg (by omega), if_neg (by omega), if_neg (by omega)]; simp
  have q : ((m : Int) == 0) = false := by simpa using (by omega : ¬ (m : Int) = 0)
  have q2 : decide ((m : Int) < 0) = false := by simp
  have hmk : ∀ W : World, (Instr.makeSlice 84 (.int .i64 (m : Int)) (.int .i64 (m : Int))).run Try.prog W = .ok (.slice (some ⟨W.heap.size, 0, none⟩) m m) (W.alloc (.cells (madeCells #[.int .u8 0] m) 5)) := by
    intro W
    exact run_make_row' 84 5 (.int .u8 0) 1 Try.underlying84 infoB rfl .i64 .i64 m (by omega) (by omega) W
  have hf := f.toNat_lt
  go_enter Try.func51, Try.ntmps51
  go_wp2_with fail
  have hown := own_part0 (w.alloc (.cells #[.int .i64 p, .int .i64 (m : Int), .int .u8 f.toNat] 96)) m (by unfold maxLen; omega)
  rw [← part_zero m f] at hown
  simp only [World.size_alloc] at hown
  have hbb := blk_alloc (blk_new w (.cells #[.int .i64 p, .int .i64 (m : Int), .int .u8 f.toNat] 96)) (.cells (madeCells #[.int .u8 0] m) 5)
  go_loopw [5, 18] (fun j j2 wr => ∃ i : Nat, i ≤ m ∧ j = .int .i64 i ∧ wr.ownsRow 0 5 1 (.slice (some ⟨w.heap.size + 1, 0, none⟩) m m) m (part i m f) ∧ wr.heap[w.heap.size]? = some (.cells #[.int .i64 p, .int .i64 (m : Int), .int .u8 f.toNat] 96 (0, 0)) ∧ Below w.heap.size w wr) (fun j _ _ => m - (intOf j).toNat)
  case atStart => exact ⟨0, Nat.zero_le _, rfl, hown, hbb, ((Below.refl _ w).alloc (Nat.le_refl _) _).alloc (by simp) _⟩
  case round =>
    obtain ⟨i, hi, rfl, ho, hb, hbel⟩ := hrel
    by_cases hlt : i < m
    · obtain ⟨v, hv⟩ := part_at i m i f (by omega) hlt
      have c3 := blk_cell hb 2
      simp at c3
      have ci := (ho.cellAt i (by omega)).trans hv
      have fi := ho.frozenAt (g := w.heap.size + 1) i
      have HO := Lib.hid ho
      have HB := Lib.hid hb
      clear hv ho hb hown hbb
      go_wp2
      go_roundw
      case rel =>
        refine ⟨i + 1, by omega, by go_num, ?_, by rw [blk_set_ne (by simp)]; exact HB.out, hbel.setCell (p := ⟨w.heap.size + 1, i, none⟩) (by simp) _⟩
        have st := (HO.out.stored i (.int .u8 f.toNat)).1
        rw [part_set _ _ _ hlt] at st
        exact st
      case measure => simp [intOf]; omega
    · obtain rfl : i = m := by omega
      have hcv := conv_part wr i (w.heap.size + 1) i f ho
      clear ho hb hown hbb
      go_wp2
      go_ret
      exact ⟨by rw [HN.out]; rfl, hbel⟩

theorem filled_any (w : World) (p l : Int) (f : UInt8) :
    Calls Try.prog 51 #[.agg #[.int .i64 p, .int .i64 l, .int .u8 f.toNat]] w fun e w' => e = .returned (.string (Dk.rep (filledN l) f)) ∧ Below w.heap.size w w' := by
  by_cases h0 : l = 0
  · exact filled_zero w p l f h0
  · by_cases h1 : l < 0
    · exact filled_neg w p l f h1
    · by_cases h2 : 3000 < l
      · exact filled_big w p l f h2
      · exact filled_mid w p l f (by omega) (by omega)
end Go.Proofs.Ytpaabfadniakoaa
