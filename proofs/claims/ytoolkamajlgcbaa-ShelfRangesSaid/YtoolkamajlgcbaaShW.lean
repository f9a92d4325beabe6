/- ShW: the law's value and light, the document's May. -/
import Derived.Test.YtoolkamajlgcbaaShV
import Derived.Test.YtoolkamajlgcbaaShL
set_option linter.unusedVariables false
set_option linter.unusedSimpArgs false
namespace Go.Proofs.Ytoolkamajlgcbaa
open Go.RowKit

def part (k n : Nat) (f : UInt8) : List Value := (List.replicate k (Value.int .u8 f.toNat)) ++ List.replicate (n - k) (Value.int .u8 0)
theorem part_length (k n : Nat) (f : UInt8) (h : k ≤ n) : (part k n f).length = n := by simp [part]; omega
theorem part_set (k n : Nat) (f : UInt8) (h : k < n) : (part k n f).set k (.int .u8 f.toNat) = part (k + 1) n f := by
  apply List.ext_getElem
  · simp [part_length, part_length _ _ f (Nat.le_of_lt h), part_length (k + 1) n f h]
  · intro i h1 h2
    simp only [part, List.getElem_set, List.getElem_append, List.getElem_replicate, List.length_replicate]
    by_cases e : k = i
    · subst e; simp
    · rw [if_neg e]
      by_cases e2 : i < k
      · simp [e2, show i < k + 1 by omega]
      · simp [e2, show ¬ i < k + 1 by omega]
theorem part_at (k n i : Nat) (f : UInt8) (h : k ≤ n) (hi : i < n) : ∃ v, (part k n f)[i]? = some v := by
  rw [List.getElem?_eq_getElem (by rw [part_length _ _ _ h]; exact hi)]; exact ⟨_, rfl⟩
theorem strOfNums_rep (n : Nat) (f : UInt8) : strOfNums (List.replicate n (f.toNat : Int)) = Dk.rep n f := by
  simp [strOfNums, Dk.rep]
theorem conv_part (W : World) (n b c : Nat) (f : UInt8) (ho : W.ownsRow 0 5 1 (.slice (some ⟨b, 0, none⟩) n c) n (part n n f)) :
    (convert 51 9 (.slice (some ⟨b, 0, none⟩) n c)).run Try.prog W = .ok (.string (Dk.rep n f)) W := by
  rw [← strOfNums_rep]
  refine run_convert_bytes_arg _ _ _ Try.underlying51 Try.underlying5 _ 0 n c _ (by simp) (fun i hi => ?_) _ Try.underlying9
  rw [Nat.zero_add, ho.cellAt i (by omega)]
  simp [part, hi, List.getD_eq_getElem?_getD]
theorem own_part0 (W : World) (n : Nat) (hn : n ≤ maxLen) : (W.alloc (.cells (madeCells #[.int .u8 0] n) 5)).ownsRow 0 5 1 (.slice (some ⟨W.heap.size, 0, none⟩) n n) n (part 0 n 0) := by
  have h := World.ownsRow_lit (base := 0) (e := 5) (size := 1) W (madeCells #[.int .u8 0] n) n (Nat.zero_le _) hn (by simp [size_madeCells])
  rw [toList_madeCells_one] at h
  simpa [part] using h
theorem part_zero (n : Nat) (f : UInt8) : part 0 n f = part 0 n 0 := by simp [part]
/-- The byte that a value is filled with. -/
def fillB (v : ByteArray) : UInt8 := if h : 0 < v.size then v[0] else 118
/-- What an Op gives. -/
def valS (l : Int) (v : ByteArray) : ByteArray := if l < 0 ∨ 1000 < l then v else Dk.rep l.toNat (fillB v)
abbrev opCells (kd n lg : Int) (a b c : ByteArray) : Obj := .cells #[.int .i64 kd, .int .i64 n, .int .i64 lg, .string a, .string b, .string c] 30
/-- May a key have a value? -/
def mayB (a b : ByteArray) : Bool := decide (1 ≤ a.size) && decide (a.size ≤ 64) && decide (b.size ≤ 400)
theorem mayB_iff {a b : ByteArray} : mayB a b = true ↔ EntOK (a, b) := by
  unfold mayB EntOK
  simp only [Bool.and_eq_true, decide_eq_true_eq]
  exact ⟨fun ⟨⟨h1, h2⟩, h3⟩ => ⟨h1, h2, h3⟩, fun ⟨h1, h2, h3⟩ => ⟨⟨h1, h2⟩, h3⟩⟩
set_option maxRecDepth 100000 in
theorem rmay_any (w : World) (a b : ByteArray) : Calls Try.prog 14 #[.string a, .string b] w fun e w' => e = .returned (.bool (mayB a b)) ∧ w = w' := by
  by_cases h1 : 1 ≤ a.size
  · have d1 : decide (1 ≤ (a.size : Int)) = true := by simp; omega
    have d1' : decide (1 ≤ a.size) = true := by simpa using h1
    by_cases h2 : a.size ≤ 64
    · have d2 : decide ((a.size : Int) ≤ 64) = true := by simp; omega
      have d2' : decide (a.size ≤ 64) = true := by simpa using h2
      by_cases h3 : b.size ≤ 400
      · have d3 : decide ((b.size : Int) ≤ 400) = true := by simp; omega
        have d3' : decide (b.size ≤ 400) = true := by simpa using h3
        have E : Hid (mayB a b = true) := mayB_iff.2 ⟨h1, h2, h3⟩
        go_enter Try.func14, Try.ntmps14
        go_wp2
        go_ret
        exact ⟨by rw [E.out]; rfl, rfl⟩
      · have d3 : decide ((b.size : Int) ≤ 400) = false := by simp; omega
        have d3' : decide (b.size ≤ 400) = false := by simpa using h3
        have E : Hid (mayB a b = false) := by unfold Hid; rw [Bool.eq_false_iff, ne_eq, mayB_iff]; exact fun h => h3 h.2.2
        go_enter Try.func14, Try.ntmps14
        go_wp2
        go_ret
        exact ⟨by rw [E.out]; rfl, rfl⟩
    · have d2 : decide ((a.size : Int) ≤ 64) = false := by simp; omega
      have d2' : decide (a.size ≤ 64) = false := by simpa using h2
      have E : Hid (mayB a b = false) := by unfold Hid; rw [Bool.eq_false_iff, ne_eq, mayB_iff]; exact fun h => h2 h.2.1
      go_enter Try.func14, Try.ntmps14
      go_wp2
      go_ret
      exact ⟨by rw [E.out]; rfl, rfl⟩
  · have d1 : decide (1 ≤ (a.size : Int)) = false := by simp; omega
    have d1' : decide (1 ≤ a.size) = false := by simpa using h1
    have E : Hid (mayB a b = false) := by unfold Hid; rw [Bool.eq_false_iff, ne_eq, mayB_iff]; exact fun h => h1 h.1
    go_enter Try.func14, Try.ntmps14
    go_wp2
    go_ret
    exact ⟨by rw [E.out]; rfl, rfl⟩
set_option maxHeartbeats 1600000 in
set_option maxRecDepth 300000 in
theorem value_any (w : World) (k n l : Int) (a b c : ByteArray) (hc : c.size ≤ maxLen) : Calls Try.prog 13 #[.agg #[.int .i64 k, .int .i64 n, .int .i64 l, .string a, .string b, .string c]] w fun e w' => e = .returned (.string (valS l c)) ∧ Below w.heap.size w w' := by
  have b0 : Hid (∀ o, Below w.heap.size w (w.alloc o)) := fun o => (Below.refl _ w).alloc (Nat.le_refl _) o
  unfold maxLen at hc
  by_cases hl1 : l < 0
  · have d1 : decide (l < 0) = true := by simpa using hl1
    have E : Hid (valS l c = c) := by unfold Hid valS; rw [if_pos (.inl hl1)]
    generalize valS l c = vv at E ⊢
    go_enter Try.func13, Try.ntmps13
    go_wp2
    go_ret
    exact ⟨by rw [E.out]; rfl, b0.out _⟩
  by_cases hl2 : 1000 < l
  · have d1 : decide (l < 0) = false := by simpa using hl1
    have d2 : decide (1000 < l) = true := by simpa using hl2
    have E : Hid (valS l c = c) := by unfold Hid valS; rw [if_pos (.inr hl2)]
    generalize valS l c = vv at E ⊢
    go_enter Try.func13, Try.ntmps13
    go_wp2
    go_ret
    exact ⟨by rw [E.out]; rfl, b0.out _⟩
  obtain ⟨m, rfl⟩ := Int.eq_ofNat_of_zero_le (show 0 ≤ l by omega)
  have E : Hid (valS (m : Int) c = Dk.rep m (fillB c)) := by unfold Hid valS; rw [if_neg (by omega)]; rfl
  generalize valS (m : Int) c = vv at E ⊢
  have d1 : decide ((m : Int) < 0) = false := by simp
  have d2 : decide (1000 < (m : Int)) = false := by simpa using hl2
  have d2' : decide (1000 < m) = false := by simp; omega
  have hmk : ∀ W : World, (Instr.makeSlice 51 (.int .i64 (m : Int)) (.int .i64 (m : Int))).run Try.prog W = .ok (.slice (some ⟨W.heap.size, 0, none⟩) m m) (W.alloc (.cells (madeCells #[.int .u8 0] m) 5)) := by
    intro W
    exact run_make_row' 51 5 (.int .u8 0) 1 Try.underlying51 infoB rfl .i64 .i64 m (by omega) (by omega) W
  obtain ⟨f, hf⟩ : ∃ f, f = fillB c := ⟨_, rfl⟩
  rw [← hf] at E
  have hfl := f.toNat_lt
  go_enter Try.func13, Try.ntmps13
  go_wp2_with fail
  have hown := own_part0 (w.alloc (.cells #[.int .i64 k, .int .i64 n, .int .i64 (m : Int), .string a, .string b, .string c] 30)) m (by unfold maxLen; omega)
  rw [← part_zero m f] at hown
  simp only [World.size_alloc] at hown
  have hbb := blk_alloc (blk_new w (.cells #[.int .i64 k, .int .i64 n, .int .i64 (m : Int), .string a, .string b, .string c] 30)) (.cells (madeCells #[.int .u8 0] m) 5)
  go_loopw [4, 18] (fun j j2 wr => ∃ i : Nat, i ≤ m ∧ j = .int .i64 i ∧ wr.ownsRow 0 5 1 (.slice (some ⟨w.heap.size + 1, 0, none⟩) m m) m (part i m f) ∧ wr.heap[w.heap.size]? = some (.cells #[.int .i64 k, .int .i64 n, .int .i64 (m : Int), .string a, .string b, .string c] 30 (0, 0)) ∧ Below w.heap.size w wr) (fun j _ _ => m - (intOf j).toNat)
  case atStart => exact ⟨0, Nat.zero_le _, rfl, hown, hbb, ((Below.refl _ w).alloc (Nat.le_refl _) _).alloc (by simp) _⟩
  case round =>
    obtain ⟨i, hi, rfl, ho, hb, hbel⟩ := hrel
    by_cases hlt : i < m
    · obtain ⟨v, hv⟩ := part_at i m i f (by omega) hlt
      have c5 := blk_cell hb 5
      simp at c5
      have ci := (ho.cellAt i (by omega)).trans hv
      have fi := ho.frozenAt (g := w.heap.size + 1) i
      have HO := Lib.hid ho
      have HB := Lib.hid hb
      have hil : (i : Int) < (m : Int) := by omega
      by_cases hp : 0 < c.size
      · have dp : decide (0 < (c.size : Int)) = true := by simp; omega
        have dp' : decide (0 < c.size) = true := by simpa using hp
        have hp2 : (0 : Int) < (c.size : Int) := by omega
        have hf0 : c[0] = f := by rw [hf]; unfold fillB; rw [dif_pos hp]
        have HF0 := Lib.hid hf0
        clear hv ho hb hown hbb hf
        go_wp2_with fail
        go_roundw
        case rel =>
          refine ⟨i + 1, by omega, by go_num, ?_, by rw [blk_set_ne (by simp), blk_set_ne (by simp)]; exact HB.out, (hbel.setCell (p := ⟨w.heap.size + 1, i, none⟩) (by simp) _).setCell (p := ⟨w.heap.size + 1, i, none⟩) (by simp) _⟩
          have st1 := (HO.out.stored i (.int .u8 118)).1
          have st := (st1.stored i (.int .u8 f.toNat)).1
          rw [List.set_set, part_set _ _ _ hlt] at st
          first | exact st | (rw [HF0.out]; exact st)
        case measure => simp [intOf]; omega
      · have dp : decide (0 < (c.size : Int)) = false := decide_eq_false (by omega)
        have dp' : decide (0 < c.size) = false := decide_eq_false hp
        have hf0 : Hid (f = 118) := by unfold Hid; rw [hf]; unfold fillB; rw [dif_neg hp]
        clear hv ho hb hown hbb hf
        go_wp2_with fail
        go_roundw
        case rel =>
          refine ⟨i + 1, by omega, by go_num, ?_, by rw [blk_set_ne (by simp)]; exact HB.out, hbel.setCell (p := ⟨w.heap.size + 1, i, none⟩) (by simp) _⟩
          have st := (HO.out.stored i (.int .u8 f.toNat)).1
          rw [part_set _ _ _ hlt] at st
          have e : f.toNat = 118 := by rw [hf0.out]; rfl
          rw [e] at st
          exact st
        case measure => simp [intOf]; omega
    · obtain rfl : i = m := by omega
      have hcv := conv_part wr i (w.heap.size + 1) i f ho
      have HF := Lib.hid hf
      clear ho hb hown hbb hf
      go_wp2
      go_ret
      exact ⟨by rw [E.out]; rfl, hbel⟩
end Go.Proofs.Ytoolkamajlgcbaa
