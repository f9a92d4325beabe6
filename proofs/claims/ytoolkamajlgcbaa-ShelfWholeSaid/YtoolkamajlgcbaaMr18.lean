/- ShL: the argument of ShelfNils laid open; light; stores that have no table; the walk of the law ShelfNils. -/
import Derived.Test.YtoolkamajlgcbaaMr17
import Derived.ProofKit
import Derived.OpenShut
import Derived.Deep.Slices
set_option linter.unusedVariables false
set_option linter.unusedSimpArgs false
namespace Go.Proofs.Ytoolkamajlgcbaa
open Go.RowKit Go.ChangeShapes Go.WideShapes Go.ChangeAt Go.Deep

structure SOp where
  kind : Int
  n : Int
  long : Int
  key : ByteArray
  til : ByteArray
  val : ByteArray
def SOp.cells (o : SOp) : List Value := [.int .i64 o.kind, .int .i64 o.n, .int .i64 o.long, .string o.key, .string o.til, .string o.val]
structure SOp.In (o : SOp) : Prop where
  n : o.n ≤ 9223372036854775807
  long : o.long ≤ 9223372036854775807
  key : o.key.size ≤ maxLen
  til : o.til.size ≤ maxLen
  val : o.val.size ≤ maxLen
section
variable {H : Type} {enc : TypeId × Value → H} {W : World} {base : Nat} {held : Bool}
set_option maxRecDepth 100000 in
theorem cells_sop {fuel : Nat} {cs : List Value} {x : DataW H × List MemPlace} (h : DataW.trod enc Try.prog W base (fun _ => true) held fuel 30 cs = some x) :
    ∃ o : SOp, cs = o.cells ∧ o.In := by
  obtain ⟨xs, n, _, _, hlen, hxs, hf⟩ := DataW.trod_struct Try.underlying30 h
  have c5 : Try.prog.cellsOf 30 = 6 := by kernel_rfl
  have ci : Try.prog.cellsOf 3 = 1 := by kernel_rfl
  have cs' : Try.prog.cellsOf 9 = 1 := by kernel_rfl
  rw [c5] at hlen
  match xs, hxs, cs, hlen with
  | [y0, y1, y2, y3, y4, y5], _, [a0, a1, a2, a3, a4, a5], _ =>
    have h0 : DataW.trod enc Try.prog W base (fun _ => true) held n 3 (([a0, a1, a2, a3, a4, a5].drop 0).take (Try.prog.cellsOf 3)) = some y0 := hf 0 _ rfl
    have h1 : DataW.trod enc Try.prog W base (fun _ => true) held n 3 (([a0, a1, a2, a3, a4, a5].drop 1).take (Try.prog.cellsOf 3)) = some y1 := hf 1 _ rfl
    have h2 : DataW.trod enc Try.prog W base (fun _ => true) held n 3 (([a0, a1, a2, a3, a4, a5].drop 2).take (Try.prog.cellsOf 3)) = some y2 := hf 2 _ rfl
    have h3 : DataW.trod enc Try.prog W base (fun _ => true) held n 9 (([a0, a1, a2, a3, a4, a5].drop 3).take (Try.prog.cellsOf 9)) = some y3 := hf 3 _ rfl
    have h4 : DataW.trod enc Try.prog W base (fun _ => true) held n 9 (([a0, a1, a2, a3, a4, a5].drop 4).take (Try.prog.cellsOf 9)) = some y4 := hf 4 _ rfl
    have h5 : DataW.trod enc Try.prog W base (fun _ => true) held n 9 (([a0, a1, a2, a3, a4, a5].drop 5).take (Try.prog.cellsOf 9)) = some y5 := hf 5 _ rfl
    rw [ci] at h0 h1 h2
    rw [cs'] at h3 h4 h5
    simp only [List.drop_zero, List.drop_succ_cons, List.take_succ_cons, List.take_zero] at h0 h1 h2 h3 h4 h5
    obtain ⟨p, e0, _, _⟩ := DataW.trod_int Try.underlying3 h0
    obtain ⟨q, e1, _, w1⟩ := DataW.trod_int Try.underlying3 h1
    obtain ⟨r, e2, _, w2⟩ := DataW.trod_int Try.underlying3 h2
    obtain ⟨s3, e3, _, b3⟩ := DataW.trod_string Try.underlying9 h3
    obtain ⟨s4, e4, _, b4⟩ := DataW.trod_string Try.underlying9 h4
    obtain ⟨s5, e5, _, b5⟩ := DataW.trod_string Try.underlying9 h5
    simp only [List.cons.injEq, and_true] at e0 e1 e2 e3 e4 e5
    subst e0 e1 e2 e3 e4 e5
    have b1 : q ≤ 9223372036854775807 := by simp [Lit.wf, IntKind.min, IntKind.max, IntKind.signed, IntKind.bits] at w1; omega
    have b2 : r ≤ 9223372036854775807 := by simp [Lit.wf, IntKind.min, IntKind.max, IntKind.signed, IntKind.bits] at w2; omega
    exact ⟨⟨p, q, r, s3, s4, s5⟩, rfl, b1, b2, b3, b4, b5⟩
set_option maxRecDepth 100000 in
theorem open_sop {v : Value} {d : DataW H} {ps : List MemPlace} {r : World} (hv : Value.okWide Try.prog r .any base 30 v) (h : DataW.Trod enc Try.prog W 0 (fun _ => true) held 30 v d ps) : ∃ o : SOp, v = .agg o.cells.toArray ∧ o.In := by
  simp only [Value.okWide, Try.underlying30] at hv
  obtain ⟨cs, rfl, _⟩ := hv
  obtain ⟨fuel, h⟩ := h
  obtain ⟨o, ho, hin⟩ := cells_sop h
  refine ⟨o, ?_, hin⟩
  simp only [Value.cells] at ho
  congr 1
  apply Array.ext'
  simpa using ho
end
set_option maxRecDepth 100000 in
theorem slight_any (w : World) (k n l : Int) (a b c : ByteArray) : Calls Try.prog 11 #[.agg #[.int .i64 k, .int .i64 n, .int .i64 l, .string a, .string b, .string c]] w fun e w' => (∃ q, e = .returned (.bool q)) ∧ Below w.heap.size w w' := by
  have b0 : Hid (∀ o, Below w.heap.size w (w.alloc o)) := fun o => (Below.refl _ w).alloc (Nat.le_refl _) o
  obtain ⟨s1, h1⟩ : ∃ s, IntKind.i64.wrap ((a.size : Int) + (b.size : Int)) = s := ⟨_, rfl⟩
  obtain ⟨s2, h2⟩ : ∃ s, IntKind.i64.wrap (s1 + (c.size : Int)) = s := ⟨_, rfl⟩
  go_enter Try.func11, Try.ntmps11
  go_wp2
  go_ret
  exact ⟨⟨_, rfl⟩, b0.out _⟩
set_option maxRecDepth 100000 in
theorem sopen_nil (w : World) : Calls Try.prog 22 #[.pointer none] w fun e w' => e = .returned (.tuple #[.pointer none, .int .i64 1]) ∧ w = w' := by
  go_enter Try.func22, Try.ntmps22
  go_wp2_with fail
  refine (pages_nil _).mono ?_
  rintro e w' ⟨rfl, rfl⟩
  go_wp2
  go_ret2
  exact ⟨rfl, rfl⟩
set_option maxRecDepth 100000 in
theorem sopen_one (w : World) (gj g : Nat) (hj : Jb w gj g 1) : Calls Try.prog 22 #[.pointer (some ⟨gj, 0, none⟩)] w fun e w' => e = .returned (.tuple #[.pointer none, .int .i64 1]) ∧ w = w' := by
  have PG := Lib.hid (pages_any w gj g 1 hj)
  go_enter Try.func22, Try.ntmps22
  go_wp2_with fail
  refine PG.out.mono ?_
  rintro e w' ⟨rfl, rfl⟩
  go_wp2
  go_ret2
  exact ⟨rfl, rfl⟩
set_option maxHeartbeats 3200000 in
set_option maxRecDepth 100000 in
theorem shelfNils_walk (w : World) (v : Value) (o : SOp) (hv : v = .agg o.cells.toArray ∧ o.In) :
    Calls Try.prog 7 #[v] w fun e w' => e = .returned (.bool true) ∧ Below w.heap.size w w' := by
  obtain ⟨rfl, _⟩ := hv
  obtain ⟨kd, n, lg, a, b, c⟩ := o
  simp only [SOp.cells]
  obtain ⟨W0, hW0⟩ : ∃ W0, W0 = w.alloc (.cells #[.int .i64 kd, .int .i64 n, .int .i64 lg, .string a, .string b, .string c] 30) := ⟨_, rfl⟩
  have Q0 : Hid (Below w.heap.size w W0) := by rw [hW0]; exact (Below.refl _ w).alloc (Nat.le_refl _) _
  have r0 : W0.heap[w.heap.size]? = some (.cells #[.int .i64 kd, .int .i64 n, .int .i64 lg, .string a, .string b, .string c] 30 (0, 0)) := by rw [hW0]; exact blk_new w _
  have KO : Hid (∀ W, Below W0.heap.size W0 W → W.cell? ⟨w.heap.size, 3, none⟩ = some (.string a) ∧ W.cell? ⟨w.heap.size, 4, none⟩ = some (.string b)) := fun W hW => by
    have rb := (hW.block _ (lt_of_block r0)).trans r0
    have c3 := blk_cell rb 3; have c4 := blk_cell rb 4
    simp at c3 c4
    exact ⟨c3, c4⟩
  have LG := Lib.hid (slight_any W0 kd n lg a b c)
  have NEW := fun W => Lib.hid (new_h W 9 (by decide) (by decide))
  have ST : Hid (Sto 1 (Dk.new 9)) := sto_new (by decide) (by decide) (by decide)
  have RD : Hid (run (Dk.new 9) (openK 1 (Dk.new 9) ((Dk.new 9).read 0).1) = (Dk.new 9, 0)) := by
    unfold Hid
    rw [read_new (i := 0) (by decide) (by decide), openK_zero]
    rfl
  have FW : Hid (Fw 600 (Dk.new 9)) := ⟨by simp [Dk.new], by simp [Dk.new]⟩
  rw [hW0] at LG
  clear r0
  go_enter Try.func7, Try.ntmps7
  go_wp2_with fail
  refine LG.out.mono ?_
  rw [← hW0]
  rintro e w1 ⟨⟨q, rfl⟩, q1⟩
  have Q1 := Lib.hid q1
  have B1 : Hid (Below w.heap.size w w1) := Q0.out.trans (q1.mono Q0.out.size)
  obtain ⟨c3, c4⟩ := KO.out w1 q1
  clear q1 LG hW0
  cases q with
  | false =>
    go_wp2_with fail
    refine (slives_any _).mono ?_
    rintro e w9 ⟨rfl, b9⟩
    have B9 : Hid (Below w.heap.size w w9) := B1.out.trans (b9.mono B1.out.size)
    clear b9
    go_wp2
    go_ret
    exact ⟨rfl, B9.out⟩
  | true =>
    go_wp2_with fail
    refine (get_nil _ _).mono ?_
    rintro e w2 ⟨rfl, q2⟩
    have B2 : Hid (Below w.heap.size w w2) := B1.out.trans (q2.mono B1.out.size)
    have Q2 : Hid (Below W0.heap.size W0 w2) := Q1.out.trans (q2.mono Q1.out.size)
    clear q2 c3 c4
    obtain ⟨c3, c4⟩ := KO.out w2 Q2.out
    have hse : (ByteArray.empty.toList != ({ data := #[] } : ByteArray).toList) = false := by rw [show ByteArray.empty = ({ data := #[] } : ByteArray) from rfl]; simp
    go_wp2_with fail
    refine (abort_nil _).mono ?_
    rintro e w' ⟨rfl, rfl⟩
    go_wp2_with fail
    refine (put_nil _ _ _).mono ?_
    rintro e w' ⟨rfl, rfl⟩
    go_wp2_with fail
    refine (drop_nil _ _).mono ?_
    rintro e w3 ⟨rfl, q3⟩
    have B3 : Hid (Below w.heap.size w w3) := B2.out.trans (q3.mono B2.out.size)
    have Q3 : Hid (Below W0.heap.size W0 w3) := Q2.out.trans (q3.mono Q2.out.size)
    clear q3 c3 c4
    obtain ⟨c3, c4⟩ := KO.out w3 Q3.out
    go_wp2_with fail
    refine (range_nil _ _ _ _).mono ?_
    rintro e w' ⟨rfl, rfl⟩
    go_wp2_with fail
    refine (len_nil _).mono ?_
    rintro e w' ⟨rfl, rfl⟩
    go_wp2_with fail
    refine (ssize_nil _).mono ?_
    rintro e w' ⟨rfl, rfl⟩
    go_wp2_with fail
    refine (scommit_nil _).mono ?_
    rintro e w' ⟨rfl, rfl⟩
    go_wp2_with fail
    refine (sopen_nil _).mono ?_
    rintro e w' ⟨rfl, rfl⟩
    clear c3 c4
    go_wp2_with fail
    refine (NEW _).out.mono ?_
    rintro e w4 ⟨g, F, rfl, hd, hF, q4⟩
    have B4 : Hid (Below w.heap.size w w4) := B3.out.trans (q4.mono B3.out.size)
    have OP := Lib.hid (open_any w4 F g 1 (Dk.new 9) hd ST.out (by decide) (by decide) FW.out)
    unfold OpenTo at OP
    rw [RD.out] at OP
    have HF : Hid (∀ k, F k → w.heap.size ≤ k) := fun k hk => Nat.le_trans B3.out.size (hF k hk)
    clear hd hF q4 NEW
    go_wp2_with fail
    refine OP.out.mono ?_
    rintro e w5 ⟨v5, F5, rfl, t5, hv5⟩
    rw [if_pos (by trivial)] at hv5
    obtain ⟨gj, rfl, hj, _, _⟩ := hv5
    have B5 : Hid (Below w.heap.size w w5) := B4.out.trans (t5.touch.below B4.out.size HF.out)
    have SO := Lib.hid (sopen_one w5 gj g hj)
    clear t5 hj OP
    go_wp2_with fail
    refine SO.out.mono ?_
    rintro e w' ⟨rfl, rfl⟩
    go_wp2_with fail
    refine (slives_any _).mono ?_
    rintro e w9 ⟨rfl, b9⟩
    have B9 : Hid (Below w.heap.size w w9) := B5.out.trans (b9.mono B5.out.size)
    clear b9
    go_wp2
    go_ret
    exact ⟨rfl, B9.out⟩
end Go.Proofs.Ytoolkamajlgcbaa
/- ShW: the law's value and light, the document's May. -/
set_option linter.unusedVariables false
set_option linter.unusedSimpArgs false
namespace Go.Proofs.Ytoolkamajlgcbaa
open Go.RowKit

def part (k n : Nat) (f : UInt8) : List Value := (List.replicate k (Value.int .u8 f.toNat)) ++ List.replicate (n - k) (Value.int .u8 0)
theorem part_length (k n : Nat) (f : UInt8) (h : k ≤ n) : (part k n f).length = n := by simp [part]; omega
theorem part_set (k n : Nat) (f : UInt8) (h : k < n) : (part k n f).set k (.int .u8 f.toNat) = part (k + 1) n f := by
  apply List.ext_getElem
  · simp [part_length, part_length _ _ f (Nat.le_of_lt h), part_length (k + 1) n f h]
  · intro i h1 h2
    simp only [part, List.getElem_set, List.getElem_append, List.getElem_replicate, List.length_replicate]
    by_cases e : k = i
    · subst e; simp
    · rw [if_neg e]
      by_cases e2 : i < k
      · simp [e2, show i < k + 1 by omega]
      · simp [e2, show ¬ i < k + 1 by omega]
theorem part_at (k n i : Nat) (f : UInt8) (h : k ≤ n) (hi : i < n) : ∃ v, (part k n f)[i]? = some v := by
  rw [List.getElem?_eq_getElem (by rw [part_length _ _ _ h]; exact hi)]; exact ⟨_, rfl⟩
theorem strOfNums_rep (n : Nat) (f : UInt8) : strOfNums (List.replicate n (f.toNat : Int)) = Dk.rep n f := by
  simp [strOfNums, Dk.rep]
theorem conv_part (W : World) (n b c : Nat) (f : UInt8) (ho : W.ownsRow 0 5 1 (.slice (some ⟨b, 0, none⟩) n c) n (part n n f)) :
    (convert 51 9 (.slice (some ⟨b, 0, none⟩) n c)).run Try.prog W = .ok (.string (Dk.rep n f)) W := by
  rw [← strOfNums_rep]
  refine run_convert_bytes_arg _ _ _ Try.underlying51 Try.underlying5 _ 0 n c _ (by simp) (fun i hi => ?_) _ Try.underlying9
  rw [Nat.zero_add, ho.cellAt i (by omega)]
  simp [part, hi, List.getD_eq_getElem?_getD]
theorem own_part0 (W : World) (n : Nat) (hn : n ≤ maxLen) : (W.alloc (.cells (madeCells #[.int .u8 0] n) 5)).ownsRow 0 5 1 (.slice (some ⟨W.heap.size, 0, none⟩) n n) n (part 0 n 0) := by
  have h := World.ownsRow_lit (base := 0) (e := 5) (size := 1) W (madeCells #[.int .u8 0] n) n (Nat.zero_le _) hn (by simp [size_madeCells])
  rw [toList_madeCells_one] at h
  simpa [part] using h
theorem part_zero (n : Nat) (f : UInt8) : part 0 n f = part 0 n 0 := by simp [part]
/-- The byte that a value is filled with. -/
def fillB (v : ByteArray) : UInt8 := if h : 0 < v.size then v[0] else 118
/-- What an Op gives. -/
def valS (l : Int) (v : ByteArray) : ByteArray := if l < 0 ∨ 1000 < l then v else Dk.rep l.toNat (fillB v)
abbrev opCells (kd n lg : Int) (a b c : ByteArray) : Obj := .cells #[.int .i64 kd, .int .i64 n, .int .i64 lg, .string a, .string b, .string c] 30
/-- May a key have a value? -/
def mayB (a b : ByteArray) : Bool := decide (1 ≤ a.size) && decide (a.size ≤ 64) && decide (b.size ≤ 400)
theorem mayB_iff {a b : ByteArray} : mayB a b = true ↔ EntOK (a, b) := by
  unfold mayB EntOK
  simp only [Bool.and_eq_true, decide_eq_true_eq]
  exact ⟨fun ⟨⟨h1, h2⟩, h3⟩ => ⟨h1, h2, h3⟩, fun ⟨h1, h2, h3⟩ => ⟨⟨h1, h2⟩, h3⟩⟩
set_option maxRecDepth 100000 in
theorem rmay_any (w : World) (a b : ByteArray) : Calls Try.prog 14 #[.string a, .string b] w fun e w' => e = .returned (.bool (mayB a b)) ∧ w = w' := by
  by_cases h1 : 1 ≤ a.size
  · have d1 : decide (1 ≤ (a.size : Int)) = true := by simp; omega
    have d1' : decide (1 ≤ a.size) = true := by simpa using h1
    by_cases h2 : a.size ≤ 64
    · have d2 : decide ((a.size : Int) ≤ 64) = true := by simp; omega
      have d2' : decide (a.size ≤ 64) = true := by simpa using h2
      by_cases h3 : b.size ≤ 400
      · have d3 : decide ((b.size : Int) ≤ 400) = true := by simp; omega
        have d3' : decide (b.size ≤ 400) = true := by simpa using h3
        have E : Hid (mayB a b = true) := mayB_iff.2 ⟨h1, h2, h3⟩
        go_enter Try.func14, Try.ntmps14
        go_wp2
        go_ret
        exact ⟨by rw [E.out]; rfl, rfl⟩
      · have d3 : decide ((b.size : Int) ≤ 400) = false := by simp; omega
        have d3' : decide (b.size ≤ 400) = false := by simpa using h3
        have E : Hid (mayB a b = false) := by unfold Hid; rw [Bool.eq_false_iff, ne_eq, mayB_iff]; exact fun h => h3 h.2.2
        go_enter Try.func14, Try.ntmps14
        go_wp2
        go_ret
        exact ⟨by rw [E.out]; rfl, rfl⟩
    · have d2 : decide ((a.size : Int) ≤ 64) = false := by simp; omega
      have d2' : decide (a.size ≤ 64) = false := by simpa using h2
      have E : Hid (mayB a b = false) := by unfold Hid; rw [Bool.eq_false_iff, ne_eq, mayB_iff]; exact fun h => h2 h.2.1
      go_enter Try.func14, Try.ntmps14
      go_wp2
      go_ret
      exact ⟨by rw [E.out]; rfl, rfl⟩
  · have d1 : decide (1 ≤ (a.size : Int)) = false := by simp; omega
    have d1' : decide (1 ≤ a.size) = false := by simpa using h1
    have E : Hid (mayB a b = false) := by unfold Hid; rw [Bool.eq_false_iff, ne_eq, mayB_iff]; exact fun h => h1 h.1
    go_enter Try.func14, Try.ntmps14
    go_wp2
    go_ret
    exact ⟨by rw [E.out]; rfl, rfl⟩
set_option maxHeartbeats 1600000 in
set_option maxRecDepth 300000 in
theorem value_any (w : World) (k n l : Int) (a b c : ByteArray) (hc : c.size ≤ maxLen) : Calls Try.prog 13 #[.agg #[.int .i64 k, .int .i64 n, .int .i64 l, .string a, .string b, .string c]] w fun e w' => e = .returned (.string (valS l c)) ∧ Below w.heap.size w w' := by
  have b0 : Hid (∀ o, Below w.heap.size w (w.alloc o)) := fun o => (Below.refl _ w).alloc (Nat.le_refl _) o
  unfold maxLen at hc
  by_cases hl1 : l < 0
  · have d1 : decide (l < 0) = true := by simpa using hl1
    have E : Hid (valS l c = c) := by unfold Hid valS; rw [if_pos (.inl hl1)]
    generalize valS l c = vv at E ⊢
    go_enter Try.func13, Try.ntmps13
    go_wp2
    go_ret
    exact ⟨by rw [E.out]; rfl, b0.out _⟩
  by_cases hl2 : 1000 < l
  · have d1 : decide (l < 0) = false := by simpa using hl1
    have d2 : decide (1000 < l) = true := by simpa using hl2
    have E : Hid (valS l c = c) := by unfold Hid valS; rw [if_pos (.inr hl2)]
    generalize valS l c = vv at E ⊢
    go_enter Try.func13, Try.ntmps13
    go_wp2
    go_ret
    exact ⟨by rw [E.out]; rfl, b0.out _⟩
  obtain ⟨m, rfl⟩ := Int.eq_ofNat_of_zero_le (show 0 ≤ l by omega)
  have E : Hid (valS (m : Int) c = Dk.rep m (fillB c)) := by unfold Hid valS; rw [if_neg (by omega)]; rfl
  generalize valS (m : Int) c = vv at E ⊢
  have d1 : decide ((m : Int) < 0) = false := by simp
  have d2 : decide (1000 < (m : Int)) = false := by simpa using hl2
  have d2' : decide (1000 < m) = false := by simp; omega
  have hmk : ∀ W : World, (Instr.makeSlice 51 (.int .i64 (m : Int)) (.int .i64 (m : Int))).run Try.prog W = .ok (.slice (some ⟨W.heap.size, 0, none⟩) m m) (W.alloc (.cells (madeCells #[.int .u8 0] m) 5)) := by
    intro W
    exact run_make_row' 51 5 (.int .u8 0) 1 Try.underlying51 infoB rfl .i64 .i64 m (by omega) (by omega) W
  obtain ⟨f, hf⟩ : ∃ f, f = fillB c := ⟨_, rfl⟩
  rw [← hf] at E
  have hfl := f.toNat_lt
  go_enter Try.func13, Try.ntmps13
  go_wp2_with fail
  have hown := own_part0 (w.alloc (.cells #[.int .i64 k, .int .i64 n, .int .i64 (m : Int), .string a, .string b, .string c] 30)) m (by unfold maxLen; omega)
  rw [← part_zero m f] at hown
  simp only [World.size_alloc] at hown
  have hbb := blk_alloc (blk_new w (.cells #[.int .i64 k, .int .i64 n, .int .i64 (m : Int), .string a, .string b, .string c] 30)) (.cells (madeCells #[.int .u8 0] m) 5)
  go_loopw [4, 18] (fun j j2 wr => ∃ i : Nat, i ≤ m ∧ j = .int .i64 i ∧ wr.ownsRow 0 5 1 (.slice (some ⟨w.heap.size + 1, 0, none⟩) m m) m (part i m f) ∧ wr.heap[w.heap.size]? = some (.cells #[.int .i64 k, .int .i64 n, .int .i64 (m : Int), .string a, .string b, .string c] 30 (0, 0)) ∧ Below w.heap.size w wr) (fun j _ _ => m - (intOf j).toNat)
  case atStart => exact ⟨0, Nat.zero_le _, rfl, hown, hbb, ((Below.refl _ w).alloc (Nat.le_refl _) _).alloc (by simp) _⟩
  case round =>
    obtain ⟨i, hi, rfl, ho, hb, hbel⟩ := hrel
    by_cases hlt : i < m
    · obtain ⟨v, hv⟩ := part_at i m i f (by omega) hlt
      have c5 := blk_cell hb 5
      simp at c5
      have ci := (ho.cellAt i (by omega)).trans hv
      have fi := ho.frozenAt (g := w.heap.size + 1) i
      have HO := Lib.hid ho
      have HB := Lib.hid hb
      have hil : (i : Int) < (m : Int) := by omega
      by_cases hp : 0 < c.size
      · have dp : decide (0 < (c.size : Int)) = true := by simp; omega
        have dp' : decide (0 < c.size) = true := by simpa using hp
        have hp2 : (0 : Int) < (c.size : Int) := by omega
        have hf0 : c[0] = f := by rw [hf]; unfold fillB; rw [dif_pos hp]
        have HF0 := Lib.hid hf0
        clear hv ho hb hown hbb hf
        go_wp2_with fail
        go_roundw
        case rel =>
          refine ⟨i + 1, by omega, by go_num, ?_, by rw [blk_set_ne (by simp), blk_set_ne (by simp)]; exact HB.out, (hbel.setCell (p := ⟨w.heap.size + 1, i, none⟩) (by simp) _).setCell (p := ⟨w.heap.size + 1, i, none⟩) (by simp) _⟩
          have st1 := (HO.out.stored i (.int .u8 118)).1
          have st := (st1.stored i (.int .u8 f.toNat)).1
          rw [List.set_set, part_set _ _ _ hlt] at st
          first | exact st | (rw [HF0.out]; exact st)
        case measure => simp [intOf]; omega
      · have dp : decide (0 < (c.size : Int)) = false := decide_eq_false (by omega)
        have dp' : decide (0 < c.size) = false := decide_eq_false hp
        have hf0 : Hid (f = 118) := by unfold Hid; rw [hf]; unfold fillB; rw [dif_neg hp]
        clear hv ho hb hown hbb hf
        go_wp2_with fail
        go_roundw
        case rel =>
          refine ⟨i + 1, by omega, by go_num, ?_, by rw [blk_set_ne (by simp)]; exact HB.out, hbel.setCell (p := ⟨w.heap.size + 1, i, none⟩) (by simp) _⟩
          have st := (HO.out.stored i (.int .u8 f.toNat)).1
          rw [part_set _ _ _ hlt] at st
          have e : f.toNat = 118 := by rw [hf0.out]; rfl
          rw [e] at st
          exact st
        case measure => simp [intOf]; omega
    · obtain rfl : i = m := by omega
      have hcv := conv_part wr i (w.heap.size + 1) i f ho
      have HF := Lib.hid hf
      clear ho hb hown hbb hf
      go_wp2
      go_ret
      exact ⟨by rw [E.out]; rfl, hbel⟩
end Go.Proofs.Ytoolkamajlgcbaa
/- ShX: a shelf amid a law: what each of its functions does to it. -/
set_option linter.unusedVariables false
set_option linter.unusedSimpArgs false
namespace Go.Proofs.Ytoolkamajlgcbaa
open Go.RowKit

structure Stt (w : World) (lo base gs gj g P : Nat) (L : List Lf) : Prop where
  sho : ∃ v, ShO w base gs gj v L
  jb : Jb w gj g P
  lob : lo ≤ base
  log : lo ≤ gs
  bs : base ≤ w.heap.size
  jlt : gj < base
  good : GoodS (shP L)
  two : Two (zs (shP L)) (-9) (-9)
theorem good_of {L : List Lf} (h : GoodS (shP L)) : Good L := fun x hx => by
  have := h (x.id, x.l) (List.mem_map.2 ⟨x, hx, rfl⟩)
  exact ⟨this.1, this.2.1⟩
theorem box_ne {w : World} {base gs gj g P : Nat} {v : Value} {L : List Lf} (h : ShO w base gs gj v L) (hj : Jb w gj g P) : gj ≠ gs := fun e => by
  subst e
  have h1 := h.box
  unfold ShB at h1
  unfold Jb at hj
  rw [h1] at hj
  simp at hj
theorem ShO.own_ge {w : World} {base gs gj : Nat} {v : Value} {L : List Lf} (h : ShO w base gs gj v L) {k : Nat} (hk : v.ownBlock = some k) : base ≤ k := by
  rcases h.row with ⟨rfl, _⟩ | ⟨g, cap, cur, rfl, hb, _⟩
  · cases hk
  · cases hk; exact hb
theorem Stt.below {w w' : World} {lo base gs gj g P : Nat} {L : List Lf} (h : Stt w lo base gs gj g P L) (hb : Below w.heap.size w w') : Stt w' lo base gs gj g P L :=
  ⟨let ⟨v, hv⟩ := h.sho; ⟨v, hv.below hb⟩, h.jb.below hb, h.lob, h.log, Nat.le_trans h.bs hb.size, h.jlt, h.good, h.two⟩
theorem Stt.read {w : World} {lo base gs gj g P : Nat} {L : List Lf} (h : Stt w lo base gs gj g P L) : ShRd w gs (shP L) := let ⟨_, hv⟩ := h.sho; hv.read
theorem shP_leaf {L : List Lf} (h : GoodS (shP L)) (i : Nat) : szL (lfA (shP L) i) ≤ 1020 ∧ (lfA (shP L) i).length ≤ 340 := by
  by_cases hi : i < (shP L).length
  · have h1 := (h _ (lf_mem hi)).1
    have h2 := (szL_len (lfA (shP L) i)).1
    have h1 : szL (lfA (shP L) i) ≤ 1020 := h1
    exact ⟨h1, by omega⟩
  · rw [lfA_out (by omega)]
    exact ⟨by decide, by decide⟩
theorem good_full {L : List Lf} (h : GoodS (shP L)) : Full (shP L) := fun i hi => (h _ (lf_mem hi)).2.1
theorem good_small {L : List Lf} (h : GoodS (shP L)) (i : Nat) : Small (lfA (shP L) i) := small_of (shP_leaf h i).1
theorem zs_le {sh : List (Nat × PL)} (h : GoodS sh) : (zs sh).sum ≤ 1020 * sh.length := by
  induction sh with
  | nil => simp [zs]
  | cons x r ih =>
    have h1 := (h x (List.mem_cons_self ..)).1
    have h2 := ih (fun y hy => h y (List.mem_cons_of_mem _ hy))
    show szL x.2 + (zs r).sum ≤ 1020 * (r.length + 1)
    omega
theorem putA_len (sh : List (Nat × PL)) (P : Nat) (a x : ByteArray) : (putA sh P a x).2.length ≤ sh.length + 1 := by
  unfold putA
  split
  · simp
  · split
    · refine Nat.le_trans (stepsT_len _ _ _) ?_
      unfold setL
      rw [List.length_set]
      omega
    · split
      · show sh.length ≤ _; omega
      · refine Nat.le_trans (stepsT_len _ _ _) (Nat.le_trans (stepsT_len _ _ _) ?_)
        rename_i h0 _ _
        have hp : 0 < sh.length := by
          rcases Nat.eq_zero_or_pos sh.length with h | h
          · exact absurd (List.eq_nil_of_length_eq_zero h) h0
          · exact h
        have := fI_lt (sh := sh) (key := a) hp
        unfold splitL
        simp only [List.length_append, List.length_take, List.length_drop, List.length_cons, List.length_nil]
        omega
theorem dropA_len (sh : List (Nat × PL)) (a : ByteArray) : (dropA sh a).2.length ≤ sh.length := by
  unfold dropA
  split
  · refine Nat.le_trans (stepsT_len _ _ _) ?_
    split
    · simp only [List.length_append, List.length_take, List.length_drop]; omega
    · unfold setL; rw [List.length_set]; exact Nat.le_refl _
  · exact Nat.le_refl _
theorem stt_put {w : World} {lo base gs gj g P : Nat} {L : List Lf} (h : Stt w lo base gs gj g P L) (hP : 2 ≤ P) (hP2 : P ≤ 1000) (hL : L.length ≤ 50000) {a x : ByteArray} (ha : EntOK (a, x)) :
    Calls Try.prog 17 #[.pointer (some ⟨gs, 0, none⟩), .string a, .string x] w fun e w' => e = .returned (.int .i64 ((putA (shP L) P a x).1 : Nat)) ∧ ∃ L', Stt w' lo base gs gj g P L' ∧ shP L' = (putA (shP L) P a x).2 ∧ Below lo w w' := by
  obtain ⟨v, hv⟩ := h.sho
  obtain ⟨k1, k2, k3⟩ := ha
  have fin : ∀ (w' : World) (v' : Value) (L' : List Lf), ShO w' base gs gj v' L' → shP L' = (putA (shP L) P a x).2 → Touch (fun k => k = gs ∨ v.ownBlock = some k) w w' → ∃ L', Stt w' lo base gs gj g P L' ∧ shP L' = (putA (shP L) P a x).2 ∧ Below lo w w' := fun w' v' L' h1 h2 ht => by
    have pi := put_inv h.good h.two hP hP2 (show EntOK (a, x) from ⟨k1, k2, k3⟩)
    rw [← h2] at pi
    exact ⟨L', ⟨⟨v', h1⟩, h.jb.touch ht (fun e => by
      rcases e with e | e
      · exact box_ne hv h.jb e
      · have := hv.own_ge e; have := h.jlt; omega), h.lob, h.log, Nat.le_trans h.bs ht.size, h.jlt, pi.1, pi.2.1⟩, h2, ht.below (Nat.le_trans h.lob h.bs) (fun k e => by
      rcases e with e | e
      · rw [e]; exact h.log
      · exact Nat.le_trans h.lob (hv.own_ge e))⟩
  rcases Nat.eq_zero_or_pos L.length with h0 | h0
  · have e0 := List.eq_nil_of_length_eq_zero h0
    subst e0
    refine (put_zero w base gs gj v hv h.bs a x k1 k2 k3).mono ?_
    rintro e w' ⟨rfl, v', L', h1, h2, h3, _⟩
    have e1 : putA (shP []) P a x = (0, [(1, [(a, x)])]) := by unfold putA; rw [if_pos (show shP [] = [] from rfl)]
    exact ⟨by rw [e1]; rfl, fin w' v' L' h1 (by rw [h2, e1]) h3⟩
  · refine (put_any w base gs gj g P v L hv h.jb hP2 (good_of h.good) (fun y hy p hp => EntOK.sz ((h.good (y.id, y.l) (List.mem_map.2 ⟨y, hy, rfl⟩)).2.2.1 p hp)) h0 hL (fun y hy => by
      have := (h.good (y.id, y.l) (List.mem_map.2 ⟨y, hy, rfl⟩)).2.2.2
      have this : y.id ≤ 1000 := this
      omega) h.bs a x k1 k2 k3).mono ?_
    rintro e w' ⟨rfl, v', L', h1, h2, h3, _⟩
    exact ⟨rfl, fin w' v' L' h1 h2 h3⟩
theorem stt_drop {w : World} {lo base gs gj g P : Nat} {L : List Lf} (h : Stt w lo base gs gj g P L) (hL : L.length ≤ 50000) (a : ByteArray) :
    Calls Try.prog 12 #[.pointer (some ⟨gs, 0, none⟩), .string a] w fun e w' => e = .returned (.bool (dropA (shP L) a).1) ∧ ∃ L', Stt w' lo base gs gj g P L' ∧ shP L' = (dropA (shP L) a).2 ∧ Below lo w w' := by
  obtain ⟨v, hv⟩ := h.sho
  refine (drop_any w base gs gj v L hv (good_of h.good) hL h.bs a).mono ?_
  rintro e w' ⟨rfl, v', L', h1, h2, _, ht, _⟩
  have pi := drop_inv (a := a) h.good h.two
  rw [← h2] at pi
  exact ⟨rfl, L', ⟨⟨v', h1⟩, h.jb.touch ht (fun e => by
    rcases e with e | e
    · exact box_ne hv h.jb e
    · have := hv.own_ge e; have := h.jlt; omega), h.lob, h.log, Nat.le_trans h.bs ht.size, h.jlt, pi.1, pi.2.1⟩, h2, ht.below (Nat.le_trans h.lob h.bs) (fun k e => by
    rcases e with e | e
    · rw [e]; exact h.log
    · exact Nat.le_trans h.lob (hv.own_ge e))⟩
theorem stt_get {w : World} {lo base gs gj g P : Nat} {L : List Lf} (h : Stt w lo base gs gj g P L) (hL : L.length ≤ 50000) (a : ByteArray) :
    Calls Try.prog 15 #[.pointer (some ⟨gs, 0, none⟩), .string a] w fun e w' => e = .returned (.tuple #[.string ((getK (shP L) a).getD ByteArray.empty), .bool (getK (shP L) a).isSome]) ∧ Below w.heap.size w w' :=
  get_any w gs (shP L) h.read (good_full h.good) (by rw [shP_len]; omega) (fun i => by have := (shP_leaf h.good i).2; omega) a
theorem stt_size {w : World} {lo base gs gj g P : Nat} {L : List Lf} (h : Stt w lo base gs gj g P L) (hL : L.length ≤ 50000) :
    Calls Try.prog 16 #[.pointer (some ⟨gs, 0, none⟩)] w fun e w' => e = .returned (.int .i64 ((zs (shP L)).sum : Nat)) ∧ Below w.heap.size w w' := by
  have hz := zs_le h.good
  rw [shP_len] at hz
  rw [← zs_sizS]
  exact ssize_any w gs (shP L) h.read (by rw [shP_len]; omega) (fun i _ => good_small h.good i) (by rw [zs_sizS]; omega)
theorem stt_range {w : World} {lo base gs gj g P : Nat} {L : List Lf} (h : Stt w lo base gs gj g P L) (hL : L.length ≤ 50000) (frm til : ByteArray) (most : Int) :
    Calls Try.prog 19 #[.pointer (some ⟨gs, 0, none⟩), .string frm, .string til, .int .i64 most] w fun e w' => ∃ v, e = .returned v ∧ w'.ownsRow w.heap.size 47 2 v (rngR (shP L) frm til most).length (prv (rngR (shP L) frm til most)) ∧ Below w.heap.size w w' := by
  refine range_any w gs (shP L) h.read (good_full h.good) (by rw [shP_len]; omega) (fun i => by have := (shP_leaf h.good i).2; omega) (fun i k => ?_) frm til most
  have fl : ∀ (l : List (Nat × PL)), (∀ y ∈ l, y.2.length ≤ 340) → (l.flatMap (·.2)).length ≤ 340 * l.length := by
    intro l
    induction l with
    | nil => intro _; simp
    | cons y r ih =>
      intro hl
      have h1 := hl y (List.mem_cons_self ..)
      have h2 := ih (fun z hz => hl z (List.mem_cons_of_mem _ hz))
      rw [List.flatMap_cons, List.length_append, List.length_cons]
      omega
  have h1 := fl ((shP L).drop (i + 1)) (fun y hy => by
    have := (szL_len y.2).1
    have := (h.good y (List.mem_of_mem_drop hy)).1
    omega)
  have h2 := (shP_leaf h.good i).2
  unfold tailS
  rw [List.length_append, List.length_drop]
  rw [List.length_drop, shP_len] at h1
  omega
theorem stt_new {w : World} {lo gs gj g P : Nat} (hb : ShB w gs gj (.slice none 0 0)) (hj : Jb w gj g P) (h1 : lo ≤ gs) (h2 : lo ≤ w.heap.size) : Stt w lo w.heap.size gs gj g P [] :=
  ⟨⟨_, ⟨hb, .inl ⟨rfl, rfl⟩, fun x hx => by cases hx⟩⟩, hj, h2, h1, Nat.le_refl _, lt_of_block hj, (fun x hx => by cases hx), (fun k hk => by simp [zs, shP] at hk)⟩
end Go.Proofs.Ytoolkamajlgcbaa
