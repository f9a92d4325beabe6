/- ShL: the argument of ShelfNils laid open; light; stores that have no table; the walk of the law ShelfNils. -/
import Derived.Test.YtoolkamajlgcbaaShK
import Derived.ProofKit
import Derived.OpenShut
import Derived.Deep.Slices
set_option linter.unusedVariables false
set_option linter.unusedSimpArgs false
namespace Go.Proofs.Ytoolkamajlgcbaa
open Go.RowKit Go.ChangeShapes Go.WideShapes Go.ChangeAt Go.Deep

structure SOp where
  kind : Int
  n : Int
  long : Int
  key : ByteArray
  to : ByteArray
  val : ByteArray
def SOp.cells (o : SOp) : List Value := [.int .i64 o.kind, .int .i64 o.n, .int .i64 o.long, .string o.key, .string o.to, .string o.val]
structure SOp.In (o : SOp) : Prop where
  n : o.n ≤ 9223372036854775807
  long : o.long ≤ 9223372036854775807
  key : o.key.size ≤ maxLen
  to : o.to.size ≤ maxLen
  val : o.val.size ≤ maxLen
section
variable {H : Type} {enc : TypeId × Value → H} {W : World} {base : Nat} {held : Bool}
set_option maxRecDepth 100000 in
theorem cells_sop {fuel : Nat} {cs : List Value} {x : DataW H × List MemPlace} (h : DataW.trod enc Try.prog W base (fun _ => true) held fuel 30 cs = some x) :
    ∃ o : SOp, cs = o.cells ∧ o.In := by
  obtain ⟨xs, n, _, _, hlen, hxs, hf⟩ := DataW.trod_struct Try.underlying30 h
  have c5 : Try.prog.cellsOf 30 = 6 := by kernel_rfl
  have ci : Try.prog.cellsOf 3 = 1 := by kernel_rfl
  have cs' : Try.prog.cellsOf 9 = 1 := by kernel_rfl
  rw [c5] at hlen
  match xs, hxs, cs, hlen with
  | [y0, y1, y2, y3, y4, y5], _, [a0, a1, a2, a3, a4, a5], _ =>
    have h0 : DataW.trod enc Try.prog W base (fun _ => true) held n 3 (([a0, a1, a2, a3, a4, a5].drop 0).take (Try.prog.cellsOf 3)) = some y0 := hf 0 _ rfl
    have h1 : DataW.trod enc Try.prog W base (fun _ => true) held n 3 (([a0, a1, a2, a3, a4, a5].drop 1).take (Try.prog.cellsOf 3)) = some y1 := hf 1 _ rfl
    have h2 : DataW.trod enc Try.prog W base (fun _ => true) held n 3 (([a0, a1, a2, a3, a4, a5].drop 2).take (Try.prog.cellsOf 3)) = some y2 := hf 2 _ rfl
    have h3 : DataW.trod enc Try.prog W base (fun _ => true) held n 9 (([a0, a1, a2, a3, a4, a5].drop 3).take (Try.prog.cellsOf 9)) = some y3 := hf 3 _ rfl
    have h4 : DataW.trod enc Try.prog W base (fun _ => true) held n 9 (([a0, a1, a2, a3, a4, a5].drop 4).take (Try.prog.cellsOf 9)) = some y4 := hf 4 _ rfl
    have h5 : DataW.trod enc Try.prog W base (fun _ => true) held n 9 (([a0, a1, a2, a3, a4, a5].drop 5).take (Try.prog.cellsOf 9)) = some y5 := hf 5 _ rfl
    rw [ci] at h0 h1 h2
    rw [cs'] at h3 h4 h5
    simp only [List.drop_zero, List.drop_succ_cons, List.take_succ_cons, List.take_zero] at h0 h1 h2 h3 h4 h5
    obtain ⟨p, e0, _, _⟩ := DataW.trod_int Try.underlying3 h0
    obtain ⟨q, e1, _, w1⟩ := DataW.trod_int Try.underlying3 h1
    obtain ⟨r, e2, _, w2⟩ := DataW.trod_int Try.underlying3 h2
    obtain ⟨s3, e3, _, b3⟩ := DataW.trod_string Try.underlying9 h3
    obtain ⟨s4, e4, _, b4⟩ := DataW.trod_string Try.underlying9 h4
    obtain ⟨s5, e5, _, b5⟩ := DataW.trod_string Try.underlying9 h5
    simp only [List.cons.injEq, and_true] at e0 e1 e2 e3 e4 e5
    subst e0 e1 e2 e3 e4 e5
    have b1 : q ≤ 9223372036854775807 := by simp [Lit.wf, IntKind.min, IntKind.max, IntKind.signed, IntKind.bits] at w1; omega
    have b2 : r ≤ 9223372036854775807 := by simp [Lit.wf, IntKind.min, IntKind.max, IntKind.signed, IntKind.bits] at w2; omega
    exact ⟨⟨p, q, r, s3, s4, s5⟩, rfl, b1, b2, b3, b4, b5⟩
set_option maxRecDepth 100000 in
theorem open_sop {v : Value} {d : DataW H} {ps : List MemPlace} {r : World} (hv : Value.okWide Try.prog r .any base 30 v) (h : DataW.Trod enc Try.prog W 0 (fun _ => true) held 30 v d ps) : ∃ o : SOp, v = .agg o.cells.toArray ∧ o.In := by
  simp only [Value.okWide, Try.underlying30] at hv
  obtain ⟨cs, rfl, _⟩ := hv
  obtain ⟨fuel, h⟩ := h
  obtain ⟨o, ho, hin⟩ := cells_sop h
  refine ⟨o, ?_, hin⟩
  simp only [Value.cells] at ho
  congr 1
  apply Array.ext'
  simpa using ho
end
set_option maxRecDepth 100000 in
theorem slight_any (w : World) (k n l : Int) (a b c : ByteArray) : Calls Try.prog 11 #[.agg #[.int .i64 k, .int .i64 n, .int .i64 l, .string a, .string b, .string c]] w fun e w' => (∃ q, e = .returned (.bool q)) ∧ Below w.heap.size w w' := by
  have b0 : Hid (∀ o, Below w.heap.size w (w.alloc o)) := fun o => (Below.refl _ w).alloc (Nat.le_refl _) o
  obtain ⟨s1, h1⟩ : ∃ s, IntKind.i64.wrap ((a.size : Int) + (b.size : Int)) = s := ⟨_, rfl⟩
  obtain ⟨s2, h2⟩ : ∃ s, IntKind.i64.wrap (s1 + (c.size : Int)) = s := ⟨_, rfl⟩
  go_enter Try.func11, Try.ntmps11
  go_wp2
  go_ret
  exact ⟨⟨_, rfl⟩, b0.out _⟩
set_option maxRecDepth 100000 in
theorem sopen_nil (w : World) : Calls Try.prog 22 #[.pointer none] w fun e w' => e = .returned (.tuple #[.pointer none, .int .i64 1]) ∧ w = w' := by
  go_enter Try.func22, Try.ntmps22
  go_wp2_with fail
  refine (pages_nil _).mono ?_
  rintro e w' ⟨rfl, rfl⟩
  go_wp2
  go_ret2
  exact ⟨rfl, rfl⟩
set_option maxRecDepth 100000 in
theorem sopen_one (w : World) (gj g : Nat) (hj : Jb w gj g 1) : Calls Try.prog 22 #[.pointer (some ⟨gj, 0, none⟩)] w fun e w' => e = .returned (.tuple #[.pointer none, .int .i64 1]) ∧ w = w' := by
  have PG := Lib.hid (pages_any w gj g 1 hj)
  go_enter Try.func22, Try.ntmps22
  go_wp2_with fail
  refine PG.out.mono ?_
  rintro e w' ⟨rfl, rfl⟩
  go_wp2
  go_ret2
  exact ⟨rfl, rfl⟩
set_option maxHeartbeats 3200000 in
set_option maxRecDepth 100000 in
theorem shelfNils_walk (w : World) (v : Value) (o : SOp) (hv : v = .agg o.cells.toArray ∧ o.In) :
    Calls Try.prog 7 #[v] w fun e w' => e = .returned (.bool true) ∧ Below w.heap.size w w' := by
  obtain ⟨rfl, _⟩ := hv
  obtain ⟨kd, n, lg, a, b, c⟩ := o
  simp only [SOp.cells]
  obtain ⟨W0, hW0⟩ : ∃ W0, W0 = w.alloc (.cells #[.int .i64 kd, .int .i64 n, .int .i64 lg, .string a, .string b, .string c] 30) := ⟨_, rfl⟩
  have Q0 : Hid (Below w.heap.size w W0) := by rw [hW0]; exact (Below.refl _ w).alloc (Nat.le_refl _) _
  have r0 : W0.heap[w.heap.size]? = some (.cells #[.int .i64 kd, .int .i64 n, .int .i64 lg, .string a, .string b, .string c] 30 (0, 0)) := by rw [hW0]; exact blk_new w _
  have KO : Hid (∀ W, Below W0.heap.size W0 W → W.cell? ⟨w.heap.size, 3, none⟩ = some (.string a) ∧ W.cell? ⟨w.heap.size, 4, none⟩ = some (.string b)) := fun W hW => by
    have rb := (hW.block _ (lt_of_block r0)).trans r0
    have c3 := blk_cell rb 3; have c4 := blk_cell rb 4
    simp at c3 c4
    exact ⟨c3, c4⟩
  have LG := Lib.hid (slight_any W0 kd n lg a b c)
  have NEW := fun W => Lib.hid (new_h W 9 (by decide) (by decide))
  have ST : Hid (Sto 1 (Dk.new 9)) := sto_new (by decide) (by decide) (by decide)
  have RD : Hid (run (Dk.new 9) (openK 1 (Dk.new 9) ((Dk.new 9).read 0).1) = (Dk.new 9, 0)) := by
    unfold Hid
    rw [read_new (i := 0) (by decide) (by decide), openK_zero]
    rfl
  have FW : Hid (Fw 600 (Dk.new 9)) := ⟨by simp [Dk.new], by simp [Dk.new]⟩
  rw [hW0] at LG
  clear r0
  go_enter Try.func7, Try.ntmps7
  go_wp2_with fail
  refine LG.out.mono ?_
  rw [← hW0]
  rintro e w1 ⟨⟨q, rfl⟩, q1⟩
  have Q1 := Lib.hid q1
  have B1 : Hid (Below w.heap.size w w1) := Q0.out.trans (q1.mono Q0.out.size)
  obtain ⟨c3, c4⟩ := KO.out w1 q1
  clear q1 LG hW0
  cases q with
  | false =>
    go_wp2_with fail
    refine (slives_any _).mono ?_
    rintro e w9 ⟨rfl, b9⟩
    have B9 : Hid (Below w.heap.size w w9) := B1.out.trans (b9.mono B1.out.size)
    clear b9
    go_wp2
    go_ret
    exact ⟨rfl, B9.out⟩
  | true =>
    go_wp2_with fail
    refine (get_nil _ _).mono ?_
    rintro e w2 ⟨rfl, q2⟩
    have B2 : Hid (Below w.heap.size w w2) := B1.out.trans (q2.mono B1.out.size)
    have Q2 : Hid (Below W0.heap.size W0 w2) := Q1.out.trans (q2.mono Q1.out.size)
    clear q2 c3 c4
    obtain ⟨c3, c4⟩ := KO.out w2 Q2.out
    have hse : (ByteArray.empty.toList != ({ data := #[] } : ByteArray).toList) = false := by rw [show ByteArray.empty = ({ data := #[] } : ByteArray) from rfl]; simp
    go_wp2_with fail
    refine (abort_nil _).mono ?_
    rintro e w' ⟨rfl, rfl⟩
    go_wp2_with fail
    refine (put_nil _ _ _).mono ?_
    rintro e w' ⟨rfl, rfl⟩
    go_wp2_with fail
    refine (drop_nil _ _).mono ?_
    rintro e w3 ⟨rfl, q3⟩
    have B3 : Hid (Below w.heap.size w w3) := B2.out.trans (q3.mono B2.out.size)
    have Q3 : Hid (Below W0.heap.size W0 w3) := Q2.out.trans (q3.mono Q2.out.size)
    clear q3 c3 c4
    obtain ⟨c3, c4⟩ := KO.out w3 Q3.out
    go_wp2_with fail
    refine (range_nil _ _ _ _).mono ?_
    rintro e w' ⟨rfl, rfl⟩
    go_wp2_with fail
    refine (len_nil _).mono ?_
    rintro e w' ⟨rfl, rfl⟩
    go_wp2_with fail
    refine (ssize_nil _).mono ?_
    rintro e w' ⟨rfl, rfl⟩
    go_wp2_with fail
    refine (scommit_nil _).mono ?_
    rintro e w' ⟨rfl, rfl⟩
    go_wp2_with fail
    refine (sopen_nil _).mono ?_
    rintro e w' ⟨rfl, rfl⟩
    clear c3 c4
    go_wp2_with fail
    refine (NEW _).out.mono ?_
    rintro e w4 ⟨g, F, rfl, hd, hF, q4⟩
    have B4 : Hid (Below w.heap.size w w4) := B3.out.trans (q4.mono B3.out.size)
    have OP := Lib.hid (open_any w4 F g 1 (Dk.new 9) hd ST.out (by decide) (by decide) FW.out)
    unfold OpenTo at OP
    rw [RD.out] at OP
    have HF : Hid (∀ k, F k → w.heap.size ≤ k) := fun k hk => Nat.le_trans B3.out.size (hF k hk)
    clear hd hF q4 NEW
    go_wp2_with fail
    refine OP.out.mono ?_
    rintro e w5 ⟨v5, F5, rfl, t5, hv5⟩
    rw [if_pos (by trivial)] at hv5
    obtain ⟨gj, rfl, hj, _, _⟩ := hv5
    have B5 : Hid (Below w.heap.size w w5) := B4.out.trans (t5.touch.below B4.out.size HF.out)
    have SO := Lib.hid (sopen_one w5 gj g hj)
    clear t5 hj OP
    go_wp2_with fail
    refine SO.out.mono ?_
    rintro e w' ⟨rfl, rfl⟩
    go_wp2_with fail
    refine (slives_any _).mono ?_
    rintro e w9 ⟨rfl, b9⟩
    have B9 : Hid (Below w.heap.size w w9) := B5.out.trans (b9.mono B5.out.size)
    clear b9
    go_wp2
    go_ret
    exact ⟨rfl, B9.out⟩
end Go.Proofs.Ytoolkamajlgcbaa
