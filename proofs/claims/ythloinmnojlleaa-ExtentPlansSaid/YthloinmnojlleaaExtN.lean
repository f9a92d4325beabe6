/- ExtN: arguments laid open: rows of steps, rows of spans, of numbers, of bytes. -/
import Derived.Test.YthloinmnojlleaaExtL
import Derived.ProofKit
import Derived.OpenShut
import Derived.Deep.Slices
set_option linter.unusedVariables false
set_option linter.unusedSimpArgs false
namespace Go.Proofs.Ythloinmnojlleaa
open Go.RowKit Go.ChangeShapes Go.WideShapes Go.ChangeAt

/-- A number of the machine. -/
def I64 (k : Int) : Prop := -9223372036854775808 ≤ k ∧ k ≤ 9223372036854775807
theorem I64.of {k : Int} (h : (Lit.int .i64 k).wf = true) : I64 k := by
  simp [Lit.wf, IntKind.min, IntKind.max, IntKind.signed, IntKind.bits] at h
  exact h
/-- A step. -/
structure OpE where
  kind : Int
  n : Int
  rule : Int
  pos : Int
  size : Int
structure OpE.In (o : OpE) : Prop where
  kind : I64 o.kind
  n : I64 o.n
  rule : I64 o.rule
  pos : I64 o.pos
  size : I64 o.size
def OpsE (w : World) (b off : Nat) (l : List OpE) : Prop :=
  ∀ i (h : i < l.length), w.cell? ⟨b, off + i * 5, none⟩ = some (.int .i64 l[i].kind) ∧ w.cell? ⟨b, off + i * 5 + 1, none⟩ = some (.int .i64 l[i].n) ∧ w.cell? ⟨b, off + i * 5 + 2, none⟩ = some (.int .i64 l[i].rule) ∧
    w.cell? ⟨b, off + i * 5 + 3, none⟩ = some (.int .i64 l[i].pos) ∧ w.cell? ⟨b, off + i * 5 + 4, none⟩ = some (.int .i64 l[i].size)
theorem OpsE.below {w w' : World} {b off : Nat} {l : List OpE} (h : OpsE w b off l) (hb : Below w.heap.size w w') : OpsE w' b off l := fun i hi => by
  obtain ⟨a, b, c, d, e⟩ := h i hi
  exact ⟨cell_below hb a, cell_below hb b, cell_below hb c, cell_below hb d, cell_below hb e⟩
def RdE (w : World) (v : Value) (l : List OpE) : Prop :=
  ∃ A c, v = .slice A l.length c ∧ l.length ≤ c ∧ c ≤ 9223372036854775807 ∧ (0 < l.length → ∃ b off, A = some ⟨b, off, none⟩ ∧ OpsE w b off l) ∧ ∀ o ∈ l, o.In
/-- Any spans. -/
def SpsE (w : World) (b off : Nat) (l : List (Int × Int)) : Prop :=
  ∀ i (h : i < l.length), w.cell? ⟨b, off + i * 2, none⟩ = some (.int .i64 l[i].1) ∧ w.cell? ⟨b, off + i * 2 + 1, none⟩ = some (.int .i64 l[i].2)
theorem SpsE.below {w w' : World} {b off : Nat} {l : List (Int × Int)} (h : SpsE w b off l) (hb : Below w.heap.size w w') : SpsE w' b off l := fun i hi => by
  obtain ⟨a, b⟩ := h i hi
  exact ⟨cell_below hb a, cell_below hb b⟩
def RdS (w : World) (v : Value) (l : List (Int × Int)) : Prop :=
  ∃ A c, v = .slice A l.length c ∧ l.length ≤ c ∧ c ≤ 9223372036854775807 ∧ (0 < l.length → ∃ b off, A = some ⟨b, off, none⟩ ∧ SpsE w b off l) ∧ ∀ o ∈ l, I64 o.1 ∧ I64 o.2
/-- Any numbers. -/
def RdI (w : World) (v : Value) (l : List Int) : Prop :=
  ∃ A c, v = .slice A l.length c ∧ l.length ≤ c ∧ c ≤ 9223372036854775807 ∧ (0 < l.length → ∃ b off, A = some ⟨b, off, none⟩ ∧ ∀ i (h : i < l.length), w.cell? ⟨b, off + i, none⟩ = some (.int .i64 l[i])) ∧ ∀ o ∈ l, I64 o
/-- Any bytes. -/
def RdU (w : World) (v : Value) (l : List UInt8) : Prop :=
  ∃ A c, v = .slice A l.length c ∧ l.length ≤ c ∧ c ≤ 9223372036854775807 ∧ (0 < l.length → ∃ b off, A = some ⟨b, off, none⟩ ∧ ∀ i (h : i < l.length), w.cell? ⟨b, off + i, none⟩ = some (.int .u8 (l[i].toNat : Int)))

section
variable {H : Type} {enc : TypeId × Value → H} {W : World} {base : Nat} {held : Bool}
theorem plain_addr {w : World} {a : Addr} {v : Value} (h : w.cell? (a.add 0) = some v) : a = ⟨a.block, a.off, none⟩ := by
  have e : a.add 0 = a := by unfold Addr.add; simp
  rw [e] at h
  cases a with
  | mk b o s =>
    cases s with
    | none => rfl
    | some x =>
      simp only [World.cell?] at h
      split at h <;> simp at h
set_option maxRecDepth 100000 in
theorem cells_span {w : World} {fuel : Nat} {cs : List Value} {x : DataW H × List MemPlace} (h : DataW.trod enc Try.prog w base (fun _ => true) held fuel 30 cs = some x) :
    ∃ o : Int × Int, cs = [.int .i64 o.1, .int .i64 o.2] ∧ I64 o.1 ∧ I64 o.2 := by
  obtain ⟨xs, n, _, _, hlen, hxs, hf⟩ := DataW.trod_struct Try.underlying30 h
  have c5 : Try.prog.cellsOf 30 = 2 := by kernel_rfl
  have ci : Try.prog.cellsOf 3 = 1 := by kernel_rfl
  rw [c5] at hlen
  match xs, hxs, cs, hlen with
  | [y0, y1], _, [a0, a1], _ =>
    have h0 : DataW.trod enc Try.prog w base (fun _ => true) held n 3 (([a0, a1].drop 0).take (Try.prog.cellsOf 3)) = some y0 := hf 0 _ rfl
    have h1 : DataW.trod enc Try.prog w base (fun _ => true) held n 3 (([a0, a1].drop 1).take (Try.prog.cellsOf 3)) = some y1 := hf 1 _ rfl
    rw [ci] at h0 h1
    simp only [List.drop_zero, List.drop_succ_cons, List.take_succ_cons, List.take_zero, List.getElem?_cons_zero, List.getElem?_cons_succ] at h0 h1
    obtain ⟨k, e0, _, w0⟩ := DataW.trod_int Try.underlying3 h0
    obtain ⟨p, e1, _, w1⟩ := DataW.trod_int Try.underlying3 h1
    simp only [List.cons.injEq, and_true] at e0 e1
    subst e0 e1
    exact ⟨(k, p), rfl, I64.of w0, I64.of w1⟩
set_option maxRecDepth 100000 in
theorem cells_opE {w : World} {fuel : Nat} {cs : List Value} {x : DataW H × List MemPlace} (h : DataW.trod enc Try.prog w base (fun _ => true) held fuel 32 cs = some x) :
    ∃ o : OpE, cs = [.int .i64 o.kind, .int .i64 o.n, .int .i64 o.rule, .int .i64 o.pos, .int .i64 o.size] ∧ o.In := by
  obtain ⟨xs, n, _, _, hlen, hxs, hf⟩ := DataW.trod_struct Try.underlying32 h
  have c5 : Try.prog.cellsOf 32 = 5 := by kernel_rfl
  have ci : Try.prog.cellsOf 3 = 1 := by kernel_rfl
  have cu : Try.prog.cellsOf 30 = 2 := by kernel_rfl
  rw [c5] at hlen
  match xs, hxs, cs, hlen with
  | [y0, y1, y2, y3], _, [a0, a1, a2, a3, a4], _ =>
    have h0 : DataW.trod enc Try.prog w base (fun _ => true) held n 3 (([a0, a1, a2, a3, a4].drop 0).take (Try.prog.cellsOf 3)) = some y0 := hf 0 _ rfl
    have h1 : DataW.trod enc Try.prog w base (fun _ => true) held n 3 (([a0, a1, a2, a3, a4].drop 1).take (Try.prog.cellsOf 3)) = some y1 := hf 1 _ rfl
    have h2 : DataW.trod enc Try.prog w base (fun _ => true) held n 3 (([a0, a1, a2, a3, a4].drop 2).take (Try.prog.cellsOf 3)) = some y2 := hf 2 _ rfl
    have h3 : DataW.trod enc Try.prog w base (fun _ => true) held n 30 (([a0, a1, a2, a3, a4].drop 3).take (Try.prog.cellsOf 30)) = some y3 := hf 3 _ rfl
    rw [ci] at h0 h1 h2
    rw [cu] at h3
    simp only [List.drop_zero, List.drop_succ_cons, List.take_succ_cons, List.take_zero, List.getElem?_cons_zero, List.getElem?_cons_succ] at h0 h1 h2 h3
    obtain ⟨k, e0, _, w0⟩ := DataW.trod_int Try.underlying3 h0
    obtain ⟨p, e1, _, w1⟩ := DataW.trod_int Try.underlying3 h1
    obtain ⟨q, e2, _, w2⟩ := DataW.trod_int Try.underlying3 h2
    obtain ⟨s, e3, w3, w4⟩ := cells_span h3
    simp only [List.cons.injEq, and_true] at e0 e1 e2 e3
    obtain ⟨e3, e4⟩ := e3
    subst e0 e1 e2 e3 e4
    exact ⟨⟨k, p, q, s.1, s.2⟩, rfl, ⟨I64.of w0, I64.of w1, I64.of w2, w3, w4⟩⟩
set_option maxRecDepth 100000 in
theorem cells_opsE {w : World} {fuel : Nat} {v : Value} {x : DataW H × List MemPlace} (hf : DataW.trod enc Try.prog W base (fun _ => true) held fuel 22 [v] = some x) : ∃ l, RdE W v l := by
  have c5 : Try.prog.cellsOf 32 = 5 := by kernel_rfl
  rcases Go.Deep.open_slice Try.underlying22 hf with ⟨hcs, _⟩ | ⟨a, len, cap, m, n, D, Pl, hcs, _, hl, hm, hmm, _, hx⟩
  · simp at hcs
    subst hcs
    exact ⟨[], none, 0, rfl, Nat.le_refl _, by decide, (fun h => by simp at h), (fun o h => by simp at h)⟩
  · simp at hcs hmm
    subst hcs
    subst hmm
    obtain ⟨f, hf⟩ := @Go.Deep.choose_lt OpE ⟨⟨0, 0, 0, 0, 0⟩⟩ m (fun i o => W.cell? (a.add (i * 5)) = some (.int .i64 o.kind) ∧ W.cell? (a.add (i * 5 + 1)) = some (.int .i64 o.n) ∧ W.cell? (a.add (i * 5 + 2)) = some (.int .i64 o.rule) ∧ W.cell? (a.add (i * 5 + 3)) = some (.int .i64 o.pos) ∧ W.cell? (a.add (i * 5 + 4)) = some (.int .i64 o.size) ∧ o.In) (fun i hi => by
      obtain ⟨cs', h1, h2⟩ := hx i hi
      obtain ⟨o, rfl, hr⟩ := cells_opE h2
      rw [c5] at h1
      obtain ⟨_, _, hc⟩ := World.cells?_some h1
      have g0 := hc 0 (by decide)
      have g1 := hc 1 (by decide)
      have g2 := hc 2 (by decide)
      have g3 := hc 3 (by decide)
      have g4 := hc 4 (by decide)
      rw [Go.Deep.add_add] at g0 g1 g2 g3 g4
      exact ⟨o, g0, g1, g2, g3, g4, hr⟩)
    refine ⟨(List.range len).map f, some a, m, by simp, by simpa using hl, by simp [maxLen] at hm; omega, fun hp => ?_, fun o ho => ?_⟩
    · simp at hp
      obtain ⟨z, _⟩ := hf 0 (by omega)
      have ha := plain_addr (by simpa using z)
      refine ⟨a.block, a.off, by rw [← ha], fun i hi => ?_⟩
      simp at hi
      obtain ⟨g0, g1, g2, g3, g4, _⟩ := hf i (by omega)
      have := And.intro g0 (And.intro g1 (And.intro g2 (And.intro g3 g4)))
      rw [ha] at this
      simp only [Addr.add_lit, ← Nat.add_assoc] at this
      simpa using this
    · obtain ⟨i, hi, rfl⟩ := List.mem_map.1 ho
      simp at hi
      exact (hf i (by omega)).2.2.2.2.2
set_option maxRecDepth 100000 in
theorem open_opsE {v : Value} {d : DataW H} {ps : List MemPlace} {r : World} (hv : Value.okWide Try.prog r .any base 22 v) (h : DataW.Trod enc Try.prog W 0 (fun _ => true) held 22 v d ps) : ∃ l, RdE W v l := by
  obtain ⟨a0, len0, cap0, rfl⟩ := okWide_slice Try.underlying22 hv
  obtain ⟨fuel, hf⟩ := h
  exact cells_opsE (w := W) (by simpa [Value.cells] using hf)
set_option maxRecDepth 100000 in
theorem cells_spansE {w : World} {fuel : Nat} {v : Value} {x : DataW H × List MemPlace} (hf : DataW.trod enc Try.prog W base (fun _ => true) held fuel 28 [v] = some x) : ∃ l, RdS W v l := by
  have c5 : Try.prog.cellsOf 30 = 2 := by kernel_rfl
  rcases Go.Deep.open_slice Try.underlying28 hf with ⟨hcs, _⟩ | ⟨a, len, cap, m, n, D, Pl, hcs, _, hl, hm, hmm, _, hx⟩
  · simp at hcs
    subst hcs
    exact ⟨[], none, 0, rfl, Nat.le_refl _, by decide, (fun h => by simp at h), (fun o h => by simp at h)⟩
  · simp at hcs hmm
    subst hcs
    subst hmm
    obtain ⟨f, hf⟩ := @Go.Deep.choose_lt (Int × Int) ⟨(0, 0)⟩ m (fun i o => W.cell? (a.add (i * 2)) = some (.int .i64 o.1) ∧ W.cell? (a.add (i * 2 + 1)) = some (.int .i64 o.2) ∧ I64 o.1 ∧ I64 o.2) (fun i hi => by
      obtain ⟨cs', h1, h2⟩ := hx i hi
      obtain ⟨o, rfl, hr⟩ := cells_span h2
      rw [c5] at h1
      obtain ⟨_, _, hc⟩ := World.cells?_some h1
      have g0 := hc 0 (by decide)
      have g1 := hc 1 (by decide)
      rw [Go.Deep.add_add] at g0 g1
      exact ⟨o, g0, g1, hr⟩)
    refine ⟨(List.range len).map f, some a, m, by simp, by simpa using hl, by simp [maxLen] at hm; omega, fun hp => ?_, fun o ho => ?_⟩
    · simp at hp
      obtain ⟨z, _⟩ := hf 0 (by omega)
      have ha := plain_addr (by simpa using z)
      refine ⟨a.block, a.off, by rw [← ha], fun i hi => ?_⟩
      simp at hi
      obtain ⟨g0, g1, _⟩ := hf i (by omega)
      have := And.intro g0 g1
      rw [ha] at this
      simp only [Addr.add_lit, ← Nat.add_assoc] at this
      simpa using this
    · obtain ⟨i, hi, rfl⟩ := List.mem_map.1 ho
      simp at hi
      exact (hf i (by omega)).2.2
set_option maxRecDepth 100000 in
theorem open_spansE {v : Value} {d : DataW H} {ps : List MemPlace} {r : World} (hv : Value.okWide Try.prog r .any base 28 v) (h : DataW.Trod enc Try.prog W 0 (fun _ => true) held 28 v d ps) : ∃ l, RdS W v l := by
  obtain ⟨a0, len0, cap0, rfl⟩ := okWide_slice Try.underlying28 hv
  obtain ⟨fuel, hf⟩ := h
  exact cells_spansE (w := W) (by simpa [Value.cells] using hf)
set_option maxRecDepth 100000 in
theorem open_numsE {v : Value} {d : DataW H} {ps : List MemPlace} {r : World} (hv : Value.okWide Try.prog r .any base 59 v) (h : DataW.Trod enc Try.prog W 0 (fun _ => true) held 59 v d ps) : ∃ l, RdI W v l := by
  obtain ⟨a0, len0, cap0, rfl⟩ := okWide_slice Try.underlying59 hv
  obtain ⟨fuel, h⟩ := h
  rcases Go.Deep.open_slice1 Try.underlying59 (by kernel_rfl) h with ⟨hcs, _⟩ | ⟨a, len, cap, m, n, V, D, Pl, hcs, _, hl, hm, hmm, _, hx⟩
  · simp [Value.cells] at hcs
    obtain ⟨rfl, rfl, rfl⟩ := hcs
    exact ⟨[], none, 0, rfl, Nat.le_refl _, by decide, (fun h => by simp at h), (fun o h => by simp at h)⟩
  · simp [Value.cells] at hcs hmm
    obtain ⟨rfl, rfl, rfl⟩ := hcs
    subst hmm
    obtain ⟨f, hf⟩ := Go.Deep.choose_lt (n := m) (p := fun i b => V i = .int .i64 b ∧ I64 b) (fun i hi => by
      obtain ⟨_, h2⟩ := hx i hi
      obtain ⟨b, hb, _, wb⟩ := DataW.trod_int Try.underlying3 h2
      exact ⟨b, by simpa using hb, I64.of wb⟩)
    refine ⟨(List.range len0).map f, some a, m, by simp, by simpa using hl, by simp [maxLen] at hm; omega, fun hp => ?_, fun o ho => ?_⟩
    · simp at hp
      have z := (hx 0 (by omega)).1
      have ha := plain_addr (by simpa using z)
      refine ⟨a.block, a.off, by rw [← ha], fun i hi => ?_⟩
      simp at hi
      have := (hx i (by omega)).1
      rw [(hf i (by omega)).1, ha] at this
      simp only [Addr.add_lit] at this
      simpa using this
    · obtain ⟨i, hi, rfl⟩ := List.mem_map.1 ho
      simp at hi
      exact (hf i (by omega)).2
end
end Go.Proofs.Ythloinmnojlleaa
