/- JwT: the argument of JournalWhole laid open. -/
import Derived.Test.YtpaabfadniakoaaJnZ
set_option linter.unusedVariables false
set_option linter.unusedSimpArgs false
namespace Go.Proofs.Ytpaabfadniakoaa
open Go.RowKit Go.ChangeShapes Go.WideShapes Go.ChangeAt Go.Deep

structure TornM where
  pages : Int
  ahead : List PutM
  puts : List PutM
  cut : Int
  again : Int
  picks : List Bool
  more : List Bool
structure TornAt (w : World) (x : TornM) (va vp vk vm : Value) : Prop where
  ahead : RdPutV w va x.ahead
  puts : RdPutV w vp x.puts
  picks : RdB w vk x.picks
  more : RdB w vm x.more
  cut : x.cut ≤ 9223372036854775807
  again : x.again ≤ 9223372036854775807
def tornV (x : TornM) (va vp vk vm : Value) : List Value := [.int .i64 x.pages, va, vp, .int .i64 x.cut, .int .i64 x.again, vk, vm]
def RdTorn (w : World) (v : Value) (x : TornM) : Prop := ∃ va vp vk vm, v = .agg (tornV x va vp vk vm).toArray ∧ TornAt w x va vp vk vm

section
variable {H : Type} {enc : TypeId × Value → H} {W : World} {base : Nat} {held : Bool}
set_option maxRecDepth 100000 in
theorem cells_torn {fuel : Nat} {cs : List Value} {x : DataW H × List MemPlace} (h : DataW.trod enc Try.prog W base (fun _ => true) held fuel 75 cs = some x) :
    ∃ o va vp vk vm, cs = tornV o va vp vk vm ∧ TornAt W o va vp vk vm := by
  obtain ⟨xs, n, _, _, hlen, hxs, hf⟩ := DataW.trod_struct Try.underlying75 h
  have c5 : Try.prog.cellsOf 75 = 7 := by kernel_rfl
  have ci : Try.prog.cellsOf 3 = 1 := by kernel_rfl
  have cp : Try.prog.cellsOf 36 = 1 := by kernel_rfl
  have cb : Try.prog.cellsOf 50 = 1 := by kernel_rfl
  rw [c5] at hlen
  match xs, hxs, cs, hlen with
  | [y0, y1, y2, y3, y4, y5, y6], _, [a0, a1, a2, a3, a4, a5, a6], _ =>
    have h0 : DataW.trod enc Try.prog W base (fun _ => true) held n 3 (([a0, a1, a2, a3, a4, a5, a6].drop 0).take (Try.prog.cellsOf 3)) = some y0 := hf 0 _ rfl
    have h1 : DataW.trod enc Try.prog W base (fun _ => true) held n 36 (([a0, a1, a2, a3, a4, a5, a6].drop 1).take (Try.prog.cellsOf 36)) = some y1 := hf 1 _ rfl
    have h2 : DataW.trod enc Try.prog W base (fun _ => true) held n 36 (([a0, a1, a2, a3, a4, a5, a6].drop 2).take (Try.prog.cellsOf 36)) = some y2 := hf 2 _ rfl
    have h3 : DataW.trod enc Try.prog W base (fun _ => true) held n 3 (([a0, a1, a2, a3, a4, a5, a6].drop 3).take (Try.prog.cellsOf 3)) = some y3 := hf 3 _ rfl
    have h4 : DataW.trod enc Try.prog W base (fun _ => true) held n 3 (([a0, a1, a2, a3, a4, a5, a6].drop 4).take (Try.prog.cellsOf 3)) = some y4 := hf 4 _ rfl
    have h5 : DataW.trod enc Try.prog W base (fun _ => true) held n 50 (([a0, a1, a2, a3, a4, a5, a6].drop 5).take (Try.prog.cellsOf 50)) = some y5 := hf 5 _ rfl
    have h6 : DataW.trod enc Try.prog W base (fun _ => true) held n 50 (([a0, a1, a2, a3, a4, a5, a6].drop 6).take (Try.prog.cellsOf 50)) = some y6 := hf 6 _ rfl
    rw [ci] at h0 h3 h4
    rw [cp] at h1 h2
    rw [cb] at h5 h6
    simp only [List.drop_zero, List.drop_succ_cons, List.take_succ_cons, List.take_zero] at h0 h1 h2 h3 h4 h5 h6
    obtain ⟨p, e0, _, _⟩ := DataW.trod_int Try.underlying3 h0
    obtain ⟨q, e3, _, w3⟩ := DataW.trod_int Try.underlying3 h3
    obtain ⟨f, e4, _, w4⟩ := DataW.trod_int Try.underlying3 h4
    simp only [List.cons.injEq, and_true] at e0 e3 e4
    subst e0 e3 e4
    obtain ⟨l1, r1⟩ := cells_puts h1
    obtain ⟨l2, r2⟩ := cells_puts h2
    obtain ⟨_, _, _, l5, _, _, r5⟩ := cells_bools h5
    obtain ⟨_, _, _, l6, _, _, r6⟩ := cells_bools h6
    have b3 : q ≤ 9223372036854775807 := by simp [Lit.wf, IntKind.min, IntKind.max, IntKind.signed, IntKind.bits] at w3; omega
    have b4 : f ≤ 9223372036854775807 := by simp [Lit.wf, IntKind.min, IntKind.max, IntKind.signed, IntKind.bits] at w4; omega
    exact ⟨⟨p, l1, l2, q, f, l5, l6⟩, a1, a2, a5, a6, rfl, ⟨r1, r2, r5, r6, b3, b4⟩⟩
set_option maxRecDepth 100000 in
theorem open_torn {v : Value} {d : DataW H} {ps : List MemPlace} {r : World} (hv : Value.okWide Try.prog r .any base 75 v) (h : DataW.Trod enc Try.prog W 0 (fun _ => true) held 75 v d ps) : ∃ x, RdTorn W v x := by
  simp only [Value.okWide, Try.underlying75] at hv
  obtain ⟨cs, rfl, _⟩ := hv
  obtain ⟨fuel, h⟩ := h
  obtain ⟨o, va, vp, vk, vm, ho, hat⟩ := cells_torn h
  refine ⟨o, va, vp, vk, vm, ?_, hat⟩
  simp only [Value.cells] at ho
  congr 1
  apply Array.ext'
  simpa using ho
end
end Go.Proofs.Ytpaabfadniakoaa
