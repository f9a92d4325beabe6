/- Seq: slices.Values, AppendSeq, Collect at strongroom/journal.Change. (written by gen_seq.py) -/
import Derived.Test.YtpaabfadniakoaaMp06
import Derived.RangeFuncGives
import Derived.RangeFuncNested
import Derived.RangeFuncLeaves
import Derived.RangeFuncIn
import Derived.RangeFuncBox
import Derived.Maps.AppendAt
import Derived.Shelf.Abstract
import Derived.OwnWalkIn
import Derived.TacticsInMore
import Derived.LoopNIn
import Derived.LoopIn
import Derived.Shelf.SlSortCmp.WholeK
import Derived.Test.YtpaabfadniakoaaProg
import Derived.Shelf.SlSortCmp.NoneTotal
import Derived.Sort.OwnSorted
set_option linter.unusedVariables false
set_option linter.unusedSimpArgs false
namespace Go.Proofs.Ytpaabfadniakoaa
open Go.RowKit Go.Shelf

set_option maxHeartbeats 1600000 in
set_option maxRecDepth 100000 in
/-- The iterator: whatever the caller keeps between its rounds. -/
theorem vals_in (F : Fence) (n : Nat) (hf : F.fn 66) (hro : F.round = none) (hn : 1 ≤ n) (l Bc : Nat) (A : Option Addr) (b off c : Nat) (L : List (Nat × ByteArray)) (J : Nat → World → Prop) (W : World)
    (hbox : W.cell? ⟨Bc, 0, none⟩ = some (.slice A L.length c)) (hA : 0 < L.length → A = some ⟨b, off, none⟩)
    (hrd : ∀ k W', J k W' → ∀ (j : Nat) (h : j < L.length), W'.cell? ⟨b, off + j * 2, none⟩ = some (.int .i64 (L[j].1 : Int)) ∧ W'.cell? ⟨b, off + j * 2 + 1, none⟩ = some (.string L[j].2))
    (hJa : ∀ k W' o, J k W' → J k (W'.alloc o))
    (hY : ∀ k W' (h : k < L.length), J k W' → YieldAt F (n - 1) Try.prog l #[(.agg #[.int .i64 (L[k].1 : Int), .string L[k].2])] W' fun e W'' => e = .returned (.bool true) ∧ J (k + 1) W'')
    (h0 : J 0 W) (hL : L.length ≤ 1048577) :
    CallsIn F n Try.prog 66 #[.func (.yield l) #[] #[], .pointer (some ⟨Bc, 0, none⟩)] W fun e W' => (∃ v, e = .returned v) ∧ J L.length W' := by
  have HRD := Lib.hid hrd; have HJA := Lib.hid hJa; have HY := Lib.hid hY; have H0 := Lib.hid h0; have HA := Lib.hid hA
  clear hrd hJa hY h0 hA
  refine callsIn_of_wp Try.func66 rfl hf ?_ hro
  simp only [Try.ntmps66, List.size_toArray, List.length_cons, List.length_nil, Nat.reduceAdd, Nat.reduceSub, Array.replicate_succ, Array.replicate_zero, List.push_toArray, List.append_toArray, List.nil_append, List.cons_append]
  gi_wp2
  gi_loopw [7] (fun i wr => ∃ k : Nat, k ≤ L.length ∧ i = .int .i64 k ∧ Hid (J k wr)) (fun i _ => L.length - (intOf i).toNat)
  case atStart => exact ⟨0, Nat.zero_le _, rfl, H0⟩
  case round =>
    obtain ⟨k, hk, rfl, hJ⟩ := hrel
    by_cases hlt : k < L.length
    · have hAe := HA.out (by omega)
      subst hAe
      obtain ⟨c0, c1⟩ := HRD.out k wr hJ.out k hlt
      obtain ⟨fn, tmps, assign, body, hy, hR⟩ := HY.out k (wr.alloc (.cells #[.int .i64 (L[k].1 : Int), .string L[k].2] 44)) hlt (HJA.out k wr _ hJ.out)
      generalize L[k] = x at c0 c1 hy hR
      gi_wp2
      refine hR.mono ?_
      rintro e W3 ⟨rfl, hJ3⟩
      have HJ3 := Lib.hid hJ3
      clear hJ3
      gi_wp2
      go_roundw
      case rel => exact ⟨k + 1, hlt, by go_num, HJ3⟩
      case measure => simp [intOf]; omega
    · obtain rfl : k = L.length := by omega
      gi_wp2
      go_end0
      exact ⟨⟨_, rfl⟩, hJ.out⟩

def apAssign : Code := (Code.region 2
                    #[{ dst := some 5, op := Op.alloc 44, type := 0, pos := "iter.go:51", after := #[], guard := none },
                      { dst := none, op := Op.store 44 (Operand.tmp 5) (Operand.tmp 7), type := 0, pos := "iter.go:51",
                        after := #[{ on := 0, ground := Ground.data }, { on := 0, ground := Ground.phase }],
                        guard := none }]
                    false)
def apBody : Code := (Code.block 1
                    (Code.region 3
                      #[{ dst := some 8, op := Op.load 39 (Operand.tmp 2), type := 39, pos := "iter.go:52",
                          after := #[], guard := none },
                        { dst := some 9, op := Op.load 44 (Operand.tmp 5), type := 44, pos := "iter.go:52",
                          after := #[], guard := none },
                        { dst := some 10, op := Op.buildSlice 39 1 #[(0, Operand.tmp 9)], type := 39,
                          pos := "iter.go:52", after := #[{ on := 1, ground := Ground.data }], guard := none },
                        { dst := some 11,
                          op :=
                            Op.call
                              { callee := Callee.builtin Builtin.append, args := #[Operand.tmp 8, Operand.tmp 10],
                                argTypes := #[39, 39] },
                          type := 39, pos := "iter.go:52",
                          after := #[{ on := 0, ground := Ground.data }, { on := 2, ground := Ground.data }],
                          guard := none },
                        { dst := none, op := Op.store 39 (Operand.tmp 2) (Operand.tmp 11), type := 0,
                          pos := "iter.go:52",
                          after :=
                            #[{ on := 3, ground := Ground.data }, { on := 3, ground := Ground.chain },
                              { on := 0, ground := Ground.phase }, { on := 1, ground := Ground.phase },
                              { on := 2, ground := Ground.phase }, { on := 3, ground := Ground.phase }],
                          guard := none }]
                      false))
/-- The loop's record. -/
def apRec (fn : FuncId) (sv : Value) (Bs D : Nat) (st : LoopState) (pend : Option Code) : Loop :=
  { state := st, pending := pend, fn, tmps := #[.slice none 0 0, sv, .pointer (some ⟨Bs, 0, none⟩), undef, .slice none 0 0, undef, sv, undef, undef, undef, undef, undef, undef], params := #[7], assign := apAssign, body := apBody, defers := D }
/-- Between two rounds. -/
structure ApAt (w0 : World) (fn : FuncId) (sv : Value) (Bs l D : Nat) (ss : List (Nat × ByteArray)) (W : World) : Prop where
  box : ∃ v, W.heap[Bs]? = some (.cells #[v] 39 (0, 0)) ∧ W.ownsRow w0.heap.size 44 2 v ss.length (chv ss)
  L : W.heap[l]? = some (.loop (apRec fn sv Bs D .ready none))
  K : W.heap[D]? = some (.deferred (some []))
  below : Below w0.heap.size w0 W
theorem grown_put (W : World) (l : Nat) (o : Obj) : W.grownBy (W.putObj l o) (some l) :=
  ⟨rfl, rfl, rfl, by simp, fun k _ hk => World.putObj_heap_other (fun e => hk (by rw [e]))⟩
theorem grown_set (W : World) (b : Nat) (v : Value) : W.grownBy (W.setCell ⟨b, 0, none⟩ v) (some b) :=
  ⟨rfl, rfl, rfl, (KeepsWalks.setCell W _ v).size, fun k _ hk => Below.heap_setCell _ _ _ k (fun e => hk (by rw [e]))⟩
theorem row_ne {W : World} {base : Nat} {e : TypeId} {size : Nat} {v : Value} {k : Nat} {xs : List Value} (h : W.ownsRow base e size v k xs) {j : Nat} {o : Obj} (hj : W.heap[j]? = some o) (hno : ∀ cur, o ≠ .cells cur e (0, 0)) :
    v.ownBlock = none ∨ v.ownBlock ≠ some j := by
  rcases h.2 with ⟨rfl, _⟩ | ⟨g, cap, cur, rfl, _, hgb, _⟩
  · exact .inl rfl
  · refine .inr fun e' => ?_
    have : g = j := by simpa [Value.ownBlock] using e'
    subst this; rw [hgb] at hj; cases hj; exact hno cur rfl
theorem box_set {W : World} {B : Nat} {v : Value} {t : TypeId} (v' : Value) (h : W.heap[B]? = some (.cells #[v] t (0, 0))) : (W.setCell ⟨B, 0, none⟩ v').heap[B]? = some (.cells #[v'] t (0, 0)) := by
  have := blk_set h 0 v'
  simpa using this
theorem two_new (w : World) (a b : Value) (t : TypeId) : ∀ j u, [a, b][j]? = some u → (w.alloc (.cells #[a, b] t)).cell? ((⟨w.heap.size, 0, none⟩ : Addr).add j) = some u := by
  intro j u hj
  have h := blk_new w (.cells #[a, b] t)
  match j, hj with
  | 0, hj => rw [show (⟨w.heap.size, 0, none⟩ : Addr).add 0 = ⟨w.heap.size, 0, none⟩ from rfl, blk_cell h 0]; simpa using hj
  | 1, hj => rw [show (⟨w.heap.size, 0, none⟩ : Addr).add 1 = ⟨w.heap.size, 1, none⟩ from rfl, blk_cell h 1]; simpa using hj
  | j + 2, hj => simp at hj

theorem apAt_alloc {w0 : World} {fn : FuncId} {sv : Value} {Bs l D : Nat} {ss : List (Nat × ByteArray)} {W : World} (h : ApAt w0 fn sv Bs l D ss W) (o : Obj) : ApAt w0 fn sv Bs l D ss (W.alloc o) := by
  obtain ⟨v, hv, hr⟩ := h.box
  exact ⟨⟨v, blk_alloc hv o, hr.alloc o⟩, blk_alloc h.L o, blk_alloc h.K o, h.below.alloc h.below.size o⟩

set_option maxRecDepth 100000 in
set_option maxHeartbeats 2000000 in
theorem apYield (F : Fence) (m : Nat) (w0 : World) (fn : FuncId) (hfn : F.fn fn) (sv : Value) (Bs l D : Nat) (hBl : Bs ≠ l) (hDl : D ≠ l) (hDB : D ≠ Bs) (h0B : w0.heap.size ≤ Bs) (h0l : w0.heap.size ≤ l)
    (ss : List (Nat × ByteArray)) (x : Nat × ByteArray) (W : World) (h : ApAt w0 fn sv Bs l D ss W) (hlen : ss.length < 1048577) :
    YieldAt F m Try.prog l #[(.agg #[.int .i64 (x.1 : Int), .string x.2])] W fun e W' => e = .returned (.bool true) ∧ ApAt w0 fn sv Bs l D (ss ++ [x]) W' := by
  obtain ⟨i0, hi, hz0, hz1, hz2⟩ := info_parts infoCh
  obtain ⟨v, hv, hrow⟩ := h.box
  refine ⟨fn, #[.slice none 0 0, sv, .pointer (some ⟨Bs, 0, none⟩), undef, .slice none 0 0, undef, sv, (.agg #[.int .i64 (x.1 : Int), .string x.2]), undef, undef, undef, undef, undef], apAssign, apBody, by simpa [apRec] using run_yield (P := Try.prog) (args := #[(.agg #[.int .i64 (x.1 : Int), .string x.2])]) h.L rfl, roundIn_of_wpIn hfn ?_⟩
  obtain ⟨Wa, hWa⟩ : ∃ Wa, W.alloc (.cells #[.int .i64 (x.1 : Int), .string x.2] 44) = Wa := ⟨_, rfl⟩
  have ha : ApAt w0 fn sv Bs l D ss Wa := by rw [← hWa]; exact apAt_alloc h _
  have hxa : Wa.heap[W.heap.size]? = some (.cells #[.int .i64 (x.1 : Int), .string x.2] 44 (0, 0)) := by rw [← hWa]; exact blk_new W _
  have hWl : l < W.heap.size := (Array.getElem?_eq_some_iff.1 h.L).1
  have hWB : Bs < W.heap.size := (Array.getElem?_eq_some_iff.1 hv).1
  clear h hv hrow
  obtain ⟨v, hv, hrow⟩ := ha.box
  have hl : l < Wa.heap.size := (Array.getElem?_eq_some_iff.1 ha.L).1
  have hbr := run_beginRound (P := Try.prog) ha.L rfl
  obtain ⟨W2, hW2⟩ : ∃ W2, Wa.putObj l (.loop { apRec fn sv Bs D .ready none with state := .busy }) = W2 := ⟨_, rfl⟩
  rw [hW2] at hbr
  have hg2 : Wa.grownBy W2 (some l) := by rw [← hW2]; exact grown_put _ _ _
  have hv2 : W2.heap[Bs]? = some (.cells #[v] 39 (0, 0)) := by rw [← hW2]; exact (World.putObj_heap_other hBl).trans hv
  have hx2 : W2.heap[W.heap.size]? = some (.cells #[.int .i64 (x.1 : Int), .string x.2] 44 (0, 0)) := by rw [← hW2]; exact (World.putObj_heap_other (by omega)).trans hxa
  have hK2 : W2.heap[D]? = some (.deferred (some [])) := by rw [← hW2]; exact (World.putObj_heap_other hDl).trans ha.K
  have hL2 : W2.heap[l]? = some (.loop { apRec fn sv Bs D .ready none with state := .busy }) := by rw [← hW2]; exact World.putObj_heap_same hl
  have hrow2 : W2.ownsRow w0.heap.size 44 2 v ss.length (chv ss) := hrow.kept hg2 (row_ne hrow ha.L (fun cur e => by cases e))
  have hb2 : Below w0.heap.size w0 W2 := ha.below.grown hg2 ha.below.size (fun k e => by cases e; exact h0l)
  have c2 := blk_cell hv2 0; have f2 := blk_free hv2 0
  have x0 := blk_cell hx2 0; have x1 := blk_cell hx2 1
  simp only [List.getElem?_toArray, List.getElem?_cons_zero, List.getElem?_cons_succ] at c2 x0 x1
  have hBlt : Bs < W2.heap.size := (Array.getElem?_eq_some_iff.1 hv2).1
  have hl2 : l < W2.heap.size := (Array.getElem?_eq_some_iff.1 hL2).1
  have hDlt : D < W2.heap.size := (Array.getElem?_eq_some_iff.1 hK2).1
  have NE : Hid (∀ (j : Nat) (o : Obj), W2.heap[j]? = some o → (∀ cur, o ≠ .cells cur 44 (0, 0)) → v.ownBlock ≠ some j) := fun j o hj hno => by
    rcases row_ne hrow2 hj hno with e | e
    · rw [e]; simp
    · exact e
  have HV := Lib.hid hv2; have HK := Lib.hid hK2; have HL := Lib.hid hL2
  have HR := Lib.hid hrow2
  have hs2 : w0.heap.size ≤ W2.heap.size := hb2.size
  have HB2 := Lib.hid hb2
  have HBL := Lib.hid (And.intro hBl (And.intro hDl hDB))
  have HX2 := Lib.hid hx2
  obtain ⟨VA, vc, ev⟩ := own_slice hrow2
  subst ev
  rw [← hWa] at hbr
  clear hW2 ha hxa hWa hv hrow hg2 hrow2 hb2 hv2 hK2 hL2 hx2 hBl hDl hDB
  unfold apAssign
  gi_wp2_with ((rw [Oper.semAt_eq _ _ _ (fun c h => by cases h)]; go_simp; try go_bits))
  unfold apBody
  gi_wp2_with (first
    | (gi_at_builtin; refine wpListIn_append_own _ rfl _ _ 39 rfl w0.heap.size 44 i0 (.agg #[.int .i64 0, .string ByteArray.empty]) 2 24 Try.underlying39 hi hz0 hz1 hz2 rfl (by decide) _ _ _ rfl (HR.out.alloc _) ⟨W2.heap.size, 0, none⟩ 1 1 [.int .i64 (x.1 : Int), .string x.2] rfl rfl (two_new _ _ _ _) (by simp [Value.oneCell']) (by unfold maxLen; omega) (by omega) (by simp; omega) ?_)
    | (rw [Oper.semAt_eq _ _ _ (fun c h => by cases h)]; go_simp; try go_bits))
  intro v' w3 hown' hg3 _
  obtain ⟨g', cap', rfl⟩ : ∃ g' cap', v' = .slice (some ⟨g', 0, none⟩) (ss.length + 1) cap' := by
    rcases hown'.2 with ⟨_, h0⟩ | ⟨g', cap', cur', e, _⟩
    · exact absurd h0 (by omega)
    · exact ⟨g', cap', e⟩
  have keep : ∀ (j : Nat) (o : Obj), W2.heap[j]? = some o → (∀ cur, o ≠ .cells cur 44 (0, 0)) → w3.heap[j]? = some o := fun j o hj hno =>
    (hg3.block j (by simp; have := (Array.getElem?_eq_some_iff.1 hj).1; omega) (fun e => NE.out j o hj hno e.symm)).trans (blk_alloc hj _)
  have hv3 := keep _ _ HV.out (fun cur e => by cases e)
  have HL3 := Lib.hid (keep _ _ HL.out (fun cur e => by cases e))
  have HK3 := Lib.hid (keep _ _ HK.out (fun cur e => by cases e))
  have HB3 : Hid (Below w0.heap.size w0 w3) := (HB2.out.alloc HB2.out.size _).grown hg3 (by simp; omega) (fun k e => (HR.out.lt k e).1)
  have HO3 := Lib.hid hown'
  have HV3 := Lib.hid hv3
  have c3 := blk_cell hv3 0; have f3 := blk_free hv3 0
  simp only [List.getElem?_toArray, List.getElem?_cons_zero, List.getElem?_cons_succ] at c3
  clear keep hv3 hown' hg3 x0 x1 c2 f2
  gi_wp2_with ((rw [Oper.semAt_eq _ _ _ (fun c h => by cases h)]; go_simp; try go_bits))
  have hg4 := grown_set w3 Bs (.slice (some ⟨g', 0, none⟩) (ss.length + 1) cap')
  obtain ⟨w4, hw4⟩ : ∃ w4, w3.setCell ⟨Bs, 0, none⟩ (.slice (some ⟨g', 0, none⟩) (ss.length + 1) cap') = w4 := ⟨_, rfl⟩
  have hv4 : w4.heap[Bs]? = some (.cells #[.slice (some ⟨g', 0, none⟩) (ss.length + 1) cap'] 39 (0, 0)) := by rw [← hw4]; exact box_set _ HV3.out
  rw [hw4] at hg4 ⊢
  have hL4 := (hg4.block l (Array.getElem?_eq_some_iff.1 HL3.out).1 (fun e => HBL.out.1 (by cases e; rfl))).trans HL3.out
  have hK4 := (hg4.block D (Array.getElem?_eq_some_iff.1 HK3.out).1 (fun e => HBL.out.2.2 (by cases e; rfl))).trans HK3.out
  have hrow4 := HO3.out.kept hg4 (row_ne HO3.out HV3.out (fun cur e => by cases e))
  have hb4 : Below w0.heap.size w0 w4 := HB3.out.grown hg4 HB3.out.size (fun k e => by cases e; exact h0B)
  have hl4 : l < w4.heap.size := (Array.getElem?_eq_some_iff.1 hL4).1
  clear hw4
  refine ⟨_, _, run_endRound none hL4, rfl, ⟨⟨_, (World.putObj_heap_other HBL.out.1).trans hv4, ?_⟩, World.putObj_heap_same hl4, (World.putObj_heap_other HBL.out.2.1).trans hK4, hb4.grown (grown_put _ _ _) hb4.size (fun k e => by cases e; exact h0l)⟩⟩
  have := hrow4.kept (grown_put w4 l (.loop { { apRec fn sv Bs D .ready none with state := .busy } with state := if (none : Option Code).isNone then .ready else .done, pending := none })) (row_ne hrow4 hL4 (fun cur e => by cases e))
  rw [show chv (ss ++ [x]) = chv ss ++ [.int .i64 (x.1 : Int), .string x.2] by rw [chv_append]; rfl, List.length_append]
  exact this

set_option maxRecDepth 100000 in
set_option maxHeartbeats 2000000 in
/-- slices.AppendSeq(nil, slices.Values(s)). -/
theorem app_in (F : Fence) (n : Nat) (hf : F.fn 66) (hfa : F.fn 68) (hro : F.round = none) (hn : 2 ≤ n) (Bc : Nat) (A : Option Addr) (b off c : Nat) (L : List (Nat × ByteArray)) (w : World)
    (hbox : w.cell? ⟨Bc, 0, none⟩ = some (.slice A L.length c)) (hA : 0 < L.length → A = some ⟨b, off, none⟩)
    (hrd : ∀ (j : Nat) (h : j < L.length), w.cell? ⟨b, off + j * 2, none⟩ = some (.int .i64 (L[j].1 : Int)) ∧ w.cell? ⟨b, off + j * 2 + 1, none⟩ = some (.string L[j].2)) (hL : L.length ≤ 1048577) :
    CallsIn F n Try.prog 68 #[.slice none 0 0, .func (.func 66) #[] #[.pointer (some ⟨Bc, 0, none⟩)]] w fun e w' => ∃ v, e = .returned v ∧ w'.ownsRow w.heap.size 44 2 v L.length (chv L) ∧ Below w.heap.size w w' := by
  have h1 : 1 ≤ n := by omega
  have ev : ∀ args w, (callFunc 66 args).run Try.prog w = .ok (.enter 66 args) w := enters_of Try.func66 (by kernel_rfl) rfl
  refine callsIn_of_wp_marks Try.func68 rfl hfa ?_ hro
  simp only [Try.ntmps68, List.size_toArray, List.length_cons, List.length_nil, Nat.reduceAdd, Nat.reduceSub, Array.replicate_succ, Array.replicate_zero, List.push_toArray, List.append_toArray, List.nil_append, List.cons_append]
  have HBOX := Lib.hid hbox; have HRD := Lib.hid hrd; have HA := Lib.hid hA
  clear hbox hrd hA
  gi_wp2
  refine wpIn_rangeFunc ?_
  intro fn hfn
  rw [hro]
  obtain ⟨sv, hsv⟩ : ∃ sv : Value, sv = .func (.func 66) #[] #[.pointer (some ⟨Bc, 0, none⟩)] := ⟨_, rfl⟩
  obtain ⟨W0, hW0⟩ : ∃ W0, w.alloc (.cells #[.slice none 0 0] 39) = W0 := ⟨_, rfl⟩
  have hs0 : W0.heap.size = w.heap.size + 1 := by rw [← hW0]; simp
  have hv0 : W0.heap[w.heap.size]? = some (.cells #[.slice none 0 0] 39 (0, 0)) := by rw [← hW0]; exact blk_new w _
  have hb0 : Below w.heap.size w W0 := by rw [← hW0]; exact (Below.refl _ w).alloc (Nat.le_refl _) _
  rw [hW0]
  obtain ⟨W1, hW1⟩ : ∃ W1, (W0.alloc (.deferred (some []))).alloc (.loop (apRec fn (.func (.func 66) #[] #[.pointer (some ⟨Bc, 0, none⟩)]) w.heap.size W0.heap.size .ready none)) = W1 := ⟨_, rfl⟩
  have hold : ∀ k, k < W0.heap.size → W1.heap[k]? = W0.heap[k]? := fun k hk => by
    rw [← hW1]; exact (Below.heap_alloc _ _ k (by simp; omega)).trans (Below.heap_alloc _ _ k hk)
  have hb1 : Below w.heap.size w W1 := by rw [← hW1]; exact (hb0.alloc hb0.size _).alloc (by have := hb0.size; simp; omega) _
  have hs1 : W1.heap.size = W0.heap.size + 2 := by rw [← hW1]; simp
  have hM : ApAt w fn (.func (.func 66) #[] #[.pointer (some ⟨Bc, 0, none⟩)]) w.heap.size (W0.heap.size + 1) W0.heap.size [] W1 :=
    ⟨⟨_, (hold w.heap.size (by omega)).trans hv0, ⟨rfl, .inl ⟨rfl, rfl⟩⟩⟩,
     by rw [← hW1]; have := blk_new (W0.alloc (.deferred (some []))) (.loop (apRec fn (.func (.func 66) #[] #[.pointer (some ⟨Bc, 0, none⟩)]) w.heap.size W0.heap.size .ready none)); rwa [World.size_alloc] at this,
     by rw [← hW1]; exact (Below.heap_alloc _ _ _ (by simp)).trans (blk_new W0 _), hb1⟩
  refine ⟨W0.heap.size + 1, [{ target := .collected W0.heap.size, args := #[] }], W1, { target := .fn (.func 66) #[.pointer (some ⟨Bc, 0, none⟩)], args := #[.func (.yield (W0.heap.size + 1)) #[] #[]] }, W1, 66,
    #[.func (.yield (W0.heap.size + 1)) #[] #[]] ++ #[.pointer (some ⟨Bc, 0, none⟩)], W1, ?_, ?_, ?_, ?_, fun _ => h1, ?_⟩
  · rw [← hW1]; exact run_enterLoop_outer _ _ _ _ _
  · simp [resolve, go_sem]
  · intro f' hf'; simp [Target.leads] at hf'; subst hf'; exact hf
  · simp [invoke, go_sem, ev]
  · refine (vals_in F (n - 1) hf hro (by omega) (W0.heap.size + 1) Bc A b off c L
      (fun k W' => ApAt w fn (.func (.func 66) #[] #[.pointer (some ⟨Bc, 0, none⟩)]) w.heap.size (W0.heap.size + 1) W0.heap.size (L.take k) W') W1
      (cell_below hb1 HBOX.out) HA.out (fun k W' hJ j hj => ⟨cell_below hJ.below (HRD.out j hj).1, cell_below hJ.below (HRD.out j hj).2⟩) (fun k W' o hJ => apAt_alloc hJ o)
      (fun k W' hk hJ => by
        have := apYield F (n - 1 - 1) w fn hfn _ w.heap.size (W0.heap.size + 1) W0.heap.size (by omega) (by omega) (by omega) (Nat.le_refl _) (by omega) (L.take k) L[k] W' hJ (by rw [List.length_take]; omega)
        rw [List.take_succ_eq_append_getElem hk]
        exact this) (by rw [List.take_zero]; exact hM) hL).mono ?_
    rintro e W2 ⟨⟨v0, rfl⟩, h2⟩
    rw [List.take_length] at h2
    obtain ⟨v, hv, hrow⟩ := h2.box
    have hend := run_endLoop (P := Try.prog) h2.L (by simp [apRec])
    obtain ⟨W3, hW3⟩ : ∃ W3, W2.putObj (W0.heap.size + 1) (.loop { apRec fn (.func (.func 66) #[] #[.pointer (some ⟨Bc, 0, none⟩)]) w.heap.size W0.heap.size .ready none with state := .exhausted }) = W3 := ⟨_, rfl⟩
    rw [hW3] at hend
    have hg3 : W2.grownBy W3 (some (W0.heap.size + 1)) := by rw [← hW3]; exact grown_put _ _ _
    have hv3 : W3.heap[w.heap.size]? = some (.cells #[v] 39 (0, 0)) := by rw [← hW3]; exact (World.putObj_heap_other (by omega)).trans hv
    have hK3 : W3.heap[W0.heap.size]? = some (.deferred (some [])) := by rw [← hW3]; exact (World.putObj_heap_other (by omega)).trans h2.K
    have hrow3 := hrow.kept hg3 (row_ne hrow h2.L (fun cur e => by cases e))
    have hb3 : Below w.heap.size w W3 := h2.below.grown hg3 h2.below.size (fun k e => by cases e; omega)
    have c3 := blk_cell hv3 0
    simp only [List.getElem?_toArray, List.getElem?_cons_zero, List.getElem?_cons_succ] at c3
    rw [hs0] at hK3
    have HK3 := Lib.hid hK3; have HR3 := Lib.hid hrow3; have HB3 := Lib.hid hb3
    clear hW3 hv3 hK3 hrow3 hb3 hg3 hv hrow h2 hM hold hb0 hb1 hv0 hW1
    refine ⟨none, W3, hend, ?_⟩
    gi_wp2
    refine ⟨by simp, .inl ⟨_, _, rfl, run_takeDeferred HK3.out, ?_⟩⟩
    exact ⟨_, results_tmp rfl _ _ _, v, rfl, HR3.out.kept (grown_put _ _ _) (row_ne HR3.out HK3.out (fun cur e => by cases e)), HB3.out.grown (grown_put _ _ _) HB3.out.size (fun k e => by cases e; omega)⟩

set_option maxHeartbeats 1000000 in
/-- slices.Collect(slices.Values(s)). -/
theorem collect_any (Bc : Nat) (A : Option Addr) (b off c : Nat) (L : List (Nat × ByteArray)) (w : World)
    (hbox : w.cell? ⟨Bc, 0, none⟩ = some (.slice A L.length c)) (hA : 0 < L.length → A = some ⟨b, off, none⟩)
    (hrd : ∀ (j : Nat) (h : j < L.length), w.cell? ⟨b, off + j * 2, none⟩ = some (.int .i64 (L[j].1 : Int)) ∧ w.cell? ⟨b, off + j * 2 + 1, none⟩ = some (.string L[j].2)) (hL : L.length ≤ 1048577) :
    Calls Try.prog 64 #[.func (.func 66) #[] #[.pointer (some ⟨Bc, 0, none⟩)]] w fun e w' => ∃ v, e = .returned v ∧ w'.ownsRow w.heap.size 44 2 v L.length (chv L) ∧ Below w.heap.size w w' := by
  have AP := Lib.hid ((callsIn_wide (n := 3)).1 (app_in Fence.wide 3 trivial trivial rfl (by omega) Bc A b off c L w hbox hA hrd hL))
  clear hbox hA hrd
  go_enter Try.func64, Try.ntmps64
  go_wp2_with fail
  refine AP.out.mono ?_
  rintro e w1 ⟨v, rfl, ho, b1⟩
  have HO := Lib.hid ho; have B1 := Lib.hid b1
  clear ho b1
  go_wp2
  go_ret
  exact ⟨v, rfl, HO.out, B1.out⟩
end Go.Proofs.Ytpaabfadniakoaa
/- JnShelf: Go's SortFunc at this program: the shelf's laying, as its tool writes it. -/
namespace Go.Proofs
open Go.Shelf
def Try.sortCh_ren : Go.Shelf.Ren := ⟨fun | 6 => 65 | 15 => 70 | 14 => 69 | 28 => 79 | 29 => 80 | 20 => 71 | 21 => 72 | 22 => 73 | 23 => 74 | 24 => 75 | 25 => 76 | 26 => 77 | 27 => 78 | 46 => 81 | 47 => 82 | 48 => 83 | 49 => 84 | 50 => 85 | 57 => 86 | n => n, fun | 22 => 39 | 24 => 44 | 25 => 89 | 3 => 3 | 39 => 115 | 0 => 0 | 53 => 125 | 55 => 127 | 4 => 4 | 46 => 118 | 45 => 117 | 50 => 122 | 5 => 5 | 9 => 9 | 66 => 128 | 70 => 132 | 76 => 134 | 77 => 135 | n => n, fun | n => n⟩
theorem Try.sortCh : Go.Proofs.SlLaysF0.n6 Try.prog Try.sortCh_ren := {
  mixed := by kernel_rfl
  f6 := ⟨Try.f65.name, by decide, Try.func65.trans (congrArg some (by kernel_rfl))⟩
  f14 := ⟨Try.f69.name, by decide, Try.func69.trans (congrArg some (by kernel_rfl))⟩
  f15 := Try.func70.trans (congrArg some (by kernel_rfl))
  f20 := ⟨Try.f71.name, by decide, Try.func71.trans (congrArg some (by kernel_rfl))⟩
  f21 := ⟨Try.f72.name, by decide, Try.func72.trans (congrArg some (by kernel_rfl))⟩
  f22 := ⟨Try.f73.name, by decide, Try.func73.trans (congrArg some (by kernel_rfl))⟩
  f23 := ⟨Try.f74.name, by decide, Try.func74.trans (congrArg some (by kernel_rfl))⟩
  f24 := ⟨Try.f75.name, by decide, Try.func75.trans (congrArg some (by kernel_rfl))⟩
  f25 := ⟨Try.f76.name, by decide, Try.func76.trans (congrArg some (by kernel_rfl))⟩
  f26 := ⟨Try.f77.name, by decide, Try.func77.trans (congrArg some (by kernel_rfl))⟩
  f27 := ⟨Try.f78.name, by decide, Try.func78.trans (congrArg some (by kernel_rfl))⟩
  f28 := Try.func79.trans (congrArg some (by kernel_rfl))
  f29 := Try.func80.trans (congrArg some (by kernel_rfl))
  f46 := ⟨Try.f81.name, by decide, Try.func81.trans (congrArg some (by kernel_rfl))⟩
  f47 := Try.func82.trans (congrArg some (by kernel_rfl))
  f48 := Try.func83.trans (congrArg some (by kernel_rfl))
  f49 := ⟨Try.f84.name, by decide, Try.func84.trans (congrArg some (by kernel_rfl))⟩
  f50 := ⟨Try.f85.name, by decide, Try.func85.trans (congrArg some (by kernel_rfl))⟩
  f57 := ⟨Try.f86.name, by decide, Try.func86.trans (congrArg some (by kernel_rfl))⟩
  t0 := Try.underlying0
  a0 := Try.isAgg0
  z0 := Try.sizeOf0
  v0 := Try.zeroValue0
  t3 := Try.underlying3
  a3 := Try.isAgg3
  z3 := Try.sizeOf3
  v3 := Try.zeroValue3
  t4 := Try.underlying4
  a4 := Try.isAgg4
  z4 := Try.sizeOf4
  v4 := Try.zeroValue4
  t5 := Try.underlying5
  a5 := Try.isAgg5
  z5 := Try.sizeOf5
  v5 := Try.zeroValue5
  t9 := Try.underlying9
  a9 := Try.isAgg9
  z9 := Try.sizeOf9
  v9 := Try.zeroValue9
  t22 := Try.underlying39
  a22 := Try.isAgg39
  z22 := Try.sizeOf39
  v22 := Try.zeroValue39
  t25 := Try.underlying89
  a25 := Try.isAgg89
  z25 := Try.sizeOf89
  v25 := Try.zeroValue89
  t39 := Try.underlying115
  a39 := Try.isAgg115
  z39 := Try.sizeOf115
  v39 := Try.zeroValue115
  t45 := Try.underlying117
  a45 := Try.isAgg117
  z45 := Try.sizeOf117
  v45 := Try.zeroValue117
  t46 := Try.underlying118
  a46 := Try.isAgg118
  z46 := Try.sizeOf118
  v46 := Try.zeroValue118
  t50 := Try.underlying122
  a50 := Try.isAgg122
  z50 := Try.sizeOf122
  v50 := Try.zeroValue122
  t53 := Try.underlying125
  a53 := Try.isAgg125
  z53 := Try.sizeOf125
  v53 := Try.zeroValue125
  t55 := Try.underlying127
  a55 := Try.isAgg127
  z55 := Try.sizeOf127
  v55 := Try.zeroValue127
  t66 := Try.underlying128
  a66 := Try.isAgg128
  z66 := Try.sizeOf128
  v66 := Try.zeroValue128
  t70 := Try.underlying132
  a70 := Try.isAgg132
  z70 := Try.sizeOf132
  v70 := Try.zeroValue132
  t76 := Try.underlying134
  a76 := Try.isAgg134
  z76 := Try.sizeOf134
  v76 := Try.zeroValue134
  t77 := Try.underlying135
  a77 := Try.isAgg135
  z77 := Try.sizeOf135
  v77 := Try.zeroValue135 }
end Go.Proofs
/- Sort: slices.SortedFunc of slices.Values at strongroom/journal.Change. (written by gen_sort.py) -/
set_option linter.unusedVariables false
set_option linter.unusedSimpArgs false
namespace Go.Proofs.Ytpaabfadniakoaa
open Go.RowKit

open Go.Shelf Go.Lib Go.Sort in
theorem flat (d : Array BCh) : (flatK encCh 2 d).toList = chv (d.toList.map (·.1)) := by
  apply List.ext_getElem?
  intro t
  by_cases ht : t < d.size * 2
  · have h1 : (flatK encCh 2 d).toList[t]? = some (encCh d[t / 2]!)[t % 2]! := by
      rw [Array.getElem?_toList, Array.getElem?_eq_getElem (by rw [size_flatK]; exact ht), ← get_flatK encCh 2 d t ht, getElem!_pos _ t (by rw [size_flatK]; exact ht)]
    rw [h1]
    have hj : t / 2 < (d.toList.map (·.1)).length := by simp; omega
    obtain ⟨g1, g2⟩ := chv_get (d.toList.map (·.1)) (t / 2) hj
    have e : (d.toList.map (·.1))[t / 2] = d[t / 2]!.1 := by
      rw [List.getElem_map, Array.getElem_toList, getElem!_pos d (t / 2) (by omega)]
    rw [e] at g1 g2
    rcases Nat.mod_two_eq_zero_or_one t with h | h
    · rw [show t / 2 * 2 = t by omega] at g1
      rw [g1, h]
      rfl
    · rw [show t / 2 * 2 + 1 = t by omega] at g2
      rw [g2, h]
      rfl
  · rw [List.getElem?_eq_none (by simp; omega), List.getElem?_eq_none (by rw [chv_length]; simp; omega)]

open Go.Shelf Go.Lib Go.Sort in
theorem take_put (cur F : Array Value) (h : F.size ≤ cur.size) : (putCells id 0 F cur).toList.take F.size = F.toList := by
  apply List.ext_getElem?
  intro j
  by_cases hj : j < F.size
  · rw [List.getElem?_take_of_lt hj, Array.getElem?_toList, Array.getElem?_toList]
    have h2 : j < cur.size := by omega
    simp [putCells, hj, h2]
  · rw [List.getElem?_take_eq_none (by omega), List.getElem?_eq_none (by simpa using hj)]

open Go.Shelf Go.Lib Go.Sort in
theorem heap_put {w : World} {g n : Nat} {os : Array Obj} {cur : Array Value} {e : TypeId} {fr : Nat × Nat} (F : Array Value) (hb : w.heap[g]? = some (.cells cur e fr)) :
    (grow (putRow id (Sort.ahead w n) g 0 F) os).heap[g]? = some (.cells (putCells id 0 F cur) e fr) := by
  have hg : g < w.heap.size := (Array.getElem?_eq_some_iff.1 hb).1
  rw [heap_grow_old _ _ (by simpa using hg)]
  simp [putRow, mapBlock, Sort.ahead, Array.getElem?_modify, hb, onCells]

open Go.Shelf Go.Lib Go.Sort in
theorem grown_put' {w : World} {g n : Nat} {os : Array Obj} (F : Array Value) : w.grownBy (grow (putRow id (Sort.ahead w n) g 0 F) os) (some g) := by
  refine ⟨rfl, rfl, rfl, by simp, fun k hk hne => ?_⟩
  rw [heap_grow_old _ _ (by simpa using hk)]
  have : g ≠ k := fun e => hne (by rw [e])
  simp [putRow, mapBlock, Sort.ahead, Array.getElem?_modify, this]

/-- In order of their places. -/
def Ord (M : List (Nat × ByteArray)) : Prop := M.Pairwise (fun x y => x.1 ≤ y.1)

open Go.Shelf Go.Lib Go.Sort in
set_option maxHeartbeats 1600000 in
theorem sort_any (w : World) (base : Nat) (v : Value) (L : List (Nat × ByteArray)) (h : w.ownsRow base 44 2 v L.length (chv L)) (hL : L.length ≤ 1048577) (hb : ∀ x ∈ L, x.1 ≤ 128) :
    Calls Try.prog 65 #[v, .func (.func 48) #[] #[]] w fun e w' => e = .returned (.tuple #[]) ∧ ∃ M : List (Nat × ByteArray), M.Perm L ∧ Ord M ∧ w'.ownsRow base 44 2 v M.length (chv M) ∧ w.grownBy w' v.ownBlock := by
  rcases h.2 with ⟨rfl, h0⟩ | ⟨g, cap, cur, rfl, hbase, hblk, h1, h2, h3, h4⟩
  · obtain rfl : L = [] := List.eq_nil_of_length_eq_zero h0
    have hn := AnyF.slices_SortFunc_none Try.sortCh none 0 (.func (.func 48) #[] #[]) w
    refine hn.mono ?_
    rintro e w' ⟨rfl, rfl⟩
    exact ⟨rfl, [], List.Perm.refl _, List.Pairwise.nil, h, ⟨rfl, rfl, rfl, Nat.le_refl _, fun k _ _ => rfl⟩⟩
  · obtain ⟨d, hd⟩ : ∃ d : Array BCh, d = (L.pmap (fun x hx => (⟨x, hx⟩ : BCh)) hb).toArray := ⟨_, rfl⟩
    have hdl : d.toList.map (·.1) = L := by
      rw [hd]
      show (L.pmap (fun x hx => (⟨x, hx⟩ : BCh)) hb).map (·.1) = L
      rw [List.map_pmap]
      exact (List.pmap_eq_map (f := fun x : Nat × ByteArray => x) hb).trans (List.map_id _)
    have hds : d.size = L.length := by rw [← hdl]; simp
    have hfl := flat d
    rw [hdl] at hfl
    have hcs : L.length * 2 ≤ cur.size := by rw [h3]; exact Nat.mul_le_mul_right 2 h1
    have hH : HoldsK encCh 2 w g 0 d := by
      intro t ht
      rw [size_flatK] at ht
      refine ⟨?_, by simp [World.frozen?, hblk]⟩
      have e1 : (cur.toList.take (L.length * 2))[t]? = (flatK encCh 2 d).toList[t]? := by rw [h4, hfl]
      rw [List.getElem?_take_of_lt (by omega), Array.getElem?_toList, Array.getElem?_toList] at e1
      rw [Nat.zero_add, blk_cell hblk, e1, Array.getElem?_eq_getElem (by rw [size_flatK]; exact ht), getElem!_pos _ t (by rw [size_flatK]; exact ht)]
      rfl
    have ec : ∀ args w, (callFunc 48 args).run Try.prog w = .ok (.enter 48 args) w := enters_of Try.func48 (by kernel_rfl) rfl
    have hcon := AnyQ.slices_SortFunc Try.sortCh 2 Try.isAgg44 Try.sizeOf44 encCh (fun _ => rfl) (fun x v hv => by simp [encCh] at hv; rcases hv with rfl | rfl <;> rfl) cfCh swoCh 48 #[] g 0 cap d w ec (cmpCh_lays g 0 d.size w) hH (lt_of_block hblk) (by omega)
    rw [hds] at hcon
    refine hcon.mono ?_
    rintro e w' ⟨rfl, d', n, os, hp, hs, rfl⟩
    obtain ⟨p1, _, p3⟩ := hp
    have full : ∀ a : Array BCh, a.size = L.length → (a.extract 0 L.length).toList = a.toList := fun a ha => by rw [← ha]; simp
    rw [full d' (by omega), full d hds] at p3
    have pm : (d'.toList.map (·.1)).Perm L := by rw [← hdl]; exact p3.map _
    have hfl' := flat d'
    have hl' : (d'.toList.map (·.1)).length = L.length := pm.length_eq
    refine ⟨rfl, d'.toList.map (·.1), pm, ?_, ?_, by have := grown_put' (w := w) (g := g) (n := n) (os := os) (flatK encCh 2 d'); exact this⟩
    · refine List.pairwise_iff_getElem.2 (fun i j hi hj hij => ?_)
      have hi' : i < d'.size := by simpa using hi
      have hj' : j < d'.size := by simpa using hj
      have := hs i j (Nat.zero_le _) hij (by omega)
      rw [ltCh] at this
      rw [List.getElem_map, List.getElem_map, Array.getElem_toList, Array.getElem_toList]
      rw [getElem!_pos d' i hi', getElem!_pos d' j hj'] at this
      simp at this
      exact this
    · have hz : (flatK encCh 2 d').size = L.length * 2 := by rw [size_flatK]; omega
      refine ⟨by rw [chv_length], .inr ⟨g, cap, _, by rw [hl'], hbase, heap_put (flatK encCh 2 d') hblk, by omega, h2, by rw [← h3]; simp [putCells], ?_⟩⟩
      have tp := take_put cur (flatK encCh 2 d') (by omega)
      rw [hz] at tp
      rw [hl', tp, hfl']

set_option maxHeartbeats 1600000 in
/-- slices.SortedFunc(slices.Values(s), ..). -/
theorem sorted_any (Bc : Nat) (A : Option Addr) (b off c : Nat) (L : List (Nat × ByteArray)) (w : World)
    (hbox : w.cell? ⟨Bc, 0, none⟩ = some (.slice A L.length c)) (hA : 0 < L.length → A = some ⟨b, off, none⟩)
    (hrd : ∀ (j : Nat) (h : j < L.length), w.cell? ⟨b, off + j * 2, none⟩ = some (.int .i64 (L[j].1 : Int)) ∧ w.cell? ⟨b, off + j * 2 + 1, none⟩ = some (.string L[j].2)) (hL : L.length ≤ 1048577) (hb : ∀ x ∈ L, x.1 ≤ 128) :
    Calls Try.prog 46 #[.func (.func 66) #[] #[.pointer (some ⟨Bc, 0, none⟩)], .func (.func 48) #[] #[]] w fun e w' => ∃ v M, e = .returned v ∧ M.Perm L ∧ Ord M ∧ w'.ownsRow w.heap.size 44 2 v M.length (chv M) ∧ Below w.heap.size w w' := by
  have CO := Lib.hid (collect_any Bc A b off c L w hbox hA hrd hL)
  have HB := Lib.hid hb
  clear hbox hA hrd hb
  go_enter Try.func46, Try.ntmps46
  go_wp2_with fail
  refine CO.out.mono ?_
  rintro e w1 ⟨v, rfl, ho, b1⟩
  have SO := Lib.hid (sort_any w1 w.heap.size v L ho hL HB.out)
  have B1 := Lib.hid b1
  have HO := Lib.hid ho
  clear ho b1 CO
  go_wp2_with fail
  refine SO.out.mono ?_
  rintro e w2 ⟨rfl, M, pm, om, ho2, hg⟩
  have HO2 := Lib.hid ho2
  have PM := Lib.hid pm; have OM := Lib.hid om
  have B2 : Hid (Below w.heap.size w w2) := B1.out.grown hg B1.out.size (fun k e => (HO.out.lt k e).1)
  clear ho2 pm om hg SO
  go_wp2
  go_ret
  exact ⟨v, M, rfl, PM.out, OM.out, HO2.out, B2.out⟩
end Go.Proofs.Ytpaabfadniakoaa
