/- JnJ: the walk of told and of its iterator. -/
import Derived.Test.YtoolkamajlgcbaaMr07
import Derived.RangeFuncGives
import Derived.RangeFuncNested
import Derived.RangeFuncLeaves
import Derived.RangeFuncIn
import Derived.RangeFuncBox
import Derived.Maps.AppendAt
import Derived.Shelf.Abstract
import Derived.OwnWalkIn
import Derived.TacticsInMore
import Derived.LoopNIn
import Derived.LoopIn
set_option linter.unusedVariables false
set_option linter.unusedSimpArgs false
namespace Go.Proofs.Ytoolkamajlgcbaa
open Go.RowKit Go.Shelf

theorem told_make (w : World) (m : ByteArray) : Calls Try.prog 66 #[.string m] w fun e w' => ∃ Bc, e = .returned (.func (.func 79) #[] #[.pointer (some ⟨Bc, 0, none⟩)]) ∧ w'.cell? ⟨Bc, 0, none⟩ = some (.string m) ∧ w.heap.size ≤ Bc ∧ Bc < w'.heap.size ∧ Below w.heap.size w w' := by
  go_enter Try.func66, Try.ntmps66
  go_wp2
  go_ret
  exact ⟨w.heap.size, rfl, by simp, Nat.le_refl _, by simp, (Below.refl _ w).alloc (Nat.le_refl _) _⟩
theorem and_u8 (x : Nat) : bits .and .u8 (x : Int) 1 = ((x % 2 : Nat) : Int) := by
  show IntKind.u8.wrap (((BitVec.ofInt 8 (x : Int) &&& BitVec.ofInt 8 1).toNat : Nat) : Int) = _
  rw [BitVec.ofInt_natCast, IntKind.wrap_u8, BitVec.toNat_and, BitVec.toNat_ofNat, show (BitVec.ofInt 8 1).toNat = 1 from rfl, Nat.and_one_is_mod]
  omega
theorem told_bit {m : ByteArray} {k : Nat} (h : k / 8 < m.size) : bits .and .u8 ((m[k / 8].toNat : Int) / 2 ^ (k % 8)) 1 = if told m k = true then 1 else 0 := by
  have e : ((m[k / 8].toNat : Int) / 2 ^ (k % 8)) = ((m[k / 8].toNat / 2 ^ (k % 8) : Nat) : Int) := by simp
  have e2 : m.data.toList.getD (k / 8) 0 = m[k / 8] := by
    rw [List.getD_eq_getElem?_getD, Array.getElem?_toList, Array.getElem?_eq_getElem (by exact h)]
    rfl
  rw [e, and_u8]
  unfold told
  rw [e2]
  have := Nat.mod_two_eq_zero_or_one (m[k / 8].toNat / 2 ^ (k % 8))
  rcases this with h | h <;> rw [h] <;> rfl
set_option maxHeartbeats 1600000 in
set_option maxRecDepth 100000 in
/-- The iterator: whatever the caller keeps between its rounds; a round that says 'no more' ends it. -/
theorem told_in (F : Fence) (n : Nat) (hf : F.fn 79) (hro : F.round = none) (hn : 1 ≤ n) (l Bc : Nat) (m : ByteArray) (hm : m.size = 256) (J : Nat → World → Prop) (X : World → Prop) (W : World)
    (hbox : ∀ k W', J k W' → W'.cell? ⟨Bc, 0, none⟩ = some (.string m))
    (hno : ∀ k W', k < 128 → told m k = false → J k W' → J (k + 1) W')
    (hY : ∀ k W', k < 128 → told m k = true → J k W' → YieldAt F (n - 1) Try.prog l #[.int .i64 (k : Int)] W' fun e W'' => (e = .returned (.bool true) ∧ J (k + 1) W'') ∨ (e = .returned (.bool false) ∧ X W''))
    (h0 : J 0 W) :
    CallsIn F n Try.prog 79 #[.func (.yield l) #[] #[], .pointer (some ⟨Bc, 0, none⟩)] W fun e W' => (∃ v, e = .returned v) ∧ (J 128 W' ∨ X W') := by
  have HBX := Lib.hid hbox; have HNO := Lib.hid hno; have HY := Lib.hid hY; have H0 := Lib.hid h0; have HM := Lib.hid hm
  clear hbox hno hY h0 hm
  refine callsIn_of_wp Try.func79 rfl hf ?_ hro
  simp only [Try.ntmps79, List.size_toArray, List.length_cons, List.length_nil, Nat.reduceAdd, Nat.reduceSub, Array.replicate_succ, Array.replicate_zero, List.push_toArray, List.append_toArray, List.nil_append, List.cons_append]
  gi_wp2
  gi_loopw [4] (fun i wr => ∃ k : Nat, k ≤ 128 ∧ i = .int .i64 k ∧ Hid (J k wr)) (fun i _ => 128 - (intOf i).toNat)
  case atStart => exact ⟨0, by decide, rfl, H0⟩
  case round =>
    obtain ⟨k, hk, rfl, hJ⟩ := hrel
    by_cases hlt : k < 128
    · have bx := HBX.out k wr hJ.out
      have hkm : k / 8 < m.size := by have := HM.out; omega
      have hkm2 : (k : Int) / 8 < (m.size : Int) := by omega
      have TB := told_bit hkm
      cases ht : told m k with
      | true =>
        rw [ht, if_pos rfl] at TB
        obtain ⟨fn, tmps, assign, body, hy, hR⟩ := HY.out k wr hlt ht hJ.out
        clear ht
        gi_wp2
        refine hR.mono ?_
        rintro e W3 (⟨rfl, hJ3⟩ | ⟨rfl, hX⟩)
        · have HJ3 := Lib.hid hJ3
          clear hJ3
          gi_wp2
          go_roundw
          case rel => exact ⟨k + 1, hlt, by go_num, HJ3⟩
          case measure => simp [intOf]; omega
        · gi_wp2
          refine bodyPost_ret (results_none rfl _ _ _) rfl ?_
          exact ⟨⟨_, rfl⟩, .inr hX⟩
      | false =>
        rw [ht, if_neg (by decide)] at TB
        have HJ3 := Lib.hid (HNO.out k wr hlt ht hJ.out)
        clear ht
        gi_wp2
        refine ⟨fun f hf => (by cases hf), ?_⟩
        gi_wp2
        go_roundw
        case rel => exact ⟨k + 1, hlt, by go_num, HJ3⟩
        case measure => simp [intOf]; omega
    · obtain rfl : k = 128 := by omega
      gi_wp2
      go_end0
      exact ⟨⟨_, rfl⟩, .inl hJ.out⟩
end Go.Proofs.Ytoolkamajlgcbaa
/- JnK: a range over told: the rounds between which whatever holds, and a return. -/
set_option linter.unusedVariables false
set_option linter.unusedSimpArgs false
namespace Go.Proofs.Ytoolkamajlgcbaa
open Go.RowKit Go.Shelf

/-- How a round's body is left. -/
def tpost (B : Nat) (J X : World → Prop) (W : World) : Exit → Act → World → Prop
  | .normal, _, W' => (W'.heap[B]? = W.heap[B]? ∧ W'.heap[B + 1]? = W.heap[B + 1]?) ∧ J W'
  | .ret, _, W' => (W'.heap[B]? = W.heap[B]? ∧ W'.heap[B + 1]? = W.heap[B + 1]?) ∧ X W'
  | _, _, _ => False
theorem range_told {w : World} {a : Act} {g : Operand} {ps : Array Tmp} {assign body : Code} {Q : Exit → Act → World → Prop} (Bc : Nat) (m : ByteArray) (hm : m.size = 256)
    (hg : a.eval g = .func (.func 79) #[] #[.pointer (some ⟨Bc, 0, none⟩)]) (hps : ps.size = 1) (J : Nat → World → Prop) (X : World → Prop)
    (hbox : ∀ k W, J k W → W.cell? ⟨Bc, 0, none⟩ = some (.string m)) (hno : ∀ k W, k < 128 → told m k = false → J k W → J (k + 1) W)
    (hput : ∀ k W l o, w.heap.size ≤ l → l < w.heap.size + 2 → J k W → J k (W.putObj l o)) (hputX : ∀ W l o, w.heap.size ≤ l → l < w.heap.size + 2 → X W → X (W.putObj l o))
    (h0 : ∀ o1 o2, J 0 ((w.alloc o1).alloc o2))
    (hround : ∀ (l k : Nat) (W W2 : World), k < 128 → told m k = true → J k W2 → w.heap.size + 2 ≤ W2.heap.size →
      assign.wpIn (Fence.wide.inRound l) 1 Try.prog (Exit.then (fun a₁ w₁ => w₁ = W ∧ body.wpIn (Fence.wide.inRound l) 1 Try.prog (tpost w.heap.size (J (k + 1)) X W2) a₁ W2) (fun _ _ _ => False)) { tmps := (ps.zip #[.int .i64 (k : Int)]).foldl (fun t (p, v) => t.setIfInBounds p v) a.tmps, defers := [] } W)
    (hdone : ∀ W, J 128 W → W.heap[w.heap.size]? = some (.deferred (some [])) → w.heap.size + 2 ≤ W.heap.size → Q .normal { a with defers := { target := .collected w.heap.size, args := #[] } :: a.defers } W)
    (hstop : ∀ W, X W → W.heap[w.heap.size]? = some (.deferred (some [])) → Q .ret { a with defers := { target := .collected w.heap.size, args := #[] } :: a.defers } W) :
    (Code.rangeFunc g ps assign body).wpIn Fence.wide 3 Try.prog Q a w := by
  have ev : ∀ args w, (callFunc 79 args).run Try.prog w = .ok (.enter 79 args) w := enters_of Try.func79 (by kernel_rfl) rfl
  refine wpIn_rangeFunc ?_
  intro fn hfn
  obtain ⟨rec, hrec⟩ : ∃ rec : LoopState → Option Code → Loop, rec = fun st pe => { state := st, pending := pe, fn, tmps := a.tmps, params := ps, assign, body, defers := w.heap.size } := ⟨_, rfl⟩
  obtain ⟨W1, hW1⟩ : ∃ W1, (w.alloc (.deferred (some []))).alloc (.loop (rec .ready none)) = W1 := ⟨_, rfl⟩
  have hL1 : W1.heap[w.heap.size + 1]? = some (.loop (rec .ready none)) := by
    rw [← hW1]; have := World.alloc_heap_new (w.alloc (.deferred (some []))) (.loop (rec .ready none)); rwa [World.size_alloc] at this
  have hK1 : W1.heap[w.heap.size]? = some (.deferred (some [])) := by
    rw [← hW1]; exact (Below.heap_alloc _ _ _ (by simp)).trans (World.alloc_heap_new w _)
  have hJ1 : J 0 W1 := by rw [← hW1]; exact h0 _ _
  refine ⟨w.heap.size + 1, [{ target := .collected w.heap.size, args := #[] }], W1, { target := .fn (.func 79) #[.pointer (some ⟨Bc, 0, none⟩)], args := #[.func (.yield (w.heap.size + 1)) #[] #[]] }, W1, 79,
    #[.func (.yield (w.heap.size + 1)) #[] #[]] ++ #[.pointer (some ⟨Bc, 0, none⟩)], W1, ?_, ?_, ?_, ?_, fun _ => by decide, ?_⟩
  · rw [← hW1, hrec]; exact run_enterLoop_outer _ _ _ _ _
  · simp only [resolve, hg]
    simp [go_sem]
  · intro f' hf'; trivial
  · simp [invoke, go_sem, ev]
  · refine (told_in Fence.wide 2 trivial rfl (by decide) (w.heap.size + 1) Bc m hm
      (fun k W => J k W ∧ W.heap[w.heap.size + 1]? = some (.loop (rec .ready none)) ∧ W.heap[w.heap.size]? = some (.deferred (some [])))
      (fun W => X W ∧ W.heap[w.heap.size + 1]? = some (.loop (rec .done (some .ret))) ∧ W.heap[w.heap.size]? = some (.deferred (some [])))
      W1 (fun k W h => hbox k W h.1) (fun k W hk ht h => ⟨hno k W hk ht h.1, h.2⟩) ?_ ⟨hJ1, hL1, hK1⟩).mono ?_
    · intro k W hk ht ⟨hJ, hL, hK⟩
      have hlt : w.heap.size + 1 < W.heap.size := (Array.getElem?_eq_some_iff.1 hL).1
      refine ⟨fn, (ps.zip #[.int .i64 (k : Int)]).foldl (fun t (p, v) => t.setIfInBounds p v) a.tmps, assign, body, ?_, roundIn_of_wpIn trivial ?_⟩
      · have := run_yield (P := Try.prog) (args := #[.int .i64 (k : Int)]) hL (by rw [hrec]; simp [hps])
        rw [hrec] at this
        exact this
      · refine wpIn_mono (hround (w.heap.size + 1) k W (W.putObj (w.heap.size + 1) (.loop (rec .busy none))) hk ht (hput _ _ _ _ (by omega) (by omega) hJ) (by simp; omega)) ?_
        intro e0 a₁ w₁ hq0
        cases e0 with
        | normal =>
          obtain ⟨rfl, hb⟩ := hq0
          refine ⟨w₁.putObj (w.heap.size + 1) (.loop (rec .busy none)), ?_, ?_⟩
          · have := run_beginRound (P := Try.prog) hL (by rw [hrec])
            rw [this, hrec]
          · refine wpIn_mono hb ?_
            intro e a' W' hq
            have hl0 : (w₁.putObj (w.heap.size + 1) (.loop (rec .busy none))).heap[w.heap.size + 1]? = some (.loop (rec .busy none)) := World.putObj_heap_same hlt
            have hk0 : (w₁.putObj (w.heap.size + 1) (.loop (rec .busy none))).heap[w.heap.size]? = some (.deferred (some [])) := (World.putObj_heap_other (by omega)).trans hK
            cases e with
            | normal =>
              obtain ⟨⟨h1, h2⟩, hJ'⟩ := hq
              rw [hk0] at h1; rw [hl0] at h2
              refine ⟨_, _, run_endRound none h2, .inl ⟨rfl, hput _ _ _ _ (by omega) (by omega) hJ', ?_, (World.putObj_heap_other (by omega)).trans h1⟩⟩
              have := World.putObj_heap_same (o := .loop { rec .busy none with state := if (none : Option Code).isNone then .ready else .done, pending := none }) (Array.getElem?_eq_some_iff.1 h2).1
              rw [this, hrec]
              rfl
            | ret =>
              obtain ⟨⟨h1, h2⟩, hX'⟩ := hq
              rw [hk0] at h1; rw [hl0] at h2
              refine ⟨_, _, run_endRound (some .ret) h2, .inr ⟨rfl, hputX _ _ _ (by omega) (by omega) hX', ?_, (World.putObj_heap_other (by omega)).trans h1⟩⟩
              have := World.putObj_heap_same (o := .loop { rec .busy none with state := if (some Code.ret).isNone then .ready else .done, pending := some .ret }) (Array.getElem?_eq_some_iff.1 h2).1
              rw [this, hrec]
              rfl
            | _ => exact hq.elim
        | _ => exact hq0.elim
    · rintro e W2 ⟨⟨v0, rfl⟩, h | h⟩
      · obtain ⟨hJ, hL, hK⟩ := h
        have hend := run_endLoop (P := Try.prog) hL (by rw [hrec]; simp)
        rw [show (rec .ready none).pending = none by rw [hrec]] at hend
        exact ⟨none, _, hend, hdone _ (hput _ _ (w.heap.size + 1) _ (by omega) (by omega) hJ) ((World.putObj_heap_other (by omega)).trans hK) (by simp; have := (Array.getElem?_eq_some_iff.1 hL).1; omega)⟩
      · obtain ⟨hX, hL, hK⟩ := h
        have hend := run_endLoop (P := Try.prog) hL (by rw [hrec]; simp)
        rw [show (rec .done (some .ret)).pending = some .ret by rw [hrec]] at hend
        exact ⟨some .ret, _, hend, wpIn_ret (hstop _ (hputX _ (w.heap.size + 1) _ (by omega) (by omega) hX) ((World.putObj_heap_other (by omega)).trans hK))⟩
end Go.Proofs.Ytoolkamajlgcbaa
/- JnL: what Open does, in plain words. -/
set_option linter.unusedVariables false
set_option linter.unusedSimpArgs false
namespace Go.Proofs.Ytoolkamajlgcbaa
open Go.RowKit

theorem look_skip (i : Int) : ∀ (l : List Stp) (s : ByteArray), (∀ x ∈ l, x.1 ≠ i) → Dk.look i l s = s
  | [], s, _ => rfl
  | x :: l, s, h => by
    rw [Dk.look, if_neg (fun e => h x (List.mem_cons_self ..) e)]
    exact look_skip i l s (fun y hy => h y (List.mem_cons_of_mem _ hy))
theorem look_append (i : Int) : ∀ (a b : List Stp) (s : ByteArray), Dk.look i (a ++ b) s = Dk.look i b (Dk.look i a s)
  | [], b, s => rfl
  | x :: a, b, s => by rw [List.cons_append, Dk.look, Dk.look, look_append i a b]
/-- Writes that go through. -/
theorem run_writes {d : Dk} (hok : d.Ok) {l : List Stp} (hc : ∀ x ∈ l, Can d.l.length x) (h0 : ∀ x ∈ l, 0 ≤ x.1) (hr : (run d l).2 = 0) : (run d l).1.l = d.l ∧ (run d l).1.waits = d.waits ++ l := by
  obtain ⟨k, hk, he, _, h⟩ := run_shape l hok hc
  rcases h with ⟨_, rfl⟩ | ⟨h, _⟩
  · rw [List.take_length, exs_writes _ _ _ h0] at he
    injection he with h1 h2
    exact ⟨h1, h2⟩
  · rw [hr] at h; exact absurd h (by decide)
theorem read_keep {d : Dk} (hok : d.Ok) {l : List Stp} (hc : ∀ x ∈ l, Can d.l.length x) (h0 : ∀ x ∈ l, 0 ≤ x.1) (hr : (run d l).2 = 0) (hd0 : d.down = false) (hd : (run d l).1.down = false) (i : Int) (hi : ∀ x ∈ l, x.1 ≠ i) : (run d l).1.read i = d.read i := by
  obtain ⟨h1, h2⟩ := run_writes hok hc h0 hr
  have hu : (run d l).1.use i = d.use i := by unfold Dk.use; rw [hd0, hd, h1]
  unfold Dk.read
  rw [hu, h1, h2, look_append, look_skip i l _ hi]
theorem rdK_keep {d D : Dk} {p : Int} : ∀ n : Nat, (∀ i : Nat, i < n → D.read (p + (i : Nat)) = d.read (p + (i : Nat))) → rdK D p n = rdK d p n
  | 0, _ => rfl
  | n + 1, h => by rw [rdK, rdK, rdK_keep n (fun i hi => h i (by omega)), h n (by omega)]
theorem page_keep {d : Dk} (hok : d.Ok) {l : List Stp} (hc : ∀ x ∈ l, Can d.l.length x) (hr : (run d l).2 = 0) (hd0 : d.down = false) (hd : (run d l).1.down = false) (q : Nat) (hq : ∀ x ∈ l, (q : Int) + 4 ≤ x.1) : pageB (run d l).1 (q : Int) = pageB d (q : Int) := by
  unfold pageB
  rw [rdK_keep 4 (fun i hi => read_keep hok hc (fun x hx => by have := hq x hx; omega) hr hd0 hd _ (fun x hx => by have := hq x hx; omega))]
/-- The pages that a mark tells, of the first k. -/
def opL (P : Nat) (m : ByteArray) (k : Nat) : List Nat := (List.range k).filter (fun i => decide (i < P) && told m i)
def opk (P : Nat) (d : Dk) (m : ByteArray) (k : Nat) : List Stp := (opL P m k).flatMap (fun i => laid ((1 + 4 * (P + i) : Nat) : Int) (pageB d ((1 + 4 * i : Nat) : Int)))
theorem opL_yes {P : Nat} {m : ByteArray} {k : Nat} (h : told m k = true) (hk : k < P) : opL P m (k + 1) = opL P m k ++ [k] := by
  unfold opL
  rw [List.range_succ, List.filter_append]
  simp [h, hk]
theorem opL_no {P : Nat} {m : ByteArray} {k : Nat} (h : told m k = false ∨ P ≤ k) : opL P m (k + 1) = opL P m k := by
  unfold opL
  rw [List.range_succ, List.filter_append]
  rcases h with h | h
  · simp [h]
  · have : ¬ k < P := by omega
    simp [this]
theorem opk_yes {P : Nat} {d : Dk} {m : ByteArray} {k : Nat} (h : told m k = true) (hk : k < P) : opk P d m (k + 1) = opk P d m k ++ laid ((1 + 4 * (P + k) : Nat) : Int) (pageB d ((1 + 4 * k : Nat) : Int)) := by
  unfold opk
  rw [opL_yes h hk, List.flatMap_append]
  simp
theorem opk_no {P : Nat} {d : Dk} {m : ByteArray} {k : Nat} (h : told m k = false ∨ P ≤ k) : opk P d m (k + 1) = opk P d m k := by unfold opk; rw [opL_no h]
theorem opL_mem {P : Nat} {m : ByteArray} {k i : Nat} (h : i ∈ opL P m k) : i < k ∧ i < P ∧ told m i = true := by
  unfold opL at h
  rw [List.mem_filter] at h
  simp at h
  exact h
theorem opL_len (P : Nat) (m : ByteArray) (k : Nat) : (opL P m k).length ≤ k := by
  have := List.length_filter_le (fun i => decide (i < P) && told m i) (List.range k)
  rwa [List.length_range] at this
theorem laid_len (p : Int) (s : ByteArray) : (laid p s).length = 4 := layK_len p s 4
theorem flat_len {α : Type} (l : List α) (f : α → List Stp) (hf : ∀ x, (f x).length = 4) : (l.flatMap f).length = 4 * l.length := by
  induction l with
  | nil => rfl
  | cons x l ih => rw [List.flatMap_cons, List.length_append, ih, hf, List.length_cons]; omega
theorem opk_len (P : Nat) (d : Dk) (m : ByteArray) (k : Nat) : (opk P d m k).length ≤ 4 * k := by
  unfold opk
  rw [flat_len _ _ (fun x => laid_len _ _)]
  have := opL_len P m k
  omega
theorem layK_mem {p : Int} {s : ByteArray} : ∀ {n : Nat} {x : Stp}, x ∈ layK p s n → ∃ j : Nat, j < n ∧ x = (p + (j : Nat), cut4 s j)
  | 0, x, h => by cases h
  | n + 1, x, h => by
    rw [layK, List.mem_append] at h
    rcases h with h | h
    · obtain ⟨j, hj, e⟩ := layK_mem h
      exact ⟨j, by omega, e⟩
    · exact ⟨n, by omega, by simpa using h⟩
/-- A disk that a journal of P pages lies on, up. -/
structure Sto (P : Nat) (d : Dk) : Prop where
  ok : d.Ok
  sz : Sz d
  big : 8 * P + 1 ≤ d.l.length
  up : d.down = false
theorem Sto.page {P : Nat} {d : Dk} (h : Sto P d) (p : Nat) (hp : p + 4 ≤ d.l.length) : (pageB d (p : Int)).size = 1024 :=
  page_size h.sz (fun i hi => by unfold Dk.use; rw [if_neg (by rw [h.up]; decide), if_neg (by omega)])
theorem opk_mem {P : Nat} {d : Dk} {m : ByteArray} {k : Nat} (h : Sto P d) {x : Stp} (hx : x ∈ opk P d m k) : Can d.l.length x ∧ 1 + 4 * (P : Int) ≤ x.1 := by
  unfold opk at hx
  rw [List.mem_flatMap] at hx
  obtain ⟨i, hi, hx⟩ := hx
  obtain ⟨_, hP, _⟩ := opL_mem hi
  obtain ⟨j, hj, rfl⟩ := layK_mem hx
  have := h.big
  refine ⟨.inr ⟨by simp only; omega, ?_⟩, by simp only; omega⟩
  exact cut4_size (h.page _ (by omega)) hj
theorem opk_page {P : Nat} {d : Dk} {m : ByteArray} {k : Nat} (h : Sto P d) (hr : (run d (opk P d m k)).2 = 0) (hd : (run d (opk P d m k)).1.down = false) (i : Nat) (hi : i < P) : pageB (run d (opk P d m k)).1 ((1 + 4 * i : Nat) : Int) = pageB d ((1 + 4 * i : Nat) : Int) :=
  page_keep h.ok (fun x hx => (opk_mem h hx).1) hr h.up hd _ (fun x hx => by have := (opk_mem h hx).2; omega)
theorem run_len {d : Dk} (hok : d.Ok) {l : List Stp} (hc : ∀ x ∈ l, Can d.l.length x) : (run d l).1.l.length = d.l.length := by
  obtain ⟨k, hk, he, hl, h⟩ := run_shape l hok hc
  exact hl
/-- All that Open does. -/
def openK (P : Nat) (d : Dk) (m : ByteArray) : List Stp := if opL P m 128 = [] then [] else opk P d m 128 ++ [flushS] ++ ([(0, Dk.sector0)] ++ [flushS])
theorem opk_more (P : Nat) (d : Dk) (m : ByteArray) : ∀ (n k : Nat), k ≤ n → ∃ r, opk P d m n = opk P d m k ++ r
  | 0, k, h => ⟨[], by rw [show k = 0 by omega, List.append_nil]⟩
  | n + 1, k, h => by
    by_cases e : k = n + 1
    · subst e; exact ⟨[], by simp⟩
    · obtain ⟨r, hr⟩ := opk_more P d m n k (by omega)
      by_cases c : told m n = true ∧ n < P
      · exact ⟨r ++ laid ((1 + 4 * (P + n) : Nat) : Int) (pageB d ((1 + 4 * n : Nat) : Int)), by rw [opk_yes c.1 c.2, hr, List.append_assoc]⟩
      · rw [opk_no (by cases ht : told m n with | false => exact .inl rfl | true => exact .inr (by have : ¬ n < P := fun hn => c ⟨ht, hn⟩; omega))]
        exact ⟨r, hr⟩
theorem open_stop {P : Nat} {d : Dk} {m : ByteArray} {k : Nat} (hk : k < 128) (ht : told m k = true) (hP : k < P) (h : (run d (opk P d m (k + 1))).2 ≠ 0) : run d (openK P d m) = run d (opk P d m (k + 1)) := by
  have hne : opL P m 128 ≠ [] := fun e => by
    have : k ∈ opL P m 128 := by
      unfold opL
      rw [List.mem_filter]
      simp [ht, hP, hk]
    rw [e] at this
    cases this
  obtain ⟨r, hr⟩ := opk_more P d m 128 (k + 1) (by omega)
  rw [openK, if_neg hne, hr, List.append_assoc, List.append_assoc, run_stop h]
end Go.Proofs.Ytoolkamajlgcbaa
