/- JnK: a range over told: the rounds between which whatever holds, and a return. -/
import Derived.Test.YtoolkamajlgcbaaJnJ
set_option linter.unusedVariables false
set_option linter.unusedSimpArgs false
namespace Go.Proofs.Ytoolkamajlgcbaa
open Go.RowKit Go.Shelf

/-- How a round's body is left. -/
def tpost (B : Nat) (J X : World → Prop) (W : World) : Exit → Act → World → Prop
  | .normal, _, W' => (W'.heap[B]? = W.heap[B]? ∧ W'.heap[B + 1]? = W.heap[B + 1]?) ∧ J W'
  | .ret, _, W' => (W'.heap[B]? = W.heap[B]? ∧ W'.heap[B + 1]? = W.heap[B + 1]?) ∧ X W'
  | _, _, _ => False
theorem range_told {w : World} {a : Act} {g : Operand} {ps : Array Tmp} {assign body : Code} {Q : Exit → Act → World → Prop} (Bc : Nat) (m : ByteArray) (hm : m.size = 256)
    (hg : a.eval g = .func (.func 79) #[] #[.pointer (some ⟨Bc, 0, none⟩)]) (hps : ps.size = 1) (J : Nat → World → Prop) (X : World → Prop)
    (hbox : ∀ k W, J k W → W.cell? ⟨Bc, 0, none⟩ = some (.string m)) (hno : ∀ k W, k < 128 → told m k = false → J k W → J (k + 1) W)
    (hput : ∀ k W l o, w.heap.size ≤ l → l < w.heap.size + 2 → J k W → J k (W.putObj l o)) (hputX : ∀ W l o, w.heap.size ≤ l → l < w.heap.size + 2 → X W → X (W.putObj l o))
    (h0 : ∀ o1 o2, J 0 ((w.alloc o1).alloc o2))
    (hround : ∀ (l k : Nat) (W W2 : World), k < 128 → told m k = true → J k W2 → w.heap.size + 2 ≤ W2.heap.size →
      assign.wpIn (Fence.wide.inRound l) 1 Try.prog (Exit.then (fun a₁ w₁ => w₁ = W ∧ body.wpIn (Fence.wide.inRound l) 1 Try.prog (tpost w.heap.size (J (k + 1)) X W2) a₁ W2) (fun _ _ _ => False)) { tmps := (ps.zip #[.int .i64 (k : Int)]).foldl (fun t (p, v) => t.setIfInBounds p v) a.tmps, defers := [] } W)
    (hdone : ∀ W, J 128 W → W.heap[w.heap.size]? = some (.deferred (some [])) → w.heap.size + 2 ≤ W.heap.size → Q .normal { a with defers := { target := .collected w.heap.size, args := #[] } :: a.defers } W)
    (hstop : ∀ W, X W → W.heap[w.heap.size]? = some (.deferred (some [])) → Q .ret { a with defers := { target := .collected w.heap.size, args := #[] } :: a.defers } W) :
    (Code.rangeFunc g ps assign body).wpIn Fence.wide 3 Try.prog Q a w := by
  have ev : ∀ args w, (callFunc 79 args).run Try.prog w = .ok (.enter 79 args) w := enters_of Try.func79 (by kernel_rfl) rfl
  refine wpIn_rangeFunc ?_
  intro fn hfn
  obtain ⟨rec, hrec⟩ : ∃ rec : LoopState → Option Code → Loop, rec = fun st pe => { state := st, pending := pe, fn, tmps := a.tmps, params := ps, assign, body, defers := w.heap.size } := ⟨_, rfl⟩
  obtain ⟨W1, hW1⟩ : ∃ W1, (w.alloc (.deferred (some []))).alloc (.loop (rec .ready none)) = W1 := ⟨_, rfl⟩
  have hL1 : W1.heap[w.heap.size + 1]? = some (.loop (rec .ready none)) := by
    rw [← hW1]; have := World.alloc_heap_new (w.alloc (.deferred (some []))) (.loop (rec .ready none)); rwa [World.size_alloc] at this
  have hK1 : W1.heap[w.heap.size]? = some (.deferred (some [])) := by
    rw [← hW1]; exact (Below.heap_alloc _ _ _ (by simp)).trans (World.alloc_heap_new w _)
  have hJ1 : J 0 W1 := by rw [← hW1]; exact h0 _ _
  refine ⟨w.heap.size + 1, [{ target := .collected w.heap.size, args := #[] }], W1, { target := .fn (.func 79) #[.pointer (some ⟨Bc, 0, none⟩)], args := #[.func (.yield (w.heap.size + 1)) #[] #[]] }, W1, 79,
    #[.func (.yield (w.heap.size + 1)) #[] #[]] ++ #[.pointer (some ⟨Bc, 0, none⟩)], W1, ?_, ?_, ?_, ?_, fun _ => by decide, ?_⟩
  · rw [← hW1, hrec]; exact run_enterLoop_outer _ _ _ _ _
  · simp only [resolve, hg]
    simp [go_sem]
  · intro f' hf'; trivial
  · simp [invoke, go_sem, ev]
  · refine (told_in Fence.wide 2 trivial rfl (by decide) (w.heap.size + 1) Bc m hm
      (fun k W => J k W ∧ W.heap[w.heap.size + 1]? = some (.loop (rec .ready none)) ∧ W.heap[w.heap.size]? = some (.deferred (some [])))
      (fun W => X W ∧ W.heap[w.heap.size + 1]? = some (.loop (rec .done (some .ret))) ∧ W.heap[w.heap.size]? = some (.deferred (some [])))
      W1 (fun k W h => hbox k W h.1) (fun k W hk ht h => ⟨hno k W hk ht h.1, h.2⟩) ?_ ⟨hJ1, hL1, hK1⟩).mono ?_
    · intro k W hk ht ⟨hJ, hL, hK⟩
      have hlt : w.heap.size + 1 < W.heap.size := (Array.getElem?_eq_some_iff.1 hL).1
      refine ⟨fn, (ps.zip #[.int .i64 (k : Int)]).foldl (fun t (p, v) => t.setIfInBounds p v) a.tmps, assign, body, ?_, roundIn_of_wpIn trivial ?_⟩
      · have := run_yield (P := Try.prog) (args := #[.int .i64 (k : Int)]) hL (by rw [hrec]; simp [hps])
        rw [hrec] at this
        exact this
      · refine wpIn_mono (hround (w.heap.size + 1) k W (W.putObj (w.heap.size + 1) (.loop (rec .busy none))) hk ht (hput _ _ _ _ (by omega) (by omega) hJ) (by simp; omega)) ?_
        intro e0 a₁ w₁ hq0
        cases e0 with
        | normal =>
          obtain ⟨rfl, hb⟩ := hq0
          refine ⟨w₁.putObj (w.heap.size + 1) (.loop (rec .busy none)), ?_, ?_⟩
          · have := run_beginRound (P := Try.prog) hL (by rw [hrec])
            rw [this, hrec]
          · refine wpIn_mono hb ?_
            intro e a' W' hq
            have hl0 : (w₁.putObj (w.heap.size + 1) (.loop (rec .busy none))).heap[w.heap.size + 1]? = some (.loop (rec .busy none)) := World.putObj_heap_same hlt
            have hk0 : (w₁.putObj (w.heap.size + 1) (.loop (rec .busy none))).heap[w.heap.size]? = some (.deferred (some [])) := (World.putObj_heap_other (by omega)).trans hK
            cases e with
            | normal =>
              obtain ⟨⟨h1, h2⟩, hJ'⟩ := hq
              rw [hk0] at h1; rw [hl0] at h2
              refine ⟨_, _, run_endRound none h2, .inl ⟨rfl, hput _ _ _ _ (by omega) (by omega) hJ', ?_, (World.putObj_heap_other (by omega)).trans h1⟩⟩
              have := World.putObj_heap_same (o := .loop { rec .busy none with state := if (none : Option Code).isNone then .ready else .done, pending := none }) (Array.getElem?_eq_some_iff.1 h2).1
              rw [this, hrec]
              rfl
            | ret =>
              obtain ⟨⟨h1, h2⟩, hX'⟩ := hq
              rw [hk0] at h1; rw [hl0] at h2
              refine ⟨_, _, run_endRound (some .ret) h2, .inr ⟨rfl, hputX _ _ _ (by omega) (by omega) hX', ?_, (World.putObj_heap_other (by omega)).trans h1⟩⟩
              have := World.putObj_heap_same (o := .loop { rec .busy none with state := if (some Code.ret).isNone then .ready else .done, pending := some .ret }) (Array.getElem?_eq_some_iff.1 h2).1
              rw [this, hrec]
              rfl
            | _ => exact hq.elim
        | _ => exact hq0.elim
    · rintro e W2 ⟨⟨v0, rfl⟩, h | h⟩
      · obtain ⟨hJ, hL, hK⟩ := h
        have hend := run_endLoop (P := Try.prog) hL (by rw [hrec]; simp)
        rw [show (rec .ready none).pending = none by rw [hrec]] at hend
        exact ⟨none, _, hend, hdone _ (hput _ _ (w.heap.size + 1) _ (by omega) (by omega) hJ) ((World.putObj_heap_other (by omega)).trans hK) (by simp; have := (Array.getElem?_eq_some_iff.1 hL).1; omega)⟩
      · obtain ⟨hX, hL, hK⟩ := h
        have hend := run_endLoop (P := Try.prog) hL (by rw [hrec]; simp)
        rw [show (rec .done (some .ret)).pending = some .ret by rw [hrec]] at hend
        exact ⟨some .ret, _, hend, wpIn_ret (hstop _ (hputX _ (w.heap.size + 1) _ (by omega) (by omega) hX) ((World.putObj_heap_other (by omega)).trans hK))⟩
end Go.Proofs.Ytoolkamajlgcbaa
