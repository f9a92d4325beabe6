/- Reg5: as Reg, in two parts: behind the first the world meets more (S2). -/
import Derived.Test.YtoolkamajlgcbaaReg
set_option linter.unusedVariables false
set_option linter.unusedSimpArgs false
namespace Go.Proofs.Ytoolkamajlgcbaa
open Go.RowKit

theorem op_mono {P : Program} {ops : Array Oper} {Q : Exit → Act → World → Prop} {i : Nat} {K K' : Act → World → Prop} (hK : ∀ a w, K a w → K' a w) {a : Act} {w : World} (h : wpOp P ops Q i K a w) : wpOp P ops Q i K' a w := wpOp_mono hK h
theorem anyH_mono {P : Program} {md : Region.Mode} {ops : Array Oper} {Q : Exit → Act → World → Prop} {S S2 : World → Prop} (h12 : ∀ w, S2 w → S w) : ∀ (fuel : Nat) (listed : Array Bool) (a : Act) (w : World), wpAnyH P md ops Q S2 fuel listed a w → wpAnyH P md ops Q S fuel listed a w
  | 0, _, _, _, h => h
  | fuel + 1, _, _, _, h => ⟨h.1, fun i hi => wpOp_mono (fun a' w' h' => ⟨h12 _ h'.1, anyH_mono h12 fuel _ a' w' h'.2⟩) (h.2 i hi)⟩
def flagB2 (ops : Array Oper) (o2 : List (Nat × Nat)) : List (Nat × Nat) → Array Bool → Bool
  | [], listed => flagB ops o2 listed
  | (i, 0) :: l, listed => (Region.ready .any ops listed == [i]) && flagB2 ops o2 l (listed.setIfInBounds i true)
  | (i, _) :: l, listed => (Region.ready .any ops listed).contains i && Region.free .any ops listed i && flagB2 ops o2 l (listed.setIfInBounds i true)
/-- What follows the first part. -/
def Next2 (P : Program) (ops : List Oper) (S2 : World → Prop) (Q : Exit → Act → World → Prop) (o2 : List (Nat × Nat)) : Exit → Act → World → Prop
  | .normal, a, w => Both (S2 w) (wpF P ops.toArray S2 Q (ordered ops o2) a w)
  | .outgrown, a, w => Q .outgrown a w
  | _, _, _ => False

theorem wpAny_flag2 {P : Program} {Q : Exit → Act → World → Prop} {S S2 : World → Prop} (h12 : ∀ w, S2 w → S w) (ops : List Oper) (hs : Region.noSelect ops.toArray = true) (o2 : List (Nat × Nat)) (ho2 : ∀ x ∈ o2, x.1 < ops.length) :
    ∀ (order : List (Nat × Nat)) (listed : Array Bool) (a : Act) (w : World), flagB2 ops.toArray o2 order listed = true → (∀ x ∈ order, x.1 < ops.length) → S w →
      wpF P ops.toArray S (Next2 P ops S2 Q o2) (ordered ops order) a w → wpAnyH P .any ops.toArray (Exit.then (fun a w => Q .normal a w) (OnlyOut Q)) S (order.length + o2.length) listed a w
  | [], listed, a, w, hB, _, hS, h => by
    rw [show ordered ops [] = [] from rfl] at h
    unfold wpF at h
    unfold Next2 at h
    have := wpAny_flag ops hs o2 listed a w hB ho2 h.1 h.2
    rw [List.length_nil, Nat.zero_add]
    exact anyH_mono h12 _ _ _ _ this
  | (i, 0) :: l, listed, a, w, hB, hl, hS, h => by
    simp only [flagB2, Bool.and_eq_true, beq_iff_eq] at hB
    obtain ⟨h1, h3⟩ := hB
    have hi : i < ops.length := hl _ (List.mem_cons_self ..)
    rw [List.length_cons, show l.length + 1 + o2.length = (l.length + o2.length) + 1 by omega]
    have ho : ops.toArray[i]? = some ops[i] := by simp [hi]
    have hd : ops.getD i default = ops[i] := by simp [hi]
    simp only [ordered, List.map_cons, wpF, hd] at h
    refine wpAnyH_all h1 (by simp) (fun j hj => ?_)
    obtain rfl : j = i := by simpa using hj
    have key : ∀ a w, Both (S w) (wpF P ops.toArray S (Next2 P ops S2 Q o2) (ordered ops l) a w) → S w ∧ wpAnyH P .any ops.toArray (Exit.then (fun a w => Q .normal a w) (OnlyOut Q)) S (l.length + o2.length) (listed.setIfInBounds j true) a w :=
      fun a w hh => ⟨hh.1, wpAny_flag2 h12 ops hs o2 ho2 l _ a w h3 (fun x hx => hl x (List.mem_cons_of_mem _ hx)) hh.1 hh.2⟩
    unfold wpOp
    simp only [ho]
    unfold wpList at h
    have hout : LetsOut (Exit.then (fun a' w' => Both (S w') (wpF P ops.toArray S (Next2 P ops S2 Q o2) (ordered ops l) a' w')) (OnlyOut (Next2 P ops S2 Q o2))) → LetsOut (Exit.then (fun a w => Q .normal a w) (OnlyOut Q)) := by
      rintro ⟨a, w, x⟩
      exact ⟨a, w, x⟩
    split
    · rename_i hw
      rw [if_pos hw] at h
      rcases h with h | ⟨h, hx⟩
      · refine .inl ?_
        unfold Oper.wp at h ⊢
        generalize (execOp a.eval ops[j]).run P w = r at h
        cases r with
        | ok n w' =>
          cases n <;> simp only [Oper.upon] at h ⊢
          case value v => exact key _ _ h
          case skip => exact key _ _ h
          case defer d => exact key _ _ h
          case enter f args =>
            exact h.mono fun e w'' he => by
              cases e with
              | returned v => exact key _ _ he
              | panicked c => exact he
              | outgrown => exact hout he
          case row row args => exact h.mono fun v w'' he => key _ _ he
        | halt x w' => cases x <;> simp only [Oper.upon] at h ⊢ <;> exact h
      · exact .inr ⟨h, hout hx⟩
    · rename_i hw
      rw [if_neg hw] at h
      exact key _ _ h
  | (i, 1) :: l, listed, a, w, hB, hl, hS, h => by
    simp only [flagB2, Bool.and_eq_true] at hB
    obtain ⟨⟨h1, h2⟩, h3⟩ := hB
    have hi : i < ops.length := hl _ (List.mem_cons_self ..)
    rw [List.length_cons, show l.length + 1 + o2.length = (l.length + o2.length) + 1 by omega]
    have hd : ops.getD i default = ops[i] := by simp [hi]
    simp only [ordered, List.map_cons, wpF, hd] at h
    exact take_dry ops hs i hi h1 h2 hS (fun a' hh => wpAny_flag2 h12 ops hs o2 ho2 l _ a' w h3 (fun x hx => hl x (List.mem_cons_of_mem _ hx)) hS hh) (dry_S h)
  | (i, k + 2) :: l, listed, a, w, hB, hl, hS, h => by
    simp only [flagB2, Bool.and_eq_true] at hB
    obtain ⟨⟨h1, h2⟩, h3⟩ := hB
    have hi : i < ops.length := hl _ (List.mem_cons_self ..)
    rw [List.length_cons, show l.length + 1 + o2.length = (l.length + o2.length) + 1 by omega]
    have hd : ops.getD i default = ops[i] := by simp [hi]
    simp only [ordered, List.map_cons, wpF, hd] at h
    exact take_dry ops hs i hi h1 h2 hS (fun a' hh => wpAny_flag2 h12 ops hs o2 ho2 l _ a' w h3 (fun x hx => hl x (List.mem_cons_of_mem _ hx)) hS hh) h

/-- A region that draws its order, in two parts. -/
theorem wp_region_flag2 {P : Program} {id : Nat} {Q : Exit → Act → World → Prop} {a : Act} {w : World} {l : List Oper} (S S2 : World → Prop) (order o2 : List (Nat × Nat)) (hm : P.follows .mixedOrders = true)
    (hB : (Region.noSelect l.toArray && order.all (fun x => decide (x.1 < l.length)) && o2.all (fun x => decide (x.1 < l.length)) && (order.length + o2.length == l.length) && flagB2 l.toArray o2 order (Array.replicate l.length false)) = true) (h12 : ∀ w, S2 w → S w) (hS : S w.drew)
    (h : wpF P l.toArray S (Next2 P l S2 Q o2) (ordered l order) a w.drew) : (Code.region id l.toArray true).wp P Q a w := by
  simp only [Bool.and_eq_true, List.all_eq_true, decide_eq_true_eq, beq_iff_eq] at hB
  obtain ⟨⟨⟨⟨h1, h2⟩, h2'⟩, h3⟩, h4⟩ := hB
  refine Code.wp_mono (Q := Exit.then (fun a w => Q .normal a w) (OnlyOut Q)) ?_ ?_
  · intro e a w q
    cases e with
    | normal => exact q
    | outgrown => exact q
    | _ => exact q.elim
  · refine wp_region_held (S := S) hm ?_
    have := wpAny_flag2 h12 l h1 o2 h2' order (Array.replicate l.length false) a w.drew h4 h2 hS h
    rw [h3] at this
    simpa using this
theorem next2 {P : Program} {ops : List Oper} {S2 : World → Prop} {Q : Exit → Act → World → Prop} {o2 : List (Nat × Nat)} {a : Act} {w : World} (h2 : S2 w) (h : wpF P ops.toArray S2 Q (ordered ops o2) a w) : Next2 P ops S2 Q o2 .normal a w := ⟨h2, h⟩
end Go.Proofs.Ytoolkamajlgcbaa
