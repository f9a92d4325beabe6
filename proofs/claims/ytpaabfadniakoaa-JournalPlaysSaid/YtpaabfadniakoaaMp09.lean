/- Reg5: as Reg, in two parts: behind the first the world meets more (S2). -/
import Derived.Test.YtpaabfadniakoaaMp08
set_option linter.unusedVariables false
set_option linter.unusedSimpArgs false
namespace Go.Proofs.Ytpaabfadniakoaa
open Go.RowKit

theorem op_mono {P : Program} {ops : Array Oper} {Q : Exit → Act → World → Prop} {i : Nat} {K K' : Act → World → Prop} (hK : ∀ a w, K a w → K' a w) {a : Act} {w : World} (h : wpOp P ops Q i K a w) : wpOp P ops Q i K' a w := wpOp_mono hK h
theorem anyH_mono {P : Program} {md : Region.Mode} {ops : Array Oper} {Q : Exit → Act → World → Prop} {S S2 : World → Prop} (h12 : ∀ w, S2 w → S w) : ∀ (fuel : Nat) (listed : Array Bool) (a : Act) (w : World), wpAnyH P md ops Q S2 fuel listed a w → wpAnyH P md ops Q S fuel listed a w
  | 0, _, _, _, h => h
  | fuel + 1, _, _, _, h => ⟨h.1, fun i hi => wpOp_mono (fun a' w' h' => ⟨h12 _ h'.1, anyH_mono h12 fuel _ a' w' h'.2⟩) (h.2 i hi)⟩
def flagB2 (ops : Array Oper) (o2 : List (Nat × Nat)) : List (Nat × Nat) → Array Bool → Bool
  | [], listed => flagB ops o2 listed
  | (i, 0) :: l, listed => (Region.ready .any ops listed == [i]) && flagB2 ops o2 l (listed.setIfInBounds i true)
  | (i, _) :: l, listed => (Region.ready .any ops listed).contains i && Region.free .any ops listed i && flagB2 ops o2 l (listed.setIfInBounds i true)
/-- What follows the first part. -/
def Next2 (P : Program) (ops : List Oper) (S2 : World → Prop) (Q : Exit → Act → World → Prop) (o2 : List (Nat × Nat)) : Exit → Act → World → Prop
  | .normal, a, w => Both (S2 w) (wpF P ops.toArray S2 Q (ordered ops o2) a w)
  | .outgrown, a, w => Q .outgrown a w
  | _, _, _ => False

theorem wpAny_flag2 {P : Program} {Q : Exit → Act → World → Prop} {S S2 : World → Prop} (h12 : ∀ w, S2 w → S w) (ops : List Oper) (hs : Region.noSelect ops.toArray = true) (o2 : List (Nat × Nat)) (ho2 : ∀ x ∈ o2, x.1 < ops.length) :
    ∀ (order : List (Nat × Nat)) (listed : Array Bool) (a : Act) (w : World), flagB2 ops.toArray o2 order listed = true → (∀ x ∈ order, x.1 < ops.length) → S w →
      wpF P ops.toArray S (Next2 P ops S2 Q o2) (ordered ops order) a w → wpAnyH P .any ops.toArray (Exit.then (fun a w => Q .normal a w) (OnlyOut Q)) S (order.length + o2.length) listed a w
  | [], listed, a, w, hB, _, hS, h => by
    rw [show ordered ops [] = [] from rfl] at h
    unfold wpF at h
    unfold Next2 at h
    have := wpAny_flag ops hs o2 listed a w hB ho2 h.1 h.2
    rw [List.length_nil, Nat.zero_add]
    exact anyH_mono h12 _ _ _ _ this
  | (i, 0) :: l, listed, a, w, hB, hl, hS, h => by
    simp only [flagB2, Bool.and_eq_true, beq_iff_eq] at hB
    obtain ⟨h1, h3⟩ := hB
    have hi : i < ops.length := hl _ (List.mem_cons_self ..)
    rw [List.length_cons, show l.length + 1 + o2.length = (l.length + o2.length) + 1 by omega]
    have ho : ops.toArray[i]? = some ops[i] := by simp [hi]
    have hd : ops.getD i default = ops[i] := by simp [hi]
    simp only [ordered, List.map_cons, wpF, hd] at h
    refine wpAnyH_all h1 (by simp) (fun j hj => ?_)
    obtain rfl : j = i := by simpa using hj
    have key : ∀ a w, Both (S w) (wpF P ops.toArray S (Next2 P ops S2 Q o2) (ordered ops l) a w) → S w ∧ wpAnyH P .any ops.toArray (Exit.then (fun a w => Q .normal a w) (OnlyOut Q)) S (l.length + o2.length) (listed.setIfInBounds j true) a w :=
      fun a w hh => ⟨hh.1, wpAny_flag2 h12 ops hs o2 ho2 l _ a w h3 (fun x hx => hl x (List.mem_cons_of_mem _ hx)) hh.1 hh.2⟩
    unfold wpOp
    simp only [ho]
    unfold wpList at h
    have hout : LetsOut (Exit.then (fun a' w' => Both (S w') (wpF P ops.toArray S (Next2 P ops S2 Q o2) (ordered ops l) a' w')) (OnlyOut (Next2 P ops S2 Q o2))) → LetsOut (Exit.then (fun a w => Q .normal a w) (OnlyOut Q)) := by
      rintro ⟨a, w, x⟩
      exact ⟨a, w, x⟩
    split
    · rename_i hw
      rw [if_pos hw] at h
      rcases h with h | ⟨h, hx⟩
      · refine .inl ?_
        unfold Oper.wp at h ⊢
        generalize (execOp a.eval ops[j]).run P w = r at h
        cases r with
        | ok n w' =>
          cases n <;> simp only [Oper.upon] at h ⊢
          case value v => exact key _ _ h
          case skip => exact key _ _ h
          case defer d => exact key _ _ h
          case enter f args =>
            exact h.mono fun e w'' he => by
              cases e with
              | returned v => exact key _ _ he
              | panicked c => exact he
              | outgrown => exact hout he
          case row row args => exact h.mono fun v w'' he => key _ _ he
        | halt x w' => cases x <;> simp only [Oper.upon] at h ⊢ <;> exact h
      · exact .inr ⟨h, hout hx⟩
    · rename_i hw
      rw [if_neg hw] at h
      exact key _ _ h
  | (i, 1) :: l, listed, a, w, hB, hl, hS, h => by
    simp only [flagB2, Bool.and_eq_true] at hB
    obtain ⟨⟨h1, h2⟩, h3⟩ := hB
    have hi : i < ops.length := hl _ (List.mem_cons_self ..)
    rw [List.length_cons, show l.length + 1 + o2.length = (l.length + o2.length) + 1 by omega]
    have hd : ops.getD i default = ops[i] := by simp [hi]
    simp only [ordered, List.map_cons, wpF, hd] at h
    exact take_dry ops hs i hi h1 h2 hS (fun a' hh => wpAny_flag2 h12 ops hs o2 ho2 l _ a' w h3 (fun x hx => hl x (List.mem_cons_of_mem _ hx)) hS hh) (dry_S h)
  | (i, k + 2) :: l, listed, a, w, hB, hl, hS, h => by
    simp only [flagB2, Bool.and_eq_true] at hB
    obtain ⟨⟨h1, h2⟩, h3⟩ := hB
    have hi : i < ops.length := hl _ (List.mem_cons_self ..)
    rw [List.length_cons, show l.length + 1 + o2.length = (l.length + o2.length) + 1 by omega]
    have hd : ops.getD i default = ops[i] := by simp [hi]
    simp only [ordered, List.map_cons, wpF, hd] at h
    exact take_dry ops hs i hi h1 h2 hS (fun a' hh => wpAny_flag2 h12 ops hs o2 ho2 l _ a' w h3 (fun x hx => hl x (List.mem_cons_of_mem _ hx)) hS hh) h

/-- A region that draws its order, in two parts. -/
theorem wp_region_flag2 {P : Program} {id : Nat} {Q : Exit → Act → World → Prop} {a : Act} {w : World} {l : List Oper} (S S2 : World → Prop) (order o2 : List (Nat × Nat)) (hm : P.follows .mixedOrders = true)
    (hB : (Region.noSelect l.toArray && order.all (fun x => decide (x.1 < l.length)) && o2.all (fun x => decide (x.1 < l.length)) && (order.length + o2.length == l.length) && flagB2 l.toArray o2 order (Array.replicate l.length false)) = true) (h12 : ∀ w, S2 w → S w) (hS : S w.drew)
    (h : wpF P l.toArray S (Next2 P l S2 Q o2) (ordered l order) a w.drew) : (Code.region id l.toArray true).wp P Q a w := by
  simp only [Bool.and_eq_true, List.all_eq_true, decide_eq_true_eq, beq_iff_eq] at hB
  obtain ⟨⟨⟨⟨h1, h2⟩, h2'⟩, h3⟩, h4⟩ := hB
  refine Code.wp_mono (Q := Exit.then (fun a w => Q .normal a w) (OnlyOut Q)) ?_ ?_
  · intro e a w q
    cases e with
    | normal => exact q
    | outgrown => exact q
    | _ => exact q.elim
  · refine wp_region_held (S := S) hm ?_
    have := wpAny_flag2 h12 l h1 o2 h2' order (Array.replicate l.length false) a w.drew h4 h2 hS h
    rw [h3] at this
    simpa using this
theorem next2 {P : Program} {ops : List Oper} {S2 : World → Prop} {Q : Exit → Act → World → Prop} {o2 : List (Nat × Nat)} {a : Act} {w : World} (h2 : S2 w) (h : wpF P ops.toArray S2 Q (ordered ops o2) a w) : Next2 P ops S2 Q o2 .normal a w := ⟨h2, h⟩
end Go.Proofs.Ytpaabfadniakoaa
/- JnI: the walk of Commit (written by gen_commit.py). -/
set_option linter.unusedVariables false
set_option linter.unusedSimpArgs false
namespace Go.Proofs.Ytpaabfadniakoaa
open Go.RowKit

theorem jvalues_any (w : World) (A : Option Addr) (n c : Nat) : Calls Try.prog 47 #[.slice A n c] w fun e w' =>
    ∃ Bc, e = .returned (.func (.func 66) #[] #[.pointer (some ⟨Bc, 0, none⟩)]) ∧ w'.cell? ⟨Bc, 0, none⟩ = some (.slice A n c) ∧ Below w.heap.size w w' := by
  go_enter Try.func47, Try.ntmps47
  go_wp2
  go_ret
  exact ⟨w.heap.size, rfl, by simp, (Below.refl _ w).alloc (Nat.le_refl _) _⟩
theorem commit_nil (w : World) (A : Option Addr) (n c : Nat) : Calls Try.prog 13 #[.pointer none, .slice A n c] w fun e w' => e = .returned (.int .i64 1) ∧ w = w' := by
  go_enter Try.func13, Try.ntmps13
  go_wp2
  go_ret
  exact ⟨rfl, rfl⟩
/-- The mark that tells pages. -/
def mkK (l : List Chg) : List UInt8 := l.foldl (fun m c => m.set (c.1 / 8) (m.getD (c.1 / 8) 0 ||| UInt8.ofNat (2 ^ (c.1 % 8)))) (List.replicate 256 0)
theorem mkK_snoc (l : List Chg) (x : Chg) : mkK (l ++ [x]) = (mkK l).set (x.1 / 8) ((mkK l).getD (x.1 / 8) 0 ||| UInt8.ofNat (2 ^ (x.1 % 8))) := by unfold mkK; rw [List.foldl_append]; rfl
theorem foldl_len {α : Type} (f : List UInt8 → α → List UInt8) (hf : ∀ m x, (f m x).length = m.length) : ∀ (l : List α) (m : List UInt8), (l.foldl f m).length = m.length
  | [], m => rfl
  | x :: l, m => by rw [List.foldl_cons, foldl_len f hf l, hf]
theorem mkK_len (l : List Chg) : (mkK l).length = 256 := by unfold mkK; rw [foldl_len _ (fun m x => List.length_set ..), List.length_replicate]
def mkB (l : List Chg) : ByteArray := ⟨(mkK l).toArray⟩
def commitK (P : Nat) (M : List Chg) : List Stp := stepsA M ++ [flushS] ++ ([(0, mkB M)] ++ [flushS]) ++ (stepsB P M ++ [flushS]) ++ ([(0, Dk.sector0)] ++ [flushS])
theorem stop3 {d : Dk} {a : List Stp} (h : (run d a).2 ≠ 0) (b c e : List Stp) : run d (a ++ b ++ c ++ e) = run d a := by
  have h1 : run d (a ++ b) = run d a := run_stop h b
  have h2 : run d (a ++ b ++ c) = run d a := by rw [run_stop (by rw [h1]; exact h), h1]
  rw [run_stop (by rw [h2]; exact h), h2]
theorem stop2 {d : Dk} {a b : List Stp} (h : (run d a).2 = 0) (hb : (run (run d a).1 b).2 ≠ 0) (c e : List Stp) : run d (a ++ b ++ c ++ e) = run (run d a).1 b := by
  have h1 : run d (a ++ b) = run (run d a).1 b := run_go h b
  have h2 : run d (a ++ b ++ c) = run (run d a).1 b := by rw [run_stop (by rw [h1]; exact hb), h1]
  rw [run_stop (by rw [h2]; exact hb), h2]
theorem stop1 {d : Dk} {a b : List Stp} (h : (run d a).2 = 0) (hb : (run (run d a).1 b).2 ≠ 0) (e : List Stp) : run d (a ++ b ++ e) = run (run d a).1 b := by
  have h1 : run d (a ++ b) = run (run d a).1 b := run_go h b
  rw [run_stop (by rw [h1]; exact hb), h1]
theorem flushed_run (w : World) (F : Nat → Prop) (gj g P : Nat) (d : Dk) (S : List Stp) (r : Dk × Int) (hr : r = run d S) (h : HasDisk w F g r.1) (hj : Jb w gj g P) (hf : Fw 0 r.1) :
    Calls Try.prog 43 #[.pointer (some ⟨gj, 0, none⟩), .int .i64 r.2] w fun e w' => e = .returned (.int .i64 (run d (S ++ [flushS])).2) ∧ ∃ F', DTo w F g (run d (S ++ [flushS])).1 w' F' := by
  have := flushed_any w F gj g P r.1 h hj hf r.2
  by_cases hx : r.2 = 0
  · have e : run d (S ++ [flushS]) = (r.1.flush, r.1.use 0) := by
      subst hr
      rw [run_go hx, run_one]
      rfl
    rw [if_pos hx, if_pos hx] at this
    rw [e]
    exact this
  · have e : run d (S ++ [flushS]) = r := by
      subst hr
      exact run_stop hx _
    rw [if_neg hx, if_neg hx] at this
    rw [e]
    exact this
theorem write_run (w : World) (F : Nat → Prop) (g : Nat) (d : Dk) (h : HasDisk w F g d) (s : ByteArray) (hs : s.size ≤ 1000000) (hf : Fw 1 d) (r : Dk × Int) (hr : r = run d [(0, s)]) :
    Calls Try.prog 44 #[.pointer (some ⟨g, 0, none⟩), .int .i64 0, .string s] w fun e w' => e = .returned (.int .i64 r.2) ∧ ∃ F', DTo w F g r.1 w' F' := by
  have := write_h h 0 s (by omega) (by have := hf.w; omega) (by have := hf.c; omega)
  have e : r = (d.write 0 s, d.writeE 0 s) := by
    rw [hr, run_one]
    unfold step stepE
    rw [if_neg (by simp), if_neg (by simp)]
  rw [e]
  exact this
theorem or_u8 (b : UInt8) (r : Nat) (h : r < 8) : bits .or .u8 (b.toNat : Int) (2 ^ r % 256) = ((b ||| UInt8.ofNat (2 ^ r)).toNat : Int) := by
  have hb : BitVec.ofInt 8 (b.toNat : Int) = b.toBitVec := by
    rw [BitVec.ofInt_natCast]
    exact BitVec.ofNat_toNat _ b.toBitVec |>.trans (BitVec.setWidth_eq _)
  have hc : BitVec.ofInt 8 ((2 : Int) ^ r % 256) = (UInt8.ofNat (2 ^ r)).toBitVec := by
    match r, h with
    | 0, _ => decide
    | 1, _ => decide
    | 2, _ => decide
    | 3, _ => decide
    | 4, _ => decide
    | 5, _ => decide
    | 6, _ => decide
    | 7, _ => decide
  show IntKind.u8.wrap (((BitVec.ofInt 8 _ ||| BitVec.ofInt 8 _).toNat : Nat) : Int) = _
  rw [hb, hc, IntKind.wrap_u8, ← UInt8.toBitVec_or]
  have := UInt8.toNat_lt (b ||| UInt8.ofNat (2 ^ r))
  rw [UInt8.toNat_toBitVec]
  omega
def upc (c : Chg) : Int × ByteArray := ((c.1 : Int), c.2)
/-- What Commit answers, and leaves. -/
inductive CoTo (P : Nat) (d : Dk) (l : List (Int × ByteArray)) : Int → Dk → Prop
  | why (h : whyE P l ≠ 0) : CoTo P d l (whyE P l) d
  | down (h : whyE P l = 0) (hd : d.down = true) : CoTo P d l 10 d
  | none (h : whyE P l = 0) (hd : d.down = false) (hl : l = []) : CoTo P d l 0 d
  | run (h : whyE P l = 0) (hd : d.down = false) (hl : l ≠ []) (M : List Chg) (hM : Ord M) (hp : (M.map upc).Perm l) : CoTo P d l (run d (commitK P M)).2 (run d (commitK P M)).1
theorem why_ok {P : Nat} {l : List (Int × ByteArray)} (h : whyE P l = 0) : outK P l = false ∧ dupK l l.length = false ∧ longK l = false := by
  unfold whyE at h
  split at h
  · exact absurd h (by decide)
  · split at h
    · exact absurd h (by decide)
    · split at h
      · exact absurd h (by decide)
      · rename_i a b c
        exact ⟨by simpa using a, by simpa using b, by simpa using c⟩
theorem why_each {P : Nat} {l : List (Int × ByteArray)} (h : whyE P l = 0) : ∀ x ∈ l, 0 ≤ x.1 ∧ x.1 < (P : Int) ∧ x.2.size = 1024 := by
  obtain ⟨h1, _, h3⟩ := why_ok h
  intro x hx
  unfold outK at h1
  unfold longK at h3
  rw [List.any_eq_false] at h1 h3
  have a := h1 x hx; have b := h3 x hx
  simp at a b
  omega
theorem lower {P : Nat} {l : List (Int × ByteArray)} (h : whyE P l = 0) : ∃ L : List Chg, l = L.map upc ∧ ∀ x ∈ L, x.1 < P ∧ x.2.size = 1024 := by
  have he := why_each h
  clear h
  induction l with
  | nil => exact ⟨[], rfl, fun x hx => by cases hx⟩
  | cons x l ih =>
    obtain ⟨L, hL, hL2⟩ := ih (fun y hy => he y (List.mem_cons_of_mem _ hy))
    obtain ⟨a1, a2, a3⟩ := he x (List.mem_cons_self ..)
    refine ⟨(x.1.toNat, x.2) :: L, by rw [List.map_cons, ← hL, upc]; simp only; rw [Int.toNat_of_nonneg a1], fun y hy => ?_⟩
    rcases List.mem_cons.1 hy with rfl | hy
    · exact ⟨by simp only; omega, a3⟩
    · exact hL2 y hy
theorem made256 : madeCells #[.int .u8 0] 256 = (u8s (List.replicate 256 0)).toArray := by
  rw [← Array.toList_inj, toList_madeCells_one]
  rw [show (u8s (List.replicate 256 0)).toArray.toList = u8s (List.replicate 256 0) from rfl, u8s, List.map_replicate]
  rfl
theorem conv_u8 {W : World} {b : Nat} {l : List UInt8} (hb : W.heap[b]? = some (.cells (u8s l).toArray 5 (0, 0))) (n cap : Nat) (hn : l.length = n) : (convert 84 9 (.slice (some ⟨b, 0, none⟩) n cap)).run Try.prog W = .ok (.string ⟨l.toArray⟩) W := by
  rw [← hn]
  exact run_convert_bytes_back (P := Try.prog) W 84 9 5 ⟨b, 0, none⟩ cap l Try.underlying84 Try.underlying5 Try.underlying9 (fun j hj => by
    rw [show (⟨b, 0, none⟩ : Addr).add j = ⟨b, j, none⟩ by simp [Addr.add]; omega, blk_cell hb]
    simp [u8s, hj])
theorem blk_u8 {l : List UInt8} {i : Nat} (h : i < l.length) : (u8s l).toArray[i]? = some (.int .u8 ((l.getD i 0).toNat : Int)) := by simp [u8s, h]
theorem blk_u8_set (l : List UInt8) (i : Nat) (b : UInt8) : (u8s l).toArray.setIfInBounds i (.int .u8 (b.toNat : Int)) = (u8s (l.set i b)).toArray := by simp [u8s, List.map_set]
set_option maxHeartbeats 3200000 in
set_option maxRecDepth 100000 in
theorem commit_any (w : World) (F : Nat → Prop) (gj g P : Nat) (d : Dk) (h : HasDisk w F g d) (hj : Jb w gj g P) (hF : ¬ F gj) (hP : P ≤ 128) (A : Option Addr) (c : Nat) (l : List (Int × ByteArray)) (hl : RdC w A l) (hn : l.length ≤ 1000) (hs : ∀ x ∈ l, x.2.size ≤ 9223372036854775807) (hf : Fw (8 * l.length + 8) d) :
    Calls Try.prog 13 #[.pointer (some ⟨gj, 0, none⟩), .slice A l.length c] w fun e w' => ∃ x d' F', e = .returned (.int .i64 x) ∧ CoTo P d l x d' ∧ DTo w F g d' w' F' := by
  have CK := Lib.hid (check_any w gj g P hj hP A c l hl (by omega) hs)
  have HD := Lib.hid h; have HJ := Lib.hid hj; have HF := Lib.hid hF; have HL := Lib.hid hl; have FW := Lib.hid hf
  clear h hj hF hl hs hf
  go_enter Try.func13, Try.ntmps13
  go_wp2_with fail
  refine CK.out.mono ?_
  rintro e w1 ⟨rfl, b1⟩
  have B1 := Lib.hid b1
  clear b1 CK
  by_cases hy : whyE P l = 0
  rotate_left
  · have d0 : (whyE P l != 0) = true := by simpa using hy
    go_wp2
    go_ret
    exact ⟨_, d, F, rfl, .why hy, ⟨HD.out.below B1.out, fun k hk => .inl hk, Touch.of_below B1.out⟩⟩
  have HY := Lib.hid hy
  rw [hy]
  clear hy
  have J1 : Hid (Jb w1 gj g P) := HJ.out.below B1.out
  obtain ⟨c0, _⟩ := J1.out.cells
  have UP := Lib.hid (up_h (HD.out.below B1.out))
  cases hd : d.down with
  | true =>
    rw [hd] at UP
    go_wp2_with fail
    refine UP.out.mono ?_
    rintro e w2 ⟨rfl, rfl⟩
    go_wp2
    go_ret
    exact ⟨_, d, F, rfl, .down HY.out hd, ⟨HD.out.below B1.out, fun k hk => .inl hk, Touch.of_below B1.out⟩⟩
  | false =>
  rw [hd] at UP
  have HDN := Lib.hid hd
  clear hd
  go_wp2_with fail
  refine UP.out.mono ?_
  rintro e w2 ⟨rfl, rfl⟩
  clear UP c0
  by_cases h0 : l.length = 0
  · have d0 : (l.length == 0) = true := by simpa using h0
    have d0' : ((l.length : Int) == 0) = true := by rw [beq_iff_eq]; omega
    go_wp2
    go_ret
    exact ⟨_, d, F, rfl, .none HY.out HDN.out (List.eq_nil_of_length_eq_zero h0), ⟨HD.out.below B1.out, fun k hk => .inl hk, Touch.of_below B1.out⟩⟩
  have d0 : (l.length == 0) = false := by simpa using h0
  have d0' : ((l.length : Int) == 0) = false := by rw [beq_eq_false_iff_ne]; omega
  obtain ⟨L, hlL, hL⟩ := lower HY.out
  have LEN : l.length = L.length := by rw [hlL, List.length_map]
  obtain ⟨b, off, hA, hcs⟩ := HL.out (by omega)
  have HA := Lib.hid hA
  have HC : Hid (∀ (j : Nat) (h : j < L.length), w1.cell? ⟨b, off + j * 2, none⟩ = some (.int .i64 (L[j].1 : Int)) ∧ w1.cell? ⟨b, off + j * 2 + 1, none⟩ = some (.string L[j].2)) := fun j hj => by
    have hjl : j < l.length := by omega
    obtain ⟨z0, z1⟩ := hcs j hjl
    have e : l[j] = upc L[j] := by simp only [hlL, List.getElem_map]
    rw [e] at z0 z1
    exact ⟨cell_below B1.out z0, cell_below B1.out z1⟩
  have HLL := Lib.hid hL; have HlL := Lib.hid hlL; have HPOS : Hid (0 < L.length) := by unfold Hid; omega
  clear hcs hA hL h0
  rw [LEN] at FW d0 d0' hn ⊢
  clear LEN
  clear hlL
  have d1 := d0
  go_wp2_with fail
  refine (jvalues_any w1 A L.length c).mono ?_
  rintro e w2 ⟨Bc, rfl, hbox, b2⟩
  have B2 : Hid (Below w.heap.size w w2) := B1.out.trans (b2.mono B1.out.size)
  have SO := Lib.hid (sorted_any Bc A b off c L w2 hbox (fun _ => HA.out) (fun j hj => ⟨cell_below b2 (HC.out j hj).1, cell_below b2 (HC.out j hj).2⟩) (by omega) (fun x hx => by have := (HLL.out x hx).1; omega))
  clear hbox b2 HC HA
  go_wp2_with fail
  refine SO.out.mono ?_
  rintro e w3 ⟨v, M, rfl, pm, om, ho, b3⟩
  have B3 : Hid (Below w.heap.size w w3) := B2.out.trans (b3.mono B2.out.size)
  have PM := Lib.hid pm; have OM := Lib.hid om
  have hlen : M.length = L.length := pm.length_eq
  have MP := Lib.hid (show ∀ x ∈ M, x.1 ≤ 127 ∧ x.1 < P ∧ x.2.size = 1024 from fun x hx => by have := HLL.out x (pm.mem_iff.1 hx); omega)
  obtain ⟨gm, cm, cur, rfl, hbase, hblk, hc1, hc2, hc3, hc4⟩ : ∃ g cap cur, v = .slice (some ⟨g, 0, none⟩) M.length cap ∧ w2.heap.size ≤ g ∧ w3.heap[g]? = some (.cells cur 44 (0, 0)) ∧ M.length ≤ cap ∧ cap ≤ maxLen ∧ cur.size = cap * 2 ∧ cur.toList.take (M.length * 2) = chv M := by
    rcases ho.2 with ⟨_, h0⟩ | ⟨g, cap, cur, e, hb, hk, h1, h2, h3, h4⟩
    · have := HPOS.out; omega
    · exact ⟨g, cap, cur, e, hb, hk, h1, h2, h3, h4⟩
  have HB : Hid (w3.heap[gm]? = some (.cells cur 44 (0, 0))) := hblk
  have HCS : Hid (∀ j (h : j < M.length), cur[j * 2]? = some (.int .i64 (M[j].1 : Int)) ∧ cur[j * 2 + 1]? = some (.string M[j].2)) := fun j hj => by
    obtain ⟨g1, g2⟩ := chv_get M j hj
    rw [← hc4, List.getElem?_take_of_lt (by omega), Array.getElem?_toList] at g1
    rw [← hc4, List.getElem?_take_of_lt (by omega), Array.getElem?_toList] at g2
    exact ⟨g1, g2⟩
  have NF : Hid (¬ F gm) := fun hh => by
    have h1 := HD.out.lt _ hh
    have h2 := B2.out.size
    omega
  have HP2 : Hid (0 < M.length) := by have := HPOS.out; unfold Hid; omega
  rw [← hlen] at FW hn d0 d0' ⊢
  have NIL : Hid (l ≠ []) := by unfold Hid; rw [HlL.out]; intro h; have := HPOS.out; rw [List.map_eq_nil_iff] at h; rw [h] at this; exact absurd this (by decide)
  have PLL : Hid ((M.map upc).Perm l) := by unfold Hid; rw [HlL.out]; exact pm.map _
  clear hlen ho hblk b3 SO pm om hbase hc1 hc2 hc3 hc4 HLL HlL HPOS
  have hmk : ∀ W : World, (Instr.makeSlice 84 (.int .i64 256) (.int .i64 256)).run Try.prog W = .ok (.slice (some ⟨W.heap.size, 0, none⟩) 256 256) (W.alloc (.cells (madeCells #[.int .u8 0] 256) 5)) := by
    intro W
    exact run_make_row' 84 5 (.int .u8 0) 1 Try.underlying84 infoB rfl .i64 .i64 256 (by decide) (by decide) W
  have G0 : Hid ((w3.alloc (.cells (madeCells #[.int .u8 0] 256) 5)).heap[w3.heap.size]? = some (.cells (u8s (mkK (M.take 0))).toArray 5 (0, 0))) := by
    unfold Hid
    rw [blk_new, made256]
    rfl
  have BA : Hid (Below w3.heap.size w3 (w3.alloc (.cells (madeCells #[.int .u8 0] 256) 5))) := (Below.refl _ w3).alloc (Nat.le_refl _) _
  go_wp2_with fail
  go_loopw [36] (fun i wr => ∃ k : Nat, k ≤ M.length ∧ i = .int .i64 k ∧ Hid (wr.heap[w3.heap.size]? = some (.cells (u8s (mkK (M.take k))).toArray 5 (0, 0))) ∧ Hid (Below w3.heap.size w3 wr)) (fun i _ => M.length - (intOf i).toNat)
  case atStart => exact ⟨0, Nat.zero_le _, rfl, G0, BA⟩
  case round =>
    obtain ⟨k, hk, rfl, gk, bk⟩ := hrel
    clear G0 BA
    by_cases hlt : k < M.length
    · obtain ⟨x0, x1⟩ := HCS.out k hlt
      have hB := (bk.out.block gm (lt_of_block HB.out)).trans HB.out
      have z0 := blk_cell hB (k * 2)
      have z1 := blk_cell hB (k * 2 + 1)
      rw [x0] at z0
      rw [x1] at z1
      obtain ⟨q1, _, _⟩ := MP.out M[k] (List.getElem_mem hlt)
      have MS : Hid (mkK (M.take (k + 1)) = (mkK (M.take k)).set (M[k].1 / 8) ((mkK (M.take k)).getD (M[k].1 / 8) 0 ||| UInt8.ofNat (2 ^ (M[k].1 % 8)))) := by unfold Hid; rw [List.take_succ_eq_append_getElem hlt, mkK_snoc]
      have ML := mkK_len (M.take k)
      generalize hx : M[k] = x at z0 z1 q1 MS
      obtain ⟨n, s⟩ := x
      simp only at z0 z1 q1 MS
      generalize mkK (M.take k) = m at gk MS ML
      clear hB x0 x1 hx
      obtain ⟨q, hq⟩ : ∃ q : Nat, q = n / 8 := ⟨_, rfl⟩
      have e1 : IntKind.i64.wrap ((n : Int) / 8) = (q : Int) := by rw [hq, IntKind.wrap_i64]; omega
      obtain ⟨r, hr⟩ : ∃ r : Nat, r = n % 8 := ⟨_, rfl⟩
      have e2 : IntKind.i64.wrap ((n : Int) % 8) = (r : Int) := by rw [hr, IntKind.wrap_i64]; omega
      have hr8 : r < 8 := by omega
      have e1b : (n : Int) / 8 = (q : Int) := by omega
      have e2b : (n : Int) % 8 = (r : Int) := by omega
      have hq2 : q < 256 := by omega
      have HQ := Lib.hid hq
      have HR := Lib.hid hr
      rw [← hq, ← hr] at MS
      clear hq hr
      have e2c : (n : Int).tmod 8 = (r : Int) := by rw [Int.tmod_eq_emod_of_nonneg (by omega)]; omega
      have wq : IntKind.i64.wrap (q : Int) = (q : Int) := by rw [IntKind.wrap_i64]; omega
      have wrr : IntKind.i64.wrap (r : Int) = (r : Int) := by rw [IntKind.wrap_i64]; omega
      have g2 : Hid ((wr.alloc (.cells #[.int .i64 (n : Int), .string s] 44)).heap[w3.heap.size]? = some (.cells (u8s m).toArray 5 (0, 0))) := blk_alloc gk.out _
      have y0 := blk_cell (blk_new wr (.cells #[.int .i64 (n : Int), .string s] 44)) 0
      simp only [List.getElem?_toArray, List.getElem?_cons_zero] at y0
      have y1 := blk_cell g2.out q
      have yf := blk_free g2.out q
      rw [blk_u8 (by omega)] at y1
      obtain ⟨bb, hbb⟩ : ∃ bb, bb = m.getD q 0 := ⟨_, rfl⟩
      rw [← hbb] at y1 MS
      have HBB := Lib.hid hbb
      clear hbb
      have OR := or_u8 bb r hr8
      obtain ⟨bv, hbv⟩ : ∃ bv, bv = bb ||| UInt8.ofNat (2 ^ r) := ⟨_, rfl⟩
      rw [← hbv] at OR MS
      clear hbv
      have G3 : Hid (((wr.alloc (.cells #[.int .i64 (n : Int), .string s] 44)).setCell ⟨w3.heap.size, q, none⟩ (.int .u8 (bv.toNat : Int))).heap[w3.heap.size]? = some (.cells (u8s (mkK (M.take (k + 1)))).toArray 5 (0, 0))) := by unfold Hid; rw [MS.out, ← blk_u8_set]; exact blk_set g2.out q _
      have B4 : Hid (Below w3.heap.size w3 ((wr.alloc (.cells #[.int .i64 (n : Int), .string s] 44)).setCell ⟨w3.heap.size, q, none⟩ (.int .u8 (bv.toNat : Int))).drew) := ((bk.out.alloc bk.out.size _).setCell (p := ⟨w3.heap.size, q, none⟩) (Nat.le_refl _) _).drew
      have hq3 : (q : Int) < 256 := by omega
      go_wp2_with fail
      refine wp_region_last (fun w' => w'.cell? ⟨wr.heap.size, 0, none⟩ = some (.int .i64 (n : Int)) ∧ w'.cell? ⟨w3.heap.size, q, none⟩ = some (.int .u8 (bb.toNat : Int))) [(0, 1), (1, 1), (6, 1), (2, 2), (3, 1), (4, 1), (5, 2), (7, 2), (8, 1), (9, 1), (10, 1), (11, 1)] 12 (by kernel_rfl) (by kernel_rfl) ⟨y0, y1⟩ ?_
      repeat (refine wpL_dry (fun K hK => ?_); simp only [List.getD_cons_zero, List.getD_cons_succ]; go_simp; refine hK _ ?_; clear hK K)
      refine wpL_read (.int .i64 (n : Int)) rfl (fun w' hS => by obtain ⟨s1, s2⟩ := hS; simp only [List.getD_cons_zero, List.getD_cons_succ]; go_simp) (fun K hK => ?_)
      simp only [List.getD_cons_zero, List.getD_cons_succ]
      go_simp
      refine hK _ ?_
      clear hK K
      repeat (refine wpL_dry (fun K hK => ?_); simp only [List.getD_cons_zero, List.getD_cons_succ]; go_simp; refine hK _ ?_; clear hK K)
      refine wpL_read (.int .u8 (bb.toNat : Int)) rfl (fun w' hS => by obtain ⟨s1, s2⟩ := hS; simp only [List.getD_cons_zero, List.getD_cons_succ]; go_simp) (fun K hK => ?_)
      simp only [List.getD_cons_zero, List.getD_cons_succ]
      go_simp
      refine hK _ ?_
      clear hK K
      refine wpL_read (.int .i64 (n : Int)) rfl (fun w' hS => by obtain ⟨s1, s2⟩ := hS; simp only [List.getD_cons_zero, List.getD_cons_succ]; go_simp) (fun K hK => ?_)
      simp only [List.getD_cons_zero, List.getD_cons_succ]
      go_simp
      refine hK _ ?_
      clear hK K
      repeat (refine wpL_dry (fun K hK => ?_); simp only [List.getD_cons_zero, List.getD_cons_succ]; go_simp; refine hK _ ?_; clear hK K)
      refine wpL_last ?_
      simp only [List.getD_cons_zero, List.getD_cons_succ]
      go_wp2_with fail
      refine ⟨trivial, ?_⟩
      go_wp2
      go_roundw
      case rel => first | exact ⟨k + 1, hlt, by go_num, G3, B4⟩ | ((repeat apply Exists.intro); refine ⟨?_, rfl⟩; exact ⟨k + 1, hlt, by go_num, G3, B4⟩)
      case measure => simp [intOf]; omega
    · obtain rfl : k = M.length := by omega
      rw [List.take_length] at gk
      have Bw : Hid (Below w.heap.size w wr) := B3.out.trans (bk.out.mono B3.out.size)
      have Jr : Hid (Jb wr gj g P) := HJ.out.below Bw.out
      have NFm : Hid (¬ F w3.heap.size) := fun hh => by
        have h1 := HD.out.lt _ hh
        have h2 := B3.out.size
        omega
      have LT3 : Hid (w3.heap.size < wr.heap.size) := lt_of_block gk.out
      have LTj : Hid (gj < wr.heap.size) := lt_of_block Jr.out
      have HBr : Hid (wr.heap[gm]? = some (.cells cur 44 (0, 0))) := (bk.out.block gm (lt_of_block HB.out)).trans HB.out
      have HDr : Hid (HasDisk wr F g d) := HD.out.below Bw.out
      obtain ⟨mk, hmkl⟩ : ∃ mk, mk = mkK M := ⟨_, rfl⟩
      have MKL : Hid (mk.length = 256) := by unfold Hid; rw [hmkl]; exact mkK_len M
      obtain ⟨sm, hsm⟩ : ∃ sm, sm = mkB M := ⟨_, rfl⟩
      have HSM2 : Hid (ByteArray.mk mk.toArray = sm) := by unfold Hid; rw [hmkl, hsm]; rfl
      have SSZ : Hid (sm.size ≤ 1000000) := by have := MKL.out; unfold Hid; rw [← HSM2.out, show (ByteArray.mk mk.toArray).size = mk.length from rfl]; omega
      have HSM := Lib.hid hsm
      clear hsm
      rw [← hmkl] at gk
      have LA := Lib.hid (layAllA_any wr F gj g P d HDr.out Jr.out HF.out hP M gm cm cur HBr.out NF.out HCS.out (fun x hx => ⟨(MP.out x hx).1, (MP.out x hx).2.2⟩) (FW.out.mono (by omega)) (by omega))
      have keep : Hid (∀ (D : Dk) (W : World) (F' : Nat → Prop), DTo wr F g D W F' → (Jb W gj g P ∧ ¬ F' gj) ∧ (W.heap[gm]? = some (.cells cur 44 (0, 0)) ∧ ¬ F' gm) ∧ W.heap[w3.heap.size]? = some (.cells (u8s mk).toArray 5 (0, 0)) ∧ ¬ F' w3.heap.size) := fun D W F' ht => by
        have nw : ∀ j, ¬ F j → j < wr.heap.size → ¬ F' j := fun j hj hlt hh => by
          rcases ht.new j hh with h | h
          · exact hj h
          · omega
        exact ⟨⟨Jr.out.touch ht.touch HF.out, nw _ HF.out LTj.out⟩, ⟨blk_touch ht.touch HBr.out NF.out, nw _ NF.out (lt_of_block HBr.out)⟩, blk_touch ht.touch gk.out NFm.out, nw _ NFm.out LT3.out⟩
      clear gk bk hmkl hk hlt NFm LT3 LTj
      unfold JTo at LA
      obtain ⟨r0, hr0⟩ : ∃ r0, r0 = run d (stepsA M) := ⟨_, rfl⟩
      rw [← hr0] at LA
      have HR0 := Lib.hid hr0
      have FA : Hid (Fw (4 * M.length + 6) r0.1) := by unfold Hid; rw [hr0]; exact fw_run _ (FW.out.mono (by rw [stepsA_len]; omega))
      clear hr0
      go_wp2_with fail
      refine LA.out.mono ?_
      rintro e w4 ⟨rfl, F4, ht4⟩
      have T4 := Lib.hid ht4
      clear ht4 LA
      have FL := Lib.hid (flushed_run w4 F4 gj g P d (stepsA M) r0 HR0.out T4.out.has (keep.out _ _ _ T4.out).1.1 (FA.out.mono (by omega)))
      obtain ⟨r1, hr1⟩ : ∃ r1, r1 = run d (stepsA M ++ [flushS]) := ⟨_, rfl⟩
      rw [← hr1] at FL
      have HR1 := Lib.hid hr1
      have FB : Hid (Fw (4 * M.length + 5) r1.1) := by unfold Hid; rw [hr1]; exact fw_run _ (FW.out.mono (by rw [List.length_append, stepsA_len]; simp; omega))
      clear hr1
      go_wp2_with fail
      refine FL.out.mono ?_
      rintro e w5 ⟨rfl, F5, ht5⟩
      have T5 : Hid (DTo wr F g r1.1 w5 F5) := T4.out.then ht5
      clear ht5 FL T4
      have DN : Hid (∀ r : Dk × Int, run d (commitK P M) = r → ∀ W F', DTo wr F g r.1 W F' → ∃ x d' F', (Ending.returned (.int .i64 r.2) = .returned (.int .i64 x)) ∧ CoTo P d l x d' ∧ DTo w F g d' W F') := fun r hr W F' ht => by
        refine ⟨r.2, r.1, F', rfl, ?_, DTo.pre Bw.out ht⟩
        rw [← hr]
        exact .run HY.out HDN.out NIL.out M OM.out PLL.out
      by_cases h1 : r1.2 = 0
      rotate_left
      · have E : Hid (run d (commitK P M) = r1) := by unfold Hid; rw [commitK, stop3 (by rw [← HR1.out]; exact h1), ← HR1.out]
        obtain ⟨x1, x2⟩ := r1
        have d9 : (x2 != 0) = true := by simpa using h1
        clear h1
        go_wp2
        go_ret
        exact DN.out (x1, x2) E.out _ _ T5.out
      rw [h1]
      have S1 := Lib.hid h1
      clear h1
      obtain ⟨K5, -⟩ : Hid ((Jb w5 gj g P ∧ ¬ F5 gj) ∧ (w5.heap[gm]? = some (.cells cur 44 (0, 0)) ∧ ¬ F5 gm) ∧ w5.heap[w3.heap.size]? = some (.cells (u8s mk).toArray 5 (0, 0)) ∧ ¬ F5 w3.heap.size) ∧ True := ⟨keep.out _ _ _ T5.out, trivial⟩
      have J5 : Hid (Jb w5.drew gj g P) := K5.out.1.1.below (Below.refl _ w5).drew
      have c5 := J5.out.cells.1
      have g5 : w5.drew.heap[w3.heap.size]? = some (.cells (u8s mk).toArray 5 (0, 0)) := K5.out.2.2.1
      obtain ⟨ra, hra⟩ : ∃ r, r = run r1.1 [(0, sm)] := ⟨_, rfl⟩
      have HRA := Lib.hid hra
      have FRA : Hid (Fw (4 * M.length + 4) ra.1) := by unfold Hid; rw [hra]; exact fw_run [_] (FB.out.mono (by simp))
      clear hra
      obtain ⟨rb, hrb⟩ : ∃ r, r = run r1.1 ([(0, sm)] ++ [flushS]) := ⟨_, rfl⟩
      have HRB := Lib.hid hrb
      have FRB : Hid (Fw (4 * M.length + 3) rb.1) := by unfold Hid; rw [hrb]; exact fw_run _ (FB.out.mono (by simp))
      have WR := Lib.hid (write_run w5.drew F5 g r1.1 T5.out.has.drew sm SSZ.out (FB.out.mono (by omega)) ra HRA.out)
      go_wp2_with fail
      refine wp_region_flag (fun w' => w'.cell? ⟨gj, 0, none⟩ = some (.pointer (some ⟨g, 0, none⟩)) ∧ w'.heap[w3.heap.size]? = some (.cells (u8s mk).toArray 5 (0, 0))) [(0, 1), (1, 1), (2, 1), (3, 1), (5, 1), (4, 2), (6, 2), (7, 0), (8, 0), (9, 1)] (by kernel_rfl) (by kernel_rfl) ⟨c5, g5⟩ ?_
      simp only [ordered, List.map_cons, List.map_nil, List.getD_cons_zero, List.getD_cons_succ]
      repeat (refine wpF_dry (fun K hK => ?_); go_simp; refine hK _ ?_; clear hK K)
      refine wpF_read (.pointer (some ⟨g, 0, none⟩)) rfl (fun w' hS => by obtain ⟨s1, s2⟩ := hS; go_simp) (fun K hK => ?_)
      go_simp
      refine hK _ ?_
      clear hK K
      refine wpF_read (.string sm) rfl (fun w' hS => by obtain ⟨s1, s2⟩ := hS; have cv := conv_u8 s2 256 256 MKL.out; rw [HSM2.out] at cv; go_simp) (fun K hK => ?_)
      go_simp
      refine hK _ ?_
      clear hK K
      refine wpF_do ?_
      go_wp2_with fail
      refine WR.out.mono ?_
      rintro e w6 ⟨rfl, F6, ht6⟩
      have T6 : Hid (DTo wr F g ra.1 w6 F6) := (T5.out.post (Below.refl _ w5).drew).then ht6
      have K6 := Lib.hid (keep.out _ _ _ T6.out)
      have c6 := K6.out.1.1.cells.1
      have g6 := K6.out.2.2.1
      have FL := Lib.hid (flushed_run w6 F6 gj g P r1.1 [(0, sm)] ra HRA.out T6.out.has K6.out.1.1 (FRA.out.mono (by omega)))
      rw [← hrb] at FL
      clear ht6 WR c5 g5 hrb
      go_wp2_with fail
      refine ⟨⟨c6, g6⟩, ?_⟩
      refine wpF_do ?_
      go_wp2_with fail
      refine FL.out.mono ?_
      rintro e w7 ⟨rfl, F7, ht7⟩
      have T7 : Hid (DTo wr F g rb.1 w7 F7) := T6.out.then ht7
      have K7 := Lib.hid (keep.out _ _ _ T7.out)
      have c7 := K7.out.1.1.cells.1
      have g7 := K7.out.2.2.1
      clear ht7 FL c6 g6
      go_wp2_with fail
      refine ⟨⟨c7, g7⟩, ?_⟩
      repeat (refine wpF_dry (fun K hK => ?_); go_simp; refine hK _ ?_; clear hK K)
      refine wpF_nil ?_
      clear c7 g7
      by_cases h2 : rb.2 = 0
      rotate_left
      · have E : Hid (run d (commitK P M) = rb) := by
          unfold Hid
          rw [commitK, ← HSM.out, stop2 (by rw [← HR1.out]; exact S1.out) (by rw [← HR1.out, ← HRB.out]; exact h2), ← HR1.out, ← HRB.out]
        obtain ⟨x1, x2⟩ := rb
        have d9 : (x2 != 0) = true := by simpa using h2
        clear h2
        go_wp2
        go_ret
        first | exact DN.out (x1, x2) E.out _ _ T7.out | (obtain ⟨_, y2, y3, e1, e2, e3⟩ := DN.out (x1, x2) E.out _ _ T7.out; injection e1 with e1; injection e1 with _ e1; subst e1; exact ⟨_, rfl, y2, e2, y3, e3⟩)
      rw [h2]
      have HAB : Hid (rb = run d (stepsA M ++ [flushS] ++ ([(0, mkB M)] ++ [flushS]))) := by unfold Hid; rw [run_go (by rw [← HR1.out]; exact S1.out), ← HR1.out, ← HSM.out, ← HRB.out]
      have S2 := Lib.hid h2
      clear h2
      have LB := Lib.hid (layAllB_any w7 F7 gj g P rb.1 T7.out.has K7.out.1.1 K7.out.1.2 hP M gm cm cur K7.out.2.1.1 K7.out.2.1.2 HCS.out (fun x hx => ⟨(MP.out x hx).1, (MP.out x hx).2.2⟩) (FRB.out.mono (by omega)) (by omega))
      unfold JTo at LB
      obtain ⟨rc, hrc⟩ : ∃ r, r = run rb.1 (stepsB P M) := ⟨_, rfl⟩
      rw [← hrc] at LB
      have HRC := Lib.hid hrc
      have FRC : Hid (Fw 3 rc.1) := by unfold Hid; rw [hrc]; exact fw_run _ (FRB.out.mono (by rw [stepsB_len]; omega))
      clear hrc
      obtain ⟨rd, hrd⟩ : ∃ r, r = run rb.1 (stepsB P M ++ [flushS]) := ⟨_, rfl⟩
      have HRD := Lib.hid hrd
      have FRD : Hid (Fw 2 rd.1) := by unfold Hid; rw [hrd]; exact fw_run _ (FRB.out.mono (by rw [List.length_append, stepsB_len]; simp; omega))
      go_wp2_with fail
      refine LB.out.mono ?_
      rintro e w8 ⟨rfl, F8, ht8⟩
      have T8 : Hid (DTo wr F g rc.1 w8 F8) := T7.out.then ht8
      have FL := Lib.hid (flushed_run w8 F8 gj g P rb.1 (stepsB P M) rc HRC.out T8.out.has (keep.out _ _ _ T8.out).1.1 (FRC.out.mono (by omega)))
      rw [← hrd] at FL
      clear ht8 LB hrd
      go_wp2_with fail
      refine FL.out.mono ?_
      rintro e w9 ⟨rfl, F9, ht9⟩
      have T9 : Hid (DTo wr F g rd.1 w9 F9) := T8.out.then ht9
      clear ht9 FL
      by_cases h3 : rd.2 = 0
      rotate_left
      · have E : Hid (run d (commitK P M) = rd) := by
          unfold Hid
          rw [commitK, stop1 (by rw [← HAB.out]; exact S2.out) (by rw [← HAB.out, ← HRD.out]; exact h3), ← HAB.out, ← HRD.out]
        obtain ⟨x1, x2⟩ := rd
        have d9 : (x2 != 0) = true := by simpa using h3
        clear h3
        go_wp2
        go_ret
        first | exact DN.out (x1, x2) E.out _ _ T9.out | (obtain ⟨_, y2, y3, e1, e2, e3⟩ := DN.out (x1, x2) E.out _ _ T9.out; injection e1 with e1; injection e1 with _ e1; subst e1; exact ⟨_, rfl, y2, e2, y3, e3⟩)
      rw [h3]
      have HAC : Hid (rd = run d (stepsA M ++ [flushS] ++ ([(0, mkB M)] ++ [flushS]) ++ (stepsB P M ++ [flushS]))) := by unfold Hid; rw [run_go (by rw [← HAB.out]; exact S2.out), ← HAB.out, ← HRD.out]
      have S3 := Lib.hid h3
      clear h3
      have J9 := Lib.hid (keep.out _ _ _ T9.out).1.1
      have J9d : Hid (Jb w9.drew gj g P) := J9.out.below (Below.refl _ w9).drew
      have c9 := J9d.out.cells.1
      have BW9 : Hid (Below w9.heap.size w9 (w9.alloc (.cells (madeCells #[.int .u8 0] 256) 5)).drew) := ((Below.refl _ w9).alloc (Nat.le_refl _) _).drew
      have T9a := Lib.hid (T9.out.post BW9.out)
      have J9a : Hid (Jb (w9.alloc (.cells (madeCells #[.int .u8 0] 256) 5)).drew gj g P) := J9.out.below BW9.out
      have c9a := J9a.out.cells.1
      obtain ⟨z, hz⟩ : ∃ z, z = Dk.sector0 := ⟨_, rfl⟩
      have hcv : (convert 84 9 (.slice (some ⟨w9.heap.size, 0, none⟩) 256 256)).run Try.prog (w9.alloc (.cells (madeCells #[.int .u8 0] 256) 5)).drew = .ok (.string z) (w9.alloc (.cells (madeCells #[.int .u8 0] 256) 5)).drew := by rw [hz]; exact conv_zero w9.drew 256 w9.heap.size rfl (by decide)
      have ZS : Hid (z.size = 256) := by unfold Hid; rw [hz]; exact Dk.rep_size 256 0
      have HZ := Lib.hid hz
      clear hz
      obtain ⟨re, hre⟩ : ∃ r, r = run rd.1 [(0, z)] := ⟨_, rfl⟩
      have HRE := Lib.hid hre
      have FRE : Hid (Fw 1 re.1) := by unfold Hid; rw [hre]; exact fw_run [_] (FRD.out.mono (by simp))
      clear hre
      obtain ⟨rf, hrf⟩ : ∃ r, r = run rd.1 ([(0, z)] ++ [flushS]) := ⟨_, rfl⟩
      have HRF := Lib.hid hrf
      have WR := Lib.hid (write_run (w9.alloc (.cells (madeCells #[.int .u8 0] 256) 5)).drew F9 g rd.1 T9a.out.has z (by have := ZS.out; omega) (FRD.out.mono (by omega)) re HRE.out)
      go_wp2_with fail
      refine wp_region_flag (fun w' => w'.cell? ⟨gj, 0, none⟩ = some (.pointer (some ⟨g, 0, none⟩))) [(0, 1), (1, 1), (2, 1), (3, 1), (4, 2), (5, 0), (6, 0), (7, 0), (8, 0), (9, 1)] (by kernel_rfl) (by kernel_rfl) c9 ?_
      simp only [ordered, List.map_cons, List.map_nil, List.getD_cons_zero, List.getD_cons_succ]
      repeat (refine wpF_dry (fun K hK => ?_); go_simp; refine hK _ ?_; clear hK K)
      refine wpF_read (.pointer (some ⟨g, 0, none⟩)) rfl (fun w' hS => by obtain s1 := hS; go_simp) (fun K hK => ?_)
      go_simp
      refine hK _ ?_
      clear hK K
      refine wpF_do ?_
      go_wp2_with fail
      refine ⟨c9a, ?_⟩
      refine wpF_do ?_
      go_wp2_with fail
      refine ⟨c9a, ?_⟩
      refine wpF_do ?_
      go_wp2_with fail
      refine WR.out.mono ?_
      rintro e w10 ⟨rfl, F10, ht10⟩
      have T10 : Hid (DTo wr F g re.1 w10 F10) := T9a.out.then ht10
      have K10 := Lib.hid (keep.out _ _ _ T10.out).1.1
      have c10 := K10.out.cells.1
      have FL := Lib.hid (flushed_run w10 F10 gj g P rd.1 [(0, z)] re HRE.out T10.out.has K10.out (FRE.out.mono (by omega)))
      rw [← hrf] at FL
      clear ht10 WR c9 c9a hrf hcv
      go_wp2_with fail
      refine ⟨c10, ?_⟩
      refine wpF_do ?_
      go_wp2_with fail
      refine FL.out.mono ?_
      rintro e w11 ⟨rfl, F11, ht11⟩
      have T11 : Hid (DTo wr F g rf.1 w11 F11) := T10.out.then ht11
      have c11 := (keep.out _ _ _ T11.out).1.1.cells.1
      clear ht11 FL c10
      go_wp2_with fail
      refine ⟨c11, ?_⟩
      repeat (refine wpF_dry (fun K hK => ?_); go_simp; refine hK _ ?_; clear hK K)
      refine wpF_nil ?_
      have E : Hid (run d (commitK P M) = rf) := by unfold Hid; rw [commitK, run_go (by rw [← HAC.out]; exact S3.out), ← HAC.out, ← HZ.out, ← HRF.out]
      obtain ⟨x1, x2⟩ := rf
      go_wp2
      go_ret
      first | exact DN.out (x1, x2) E.out _ _ T11.out | (obtain ⟨_, y2, y3, e1, e2, e3⟩ := DN.out (x1, x2) E.out _ _ T11.out; injection e1 with e1; injection e1 with _ e1; subst e1; exact ⟨_, rfl, y2, e2, y3, e3⟩)
end Go.Proofs.Ytpaabfadniakoaa
/- JnJ: the walk of told and of its iterator. -/
set_option linter.unusedVariables false
set_option linter.unusedSimpArgs false
namespace Go.Proofs.Ytpaabfadniakoaa
open Go.RowKit Go.Shelf

theorem told_make (w : World) (m : ByteArray) : Calls Try.prog 41 #[.string m] w fun e w' => ∃ Bc, e = .returned (.func (.func 62) #[] #[.pointer (some ⟨Bc, 0, none⟩)]) ∧ w'.cell? ⟨Bc, 0, none⟩ = some (.string m) ∧ w.heap.size ≤ Bc ∧ Bc < w'.heap.size ∧ Below w.heap.size w w' := by
  go_enter Try.func41, Try.ntmps41
  go_wp2
  go_ret
  exact ⟨w.heap.size, rfl, by simp, Nat.le_refl _, by simp, (Below.refl _ w).alloc (Nat.le_refl _) _⟩
theorem and_u8 (x : Nat) : bits .and .u8 (x : Int) 1 = ((x % 2 : Nat) : Int) := by
  show IntKind.u8.wrap (((BitVec.ofInt 8 (x : Int) &&& BitVec.ofInt 8 1).toNat : Nat) : Int) = _
  rw [BitVec.ofInt_natCast, IntKind.wrap_u8, BitVec.toNat_and, BitVec.toNat_ofNat, show (BitVec.ofInt 8 1).toNat = 1 from rfl, Nat.and_one_is_mod]
  omega
theorem told_bit {m : ByteArray} {k : Nat} (h : k / 8 < m.size) : bits .and .u8 ((m[k / 8].toNat : Int) / 2 ^ (k % 8)) 1 = if told m k = true then 1 else 0 := by
  have e : ((m[k / 8].toNat : Int) / 2 ^ (k % 8)) = ((m[k / 8].toNat / 2 ^ (k % 8) : Nat) : Int) := by simp
  have e2 : m.data.toList.getD (k / 8) 0 = m[k / 8] := by
    rw [List.getD_eq_getElem?_getD, Array.getElem?_toList, Array.getElem?_eq_getElem (by exact h)]
    rfl
  rw [e, and_u8]
  unfold told
  rw [e2]
  have := Nat.mod_two_eq_zero_or_one (m[k / 8].toNat / 2 ^ (k % 8))
  rcases this with h | h <;> rw [h] <;> rfl
set_option maxHeartbeats 1600000 in
set_option maxRecDepth 100000 in
/-- The iterator: whatever the caller keeps between its rounds; a round that says 'no more' ends it. -/
theorem told_in (F : Fence) (n : Nat) (hf : F.fn 62) (hro : F.round = none) (hn : 1 ≤ n) (l Bc : Nat) (m : ByteArray) (hm : m.size = 256) (J : Nat → World → Prop) (X : World → Prop) (W : World)
    (hbox : ∀ k W', J k W' → W'.cell? ⟨Bc, 0, none⟩ = some (.string m))
    (hno : ∀ k W', k < 128 → told m k = false → J k W' → J (k + 1) W')
    (hY : ∀ k W', k < 128 → told m k = true → J k W' → YieldAt F (n - 1) Try.prog l #[.int .i64 (k : Int)] W' fun e W'' => (e = .returned (.bool true) ∧ J (k + 1) W'') ∨ (e = .returned (.bool false) ∧ X W''))
    (h0 : J 0 W) :
    CallsIn F n Try.prog 62 #[.func (.yield l) #[] #[], .pointer (some ⟨Bc, 0, none⟩)] W fun e W' => (∃ v, e = .returned v) ∧ (J 128 W' ∨ X W') := by
  have HBX := Lib.hid hbox; have HNO := Lib.hid hno; have HY := Lib.hid hY; have H0 := Lib.hid h0; have HM := Lib.hid hm
  clear hbox hno hY h0 hm
  refine callsIn_of_wp Try.func62 rfl hf ?_ hro
  simp only [Try.ntmps62, List.size_toArray, List.length_cons, List.length_nil, Nat.reduceAdd, Nat.reduceSub, Array.replicate_succ, Array.replicate_zero, List.push_toArray, List.append_toArray, List.nil_append, List.cons_append]
  gi_wp2
  gi_loopw [4] (fun i wr => ∃ k : Nat, k ≤ 128 ∧ i = .int .i64 k ∧ Hid (J k wr)) (fun i _ => 128 - (intOf i).toNat)
  case atStart => exact ⟨0, by decide, rfl, H0⟩
  case round =>
    obtain ⟨k, hk, rfl, hJ⟩ := hrel
    by_cases hlt : k < 128
    · have bx := HBX.out k wr hJ.out
      have hkm : k / 8 < m.size := by have := HM.out; omega
      have hkm2 : (k : Int) / 8 < (m.size : Int) := by omega
      have TB := told_bit hkm
      cases ht : told m k with
      | true =>
        rw [ht, if_pos rfl] at TB
        obtain ⟨fn, tmps, assign, body, hy, hR⟩ := HY.out k wr hlt ht hJ.out
        clear ht
        gi_wp2
        refine hR.mono ?_
        rintro e W3 (⟨rfl, hJ3⟩ | ⟨rfl, hX⟩)
        · have HJ3 := Lib.hid hJ3
          clear hJ3
          gi_wp2
          go_roundw
          case rel => exact ⟨k + 1, hlt, by go_num, HJ3⟩
          case measure => simp [intOf]; omega
        · gi_wp2
          refine bodyPost_ret (results_none rfl _ _ _) rfl ?_
          exact ⟨⟨_, rfl⟩, .inr hX⟩
      | false =>
        rw [ht, if_neg (by decide)] at TB
        have HJ3 := Lib.hid (HNO.out k wr hlt ht hJ.out)
        clear ht
        gi_wp2
        refine ⟨fun f hf => (by cases hf), ?_⟩
        gi_wp2
        go_roundw
        case rel => exact ⟨k + 1, hlt, by go_num, HJ3⟩
        case measure => simp [intOf]; omega
    · obtain rfl : k = 128 := by omega
      gi_wp2
      go_end0
      exact ⟨⟨_, rfl⟩, .inl hJ.out⟩
end Go.Proofs.Ytpaabfadniakoaa
