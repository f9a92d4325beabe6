/- JnIp: bytes, and runs that flush or write: what Commit and Open share. -/
import Derived.Test.YtoolkamajlgcbaaJnD
import Derived.RangeFuncBox
import Derived.Maps.AppendAt
import Derived.Test.YtoolkamajlgcbaaReg4
import Derived.Test.YtoolkamajlgcbaaReg5
set_option linter.unusedVariables false
set_option linter.unusedSimpArgs false
namespace Go.Proofs.Ytoolkamajlgcbaa
open Go.RowKit
/-- The mark that tells pages. -/
def mkK (l : List Chg) : List UInt8 := l.foldl (fun m c => m.set (c.1 / 8) (m.getD (c.1 / 8) 0 ||| UInt8.ofNat (2 ^ (c.1 % 8)))) (List.replicate 256 0)
theorem mkK_snoc (l : List Chg) (x : Chg) : mkK (l ++ [x]) = (mkK l).set (x.1 / 8) ((mkK l).getD (x.1 / 8) 0 ||| UInt8.ofNat (2 ^ (x.1 % 8))) := by unfold mkK; rw [List.foldl_append]; rfl
theorem foldl_len {α : Type} (f : List UInt8 → α → List UInt8) (hf : ∀ m x, (f m x).length = m.length) : ∀ (l : List α) (m : List UInt8), (l.foldl f m).length = m.length
  | [], m => rfl
  | x :: l, m => by rw [List.foldl_cons, foldl_len f hf l, hf]
theorem mkK_len (l : List Chg) : (mkK l).length = 256 := by unfold mkK; rw [foldl_len _ (fun m x => List.length_set ..), List.length_replicate]
def mkB (l : List Chg) : ByteArray := ⟨(mkK l).toArray⟩
theorem stop3 {d : Dk} {a : List Stp} (h : (run d a).2 ≠ 0) (b c e : List Stp) : run d (a ++ b ++ c ++ e) = run d a := by
  have h1 : run d (a ++ b) = run d a := run_stop h b
  have h2 : run d (a ++ b ++ c) = run d a := by rw [run_stop (by rw [h1]; exact h), h1]
  rw [run_stop (by rw [h2]; exact h), h2]
theorem stop2 {d : Dk} {a b : List Stp} (h : (run d a).2 = 0) (hb : (run (run d a).1 b).2 ≠ 0) (c e : List Stp) : run d (a ++ b ++ c ++ e) = run (run d a).1 b := by
  have h1 : run d (a ++ b) = run (run d a).1 b := run_go h b
  have h2 : run d (a ++ b ++ c) = run (run d a).1 b := by rw [run_stop (by rw [h1]; exact hb), h1]
  rw [run_stop (by rw [h2]; exact hb), h2]
theorem stop1 {d : Dk} {a b : List Stp} (h : (run d a).2 = 0) (hb : (run (run d a).1 b).2 ≠ 0) (e : List Stp) : run d (a ++ b ++ e) = run (run d a).1 b := by
  have h1 : run d (a ++ b) = run (run d a).1 b := run_go h b
  rw [run_stop (by rw [h1]; exact hb), h1]
theorem flushed_run (w : World) (F : Nat → Prop) (gj g P : Nat) (d : Dk) (S : List Stp) (r : Dk × Int) (hr : r = run d S) (h : HasDisk w F g r.1) (hj : Jb w gj g P) (hf : Fw 0 r.1) :
    Calls Try.prog 49 #[.pointer (some ⟨gj, 0, none⟩), .int .i64 r.2] w fun e w' => e = .returned (.int .i64 (run d (S ++ [flushS])).2) ∧ ∃ F', DTo w F g (run d (S ++ [flushS])).1 w' F' := by
  have := flushed_any w F gj g P r.1 h hj hf r.2
  by_cases hx : r.2 = 0
  · have e : run d (S ++ [flushS]) = (r.1.flush, r.1.use 0) := by
      subst hr
      rw [run_go hx, run_one]
      rfl
    rw [if_pos hx, if_pos hx] at this
    rw [e]
    exact this
  · have e : run d (S ++ [flushS]) = r := by
      subst hr
      exact run_stop hx _
    rw [if_neg hx, if_neg hx] at this
    rw [e]
    exact this
theorem write_run (w : World) (F : Nat → Prop) (g : Nat) (d : Dk) (h : HasDisk w F g d) (s : ByteArray) (hs : s.size ≤ 1000000) (hf : Fw 1 d) (r : Dk × Int) (hr : r = run d [(0, s)]) :
    Calls Try.prog 52 #[.pointer (some ⟨g, 0, none⟩), .int .i64 0, .string s] w fun e w' => e = .returned (.int .i64 r.2) ∧ ∃ F', DTo w F g r.1 w' F' := by
  have := write_h h 0 s (by omega) (by have := hf.w; omega) (by have := hf.c; omega)
  have e : r = (d.write 0 s, d.writeE 0 s) := by
    rw [hr, run_one]
    unfold step stepE
    rw [if_neg (by simp), if_neg (by simp)]
  rw [e]
  exact this
theorem or_u8 (b : UInt8) (r : Nat) (h : r < 8) : bits .or .u8 (b.toNat : Int) (2 ^ r % 256) = ((b ||| UInt8.ofNat (2 ^ r)).toNat : Int) := by
  have hb : BitVec.ofInt 8 (b.toNat : Int) = b.toBitVec := by
    rw [BitVec.ofInt_natCast]
    exact BitVec.ofNat_toNat _ b.toBitVec |>.trans (BitVec.setWidth_eq _)
  have hc : BitVec.ofInt 8 ((2 : Int) ^ r % 256) = (UInt8.ofNat (2 ^ r)).toBitVec := by
    match r, h with
    | 0, _ => decide
    | 1, _ => decide
    | 2, _ => decide
    | 3, _ => decide
    | 4, _ => decide
    | 5, _ => decide
    | 6, _ => decide
    | 7, _ => decide
  show IntKind.u8.wrap (((BitVec.ofInt 8 _ ||| BitVec.ofInt 8 _).toNat : Nat) : Int) = _
  rw [hb, hc, IntKind.wrap_u8, ← UInt8.toBitVec_or]
  have := UInt8.toNat_lt (b ||| UInt8.ofNat (2 ^ r))
  rw [UInt8.toNat_toBitVec]
  omega
theorem made256 : madeCells #[.int .u8 0] 256 = (u8s (List.replicate 256 0)).toArray := by
  rw [← Array.toList_inj, toList_madeCells_one]
  rw [show (u8s (List.replicate 256 0)).toArray.toList = u8s (List.replicate 256 0) from rfl, u8s, List.map_replicate]
  rfl
theorem conv_u8 {W : World} {b : Nat} {l : List UInt8} (hb : W.heap[b]? = some (.cells (u8s l).toArray 5 (0, 0))) (n cap : Nat) (hn : l.length = n) : (convert 51 9 (.slice (some ⟨b, 0, none⟩) n cap)).run Try.prog W = .ok (.string ⟨l.toArray⟩) W := by
  rw [← hn]
  exact run_convert_bytes_back (P := Try.prog) W 51 9 5 ⟨b, 0, none⟩ cap l Try.underlying51 Try.underlying5 Try.underlying9 (fun j hj => by
    rw [show (⟨b, 0, none⟩ : Addr).add j = ⟨b, j, none⟩ by simp [Addr.add]; omega, blk_cell hb]
    simp [u8s, hj])
theorem blk_u8 {l : List UInt8} {i : Nat} (h : i < l.length) : (u8s l).toArray[i]? = some (.int .u8 ((l.getD i 0).toNat : Int)) := by simp [u8s, h]
theorem blk_u8_set (l : List UInt8) (i : Nat) (b : UInt8) : (u8s l).toArray.setIfInBounds i (.int .u8 (b.toNat : Int)) = (u8s (l.set i b)).toArray := by simp [u8s, List.map_set]
theorem grown_put (W : World) (l : Nat) (o : Obj) : W.grownBy (W.putObj l o) (some l) :=
  ⟨rfl, rfl, rfl, by simp, fun k _ hk => World.putObj_heap_other (fun e => hk (by rw [e]))⟩
theorem grown_set (W : World) (b : Nat) (v : Value) : W.grownBy (W.setCell ⟨b, 0, none⟩ v) (some b) :=
  ⟨rfl, rfl, rfl, (KeepsWalks.setCell W _ v).size, fun k _ hk => Below.heap_setCell _ _ _ k (fun e => hk (by rw [e]))⟩
end Go.Proofs.Ytoolkamajlgcbaa
