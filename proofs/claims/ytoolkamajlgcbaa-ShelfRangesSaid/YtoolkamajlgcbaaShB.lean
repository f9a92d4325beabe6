/- ShB: a shelf's find, at and Get. -/
import Derived.Test.YtoolkamajlgcbaaShA
set_option linter.unusedVariables false
set_option linter.unusedSimpArgs false
namespace Go.Proofs.Ytoolkamajlgcbaa
open Go.RowKit

def keyA (l : PL) (k : Nat) : ByteArray := (l.getD k (ByteArray.empty, ByteArray.empty)).1
def lfA (sh : List (Nat × PL)) (i : Nat) : PL := (sh.getD i (0, [])).2
/-- The leaf where a key belongs. -/
def fI (sh : List (Nat × PL)) (key : ByteArray) : Nat := srch (fun i => gtB (keyA (lfA sh i) 0) key) 0 sh.length - 1
def fK (sh : List (Nat × PL)) (key : ByteArray) : Nat := if sh = [] then 0 else srch (fun k => geB (keyA (lfA sh (fI sh key)) k) key) 0 (lfA sh (fI sh key)).length
theorem keyA_get {l : PL} {k : Nat} (h : k < l.length) : keyA l k = l[k].1 := by unfold keyA; rw [List.getD_eq_getElem?_getD, List.getElem?_eq_getElem h]; rfl
theorem lfA_get {sh : List (Nat × PL)} {i : Nat} (h : i < sh.length) : lfA sh i = sh[i].2 := by unfold lfA; rw [List.getD_eq_getElem?_getD, List.getElem?_eq_getElem h]; rfl
/-- Leaves that may be: none is empty. -/
def Full (sh : List (Nat × PL)) : Prop := ∀ i, i < sh.length → 0 < (lfA sh i).length
theorem fI_lt {sh : List (Nat × PL)} {key : ByteArray} (h : 0 < sh.length) : fI sh key < sh.length := by
  unfold fI
  have := (srch_le (fun i => gtB (keyA (lfA sh i) 0) key) sh.length 0 sh.length (by omega) (Nat.zero_le _)).2
  omega
set_option maxHeartbeats 3200000 in
set_option maxRecDepth 100000 in
theorem find_any (w : World) (gs : Nat) (sh : List (Nat × PL)) (hs : ShRd w gs sh) (hf : Full sh) (hn : sh.length ≤ 1000000) (hn2 : ∀ i, (lfA sh i).length ≤ 1000000) (key : ByteArray) :
    Calls Try.prog 37 #[.pointer (some ⟨gs, 0, none⟩), .string key] w fun e w' => e = .returned (.tuple #[.int .i64 (fI sh key : Nat), .int .i64 (fK sh key : Nat)]) ∧ Below w.heap.size w w' := by
  have HS := Lib.hid hs
  obtain ⟨W0, hW0⟩ : ∃ W0, W0 = (w.alloc (.cells #[.pointer (some ⟨gs, 0, none⟩)] 25)).alloc (.cells #[.string key] 9) := ⟨_, rfl⟩
  have Q0 : Hid (Below w.heap.size w W0) := by rw [hW0]; exact ((Below.refl _ w).alloc (Nat.le_refl _) _).alloc (by simp) _
  have hb0 : W0.heap[w.heap.size]? = some (.cells #[.pointer (some ⟨gs, 0, none⟩)] 25 (0, 0)) := by rw [hW0]; exact blk_alloc (blk_new w _) _
  have hb1 : W0.heap[w.heap.size + 1]? = some (.cells #[.string key] 9 (0, 0)) := by
    rw [hW0]
    have e : w.heap.size + 1 = (w.alloc (.cells #[.pointer (some ⟨gs, 0, none⟩)] 25)).heap.size := by simp
    rw [e]
    exact blk_new _ _
  have a0 := blk_cell hb0 0; have a1 := blk_cell hb1 0
  simp at a0 a1
  obtain ⟨A, c, g1, g2, g3⟩ := hs.below Q0.out
  have g1w := hs
  obtain ⟨A', c', g1', _, _⟩ := g1w
  have S0 := Lib.hid (hs.below Q0.out)
  have A0 := Lib.hid a0; have A1 := Lib.hid a1
  clear hs
  by_cases hz : sh.length = 0
  · have hsh : sh = [] := List.eq_nil_of_length_eq_zero hz
    have r1 : Hid (fI sh key = 0 ∧ fK sh key = 0) := by unfold Hid fI fK; rw [hsh]; refine ⟨?_, rfl⟩; rw [srch]; rfl
    rw [hz] at g1
    rw [hW0] at a0 g1
    rw [hz] at g1'
    clear hz hsh g3
    go_enter Try.func37, Try.ntmps37
    go_wp2
    go_ret2
    exact ⟨by rw [r1.out.1, r1.out.2]; rfl, by have := Q0.out; rw [hW0] at this; exact this⟩
  · have hne : ¬ sh = [] := fun h => hz (by rw [h]; rfl)
    have hlp : 0 < sh.length := by omega
    have d0 : ((sh.length : Int) == 0) = false := by rw [beq_eq_false_iff_ne]; omega
    have d0' : (sh.length == 0) = false := by rw [beq_eq_false_iff_ne]; exact hz
    obtain ⟨i1, hi1⟩ : ∃ i1, i1 = srch (fun i => gtB (keyA (lfA sh i) 0) key) 0 sh.length := ⟨_, rfl⟩
    have hile : i1 ≤ sh.length := by rw [hi1]; exact (srch_le _ sh.length 0 sh.length (by omega) (Nat.zero_le _)).2
    have FI : Hid (fI sh key = i1 - 1) := by unfold Hid fI; rw [hi1]
    have SE1 := Lib.hid (search1_any W0 sh.length hn (.pointer (some ⟨w.heap.size, 0, none⟩)) (.pointer (some ⟨w.heap.size + 1, 0, none⟩)) (fun i => gtB (keyA (lfA sh i) 0) key) (fun h hh W hb => by
      have hne := hf h hh
      have := fkey_any W gs w.heap.size (w.heap.size + 1) sh (S0.out.below hb) key (cell_below hb A0.out) (cell_below hb A1.out) h hh (by rw [← lfA_get hh]; exact hne)
      simp only [lfA_get hh]
      rw [keyA_get (by rw [← lfA_get hh]; exact hne)]
      exact this))
    rw [← hi1] at SE1
    rw [hW0] at a0 g1 SE1
    clear hi1 g3
    go_enter Try.func37, Try.ntmps37
    go_wp2_with fail
    refine SE1.out.mono ?_
    rw [← hW0]
    rintro e w1 ⟨rfl, q1⟩
    have S1 := S0.out.below q1
    have Q1 : Hid (Below w.heap.size w w1) := Q0.out.trans (q1.mono Q0.out.size)
    replace a0 := cell_below q1 A0.out
    have a1' := cell_below q1 A1.out
    obtain ⟨i2, hi2⟩ : ∃ i2, i2 = i1 - 1 := ⟨_, rfl⟩
    have hi2l : i2 < sh.length := by omega
    obtain ⟨A3, c3, u1, u2, u3⟩ := S1
    obtain ⟨b, o, rfl, hc⟩ := u3 hlp
    obtain ⟨_, A4, c4, v2, v3, v4⟩ := hc i2 hi2l
    rw [← lfA_get hi2l] at v2 v3 v4
    have em : max ((i1 : Int) - 1) 0 = (i2 : Int) := by omega
    have em2 : (if (i1 : Int) - 1 < 0 then 0 else (i1 : Int) - 1) = (i2 : Int) := by split <;> omega
    have hil3 : (i2 : Int) < (sh.length : Int) := by omega
    have A1h := Lib.hid a1'
    have HI2 := Lib.hid hi2
    have V4 := Lib.hid v4
    clear q1 SE1 hc u3 hi2 g1 g1' a1 v4
    have FK : Hid (fK sh key = srch (fun k => geB (keyA (lfA sh i2) k) key) 0 (lfA sh i2).length) := by unfold Hid fK; rw [if_neg hne, FI.out, ← HI2.out]
    have HN2 := hn2 i2
    generalize lfA sh i2 = l at v2 v3 V4 FK HN2
    obtain ⟨W2, hW2⟩ : ∃ W2, W2 = w1.alloc (.cells #[.slice A4 l.length c4] 43) := ⟨_, rfl⟩
    have Q2 : Hid (Below w1.heap.size w1 W2) := by rw [hW2]; exact (Below.refl _ w1).alloc (Nat.le_refl _) _
    have x0 : W2.cell? ⟨w1.heap.size, 0, none⟩ = some (.slice A4 l.length c4) := by rw [hW2]; simp
    have X0 := Lib.hid x0
    have SE2 := Lib.hid (search2_any W2 l.length HN2 (.pointer (some ⟨w1.heap.size, 0, none⟩)) (.pointer (some ⟨w.heap.size + 1, 0, none⟩)) (fun k => geB (keyA l k) key) (fun h hh W hb => by
      have := fplace_any W w1.heap.size (w.heap.size + 1) l.length c4 A4 l rfl ((V4.out.below Q2.out).below hb) key (cell_below hb X0.out) (cell_below hb (cell_below Q2.out A1h.out)) h hh
      rw [keyA_get hh]
      exact this))
    have HW2 := Lib.hid hW2
    rw [hW2] at SE2
    clear x0 hW2 hne
    go_wp2_with fail
    refine SE2.out.mono ?_
    rw [← HW2.out]
    rintro e w3 ⟨rfl, q3⟩
    have Q3 : Hid (Below w.heap.size w w3) := (Q1.out.trans (Q2.out.mono Q1.out.size)).trans (q3.mono (Nat.le_trans Q1.out.size Q2.out.size))
    clear q3 SE2
    go_wp2
    go_ret2
    exact ⟨by rw [FI.out, ← HI2.out, FK.out]; rfl, Q3.out⟩
set_option maxRecDepth 100000 in
theorem find_nil (w : World) (key : ByteArray) : Calls Try.prog 37 #[.pointer none, .string key] w fun e w' => e = .returned (.tuple #[.int .i64 0, .int .i64 0]) ∧ Below w.heap.size w w' := by
  have Q0 : ∀ a b, Hid (Below w.heap.size w ((w.alloc a).alloc b)) := fun a b => ((Below.refl _ w).alloc (Nat.le_refl _) a).alloc (by simp) b
  go_enter Try.func37, Try.ntmps37
  go_wp2
  go_ret2
  exact ⟨rfl, (Q0 _ _).out⟩
set_option maxRecDepth 100000 in
theorem at_nil (w : World) (i k : Int) (key : ByteArray) : Calls Try.prog 38 #[.pointer none, .int .i64 i, .int .i64 k, .string key] w fun e w' => e = .returned (.pointer none) ∧ w = w' := by
  go_enter Try.func38, Try.ntmps38
  go_wp2
  go_ret
  exact ⟨rfl, rfl⟩
set_option maxRecDepth 100000 in
theorem get_nil (w : World) (key : ByteArray) : Calls Try.prog 15 #[.pointer none, .string key] w fun e w' => e = .returned (.tuple #[.string ByteArray.empty, .bool false]) ∧ Below w.heap.size w w' := by
  go_enter Try.func15, Try.ntmps15
  go_wp2_with fail
  refine (find_nil _ _).mono ?_
  rintro e w1 ⟨rfl, q1⟩
  have Q1 := Lib.hid q1
  clear q1
  go_wp2_with fail
  refine (at_nil _ _ _ _).mono ?_
  rintro e w' ⟨rfl, rfl⟩
  go_wp2
  go_ret2
  exact ⟨rfl, Q1.out⟩
set_option maxRecDepth 100000 in
theorem drop_nil (w : World) (key : ByteArray) : Calls Try.prog 12 #[.pointer none, .string key] w fun e w' => e = .returned (.bool false) ∧ Below w.heap.size w w' := by
  go_enter Try.func12, Try.ntmps12
  go_wp2_with fail
  refine (find_nil _ _).mono ?_
  rintro e w1 ⟨rfl, q1⟩
  have Q1 := Lib.hid q1
  clear q1
  go_wp2_with fail
  refine (at_nil _ _ _ _).mono ?_
  rintro e w' ⟨rfl, rfl⟩
  go_wp2
  go_ret
  exact ⟨rfl, Q1.out⟩
set_option maxRecDepth 100000 in
theorem put_nil (w : World) (a b : ByteArray) : Calls Try.prog 17 #[.pointer none, .string a, .string b] w fun e w' => e = .returned (.int .i64 1) ∧ w = w' := by
  go_enter Try.func17, Try.ntmps17
  go_wp2
  go_ret
  exact ⟨rfl, rfl⟩
set_option maxRecDepth 100000 in
theorem range_nil (w : World) (a b : ByteArray) (n : Int) : Calls Try.prog 19 #[.pointer none, .string a, .string b, .int .i64 n] w fun e w' => e = .returned (.slice none 0 0) ∧ w = w' := by
  go_enter Try.func19, Try.ntmps19
  go_wp2
  go_ret
  exact ⟨rfl, rfl⟩
set_option maxRecDepth 100000 in
theorem len_nil (w : World) : Calls Try.prog 25 #[.pointer none] w fun e w' => e = .returned (.int .i64 0) ∧ w = w' := by
  go_enter Try.func25, Try.ntmps25
  go_wp2
  go_ret
  exact ⟨rfl, rfl⟩
set_option maxRecDepth 100000 in
theorem ssize_nil (w : World) : Calls Try.prog 16 #[.pointer none] w fun e w' => e = .returned (.int .i64 0) ∧ w = w' := by
  go_enter Try.func16, Try.ntmps16
  go_wp2
  go_ret
  exact ⟨rfl, rfl⟩
set_option maxRecDepth 100000 in
theorem scommit_nil (w : World) : Calls Try.prog 30 #[.pointer none] w fun e w' => e = .returned (.int .i64 1) ∧ w = w' := by
  go_enter Try.func30, Try.ntmps30
  go_wp2
  go_ret
  exact ⟨rfl, rfl⟩
set_option maxRecDepth 100000 in
theorem abort_nil (w : World) : Calls Try.prog 31 #[.pointer none] w fun e w' => e = .returned (.tuple #[]) ∧ w = w' := by
  go_enter Try.func31, Try.ntmps31
  go_wp2
  go_end0
  exact ⟨rfl, rfl⟩
end Go.Proofs.Ytoolkamajlgcbaa
