/- ShG: the first entry of a shelf. -/
import Derived.Test.YtoolkamajlgcbaaShF
import Derived.Test.YtoolkamajlgcbaaReg7
import Derived.Maps.AppendAt
set_option linter.unusedVariables false
set_option linter.unusedSimpArgs false
namespace Go.Proofs.Ytoolkamajlgcbaa
open Go.RowKit

set_option maxRecDepth 100000 in
theorem may_ok (w : World) (a b : ByteArray) (h1 : 1 ≤ a.size) (h2 : a.size ≤ 64) (h3 : b.size ≤ 400) : Calls Try.prog 41 #[.string a, .string b] w fun e w' => e = .returned (.bool true) ∧ w = w' := by
  have d1 : decide (1 ≤ (a.size : Int)) = true := by simp; omega
  have d2 : decide ((a.size : Int) ≤ 64) = true := by simp; omega
  have d3 : decide ((b.size : Int) ≤ 400) = true := by simp; omega
  have e1 : decide (1 ≤ a.size) = true := by simpa using h1
  have e2 : decide (a.size ≤ 64) = true := by simpa using h2
  have e3 : decide (b.size ≤ 400) = true := by simpa using h3
  go_enter Try.func41, Try.ntmps41
  go_wp2
  go_ret
  exact ⟨rfl, rfl⟩
theorem infoLf : (Try.prog.info? 82).map (fun i => (i.zero, i.size, i.bytes)) = some (some (.agg #[.int .i64 0, .slice none 0 0]), 2, 32) := by kernel_rfl
theorem infoPr : (Try.prog.info? 47).map (fun i => (i.zero, i.size, i.bytes)) = some (some (.agg #[.string ByteArray.empty, .string ByteArray.empty]), 2, 32) := by kernel_rfl
theorem two_new (w : World) (a b : Value) (t : TypeId) : ∀ j u, [a, b][j]? = some u → (w.alloc (.cells #[a, b] t)).cell? ((⟨w.heap.size, 0, none⟩ : Addr).add j) = some u := by
  intro j u hj
  have h := blk_new w (.cells #[a, b] t)
  match j, hj with
  | 0, hj => rw [show (⟨w.heap.size, 0, none⟩ : Addr).add 0 = ⟨w.heap.size, 0, none⟩ from rfl, blk_cell h 0]; simpa using hj
  | 1, hj => rw [show (⟨w.heap.size, 0, none⟩ : Addr).add 1 = ⟨w.heap.size, 1, none⟩ from rfl, blk_cell h 1]; simpa using hj
  | j + 2, hj => simp at hj
/-- A shelf of one leaf. -/
structure OneS (w : World) (base gs gj bl c : Nat) (A : Option Addr) (n c2 : Nat) (l : PL) : Prop where
  box : ShB w gs gj (.slice (some ⟨bl, 0, none⟩) 1 c)
  row : w.ownsRow base 82 2 (.slice (some ⟨bl, 0, none⟩) 1 c) 1 [.int .i64 1, .slice A n c2]
  hlen : n = l.length
  cap : n ≤ c2
  rd : RdPr w A l
theorem shRd_nil {w : World} {gs gj : Nat} (h : ShB w gs gj (.slice none 0 0)) : ShRd w gs [] := ⟨none, 0, by have := blk_cell h 1; simpa using this, Nat.le_refl _, fun h => by simp at h⟩
set_option maxHeartbeats 3200000 in
set_option maxRecDepth 100000 in
theorem put_first (w : World) (gs gj : Nat) (hb : ShB w gs gj (.slice none 0 0)) (a x : ByteArray) (h1 : 1 ≤ a.size) (h2 : a.size ≤ 64) (h3 : x.size ≤ 400) :
    Calls Try.prog 17 #[.pointer (some ⟨gs, 0, none⟩), .string a, .string x] w fun e w' => e = .returned (.int .i64 0) ∧ Touch (fun k => k = gs) w w' ∧ ∃ bl c bp, OneS w' w.heap.size gs gj bl c (some ⟨bp, 0, none⟩) 1 1 [(a, x)] := by
  obtain ⟨i0, hi, hz0, hz1, hz2⟩ := info_parts infoLf
  have MY := Lib.hid (may_ok w a x h1 h2 h3)
  obtain ⟨W1, hW1⟩ : ∃ W1, W1 = w.alloc (.cells #[.string a, .string x] 47) := ⟨_, rfl⟩
  have Q1 : Below w.heap.size w W1 := by rw [hW1]; exact (Below.refl _ w).alloc (Nat.le_refl _) _
  have B1 := (hb : ShB w gs gj (.slice none 0 0))
  have hb1 : ShB W1 gs gj (.slice none 0 0) := (Q1.block _ (lt_of_block hb)).trans hb
  have hp1 : W1.heap[w.heap.size]? = some (.cells #[.string a, .string x] 47 (0, 0)) := by rw [hW1]; exact blk_new w _
  have FN := Lib.hid (find_any W1 gs [] (shRd_nil hb1) (fun i h => by simp at h) (by simp) (fun i => by simp [lfA]) a)
  have r0 : fI [] a = 0 ∧ fK [] a = 0 := by unfold fI fK; refine ⟨?_, rfl⟩; rw [srch]; rfl
  rw [r0.1, r0.2, hW1] at FN
  have Q1h := Lib.hid Q1; have HB1 := Lib.hid hb1; have HP1 := Lib.hid hp1
  clear r0 Q1 hb1 hp1
  go_enter Try.func17, Try.ntmps17
  go_wp2_with fail
  refine MY.out.mono ?_
  rintro e w' ⟨rfl, rfl⟩
  go_wp2_with fail
  refine FN.out.mono ?_
  rw [← hW1]
  rintro e w2 ⟨rfl, q2⟩
  have hb2 : ShB w2 gs gj (.slice none 0 0) := (q2.block _ (lt_of_block HB1.out)).trans HB1.out
  have hp2 : w2.heap[w.heap.size]? = some (.cells #[.string a, .string x] 47 (0, 0)) := (q2.block _ (lt_of_block HP1.out)).trans HP1.out
  have Q2 : Hid (Below w.heap.size w w2) := Q1h.out.trans (q2.mono Q1h.out.size)
  have c0 := blk_cell hb2 0; have c1 := blk_cell hb2 1
  have p0 := blk_cell hp2 0; have p1 := blk_cell hp2 1
  have f1 := blk_free hb2 1
  simp at c0 c1 p0 p1
  have HB2 := Lib.hid hb2; have HP2 := Lib.hid hp2
  clear q2 FN hW1 hb2 hp2
  go_wp2_with fail
  refine wp_region_tail (fun w' => w'.cell? ⟨gs, 1, none⟩ = some (.slice none 0 0)) [(0, 1), (1, 1), (2, 1), (3, 1), (4, 2), (5, 0), (6, 0), (7, 1), (8, 0), (9, 0), (10, 1), (11, 1)] [12] (by kernel_rfl) (by kernel_rfl) c1 ?_
  repeat (refine wpT_dry (fun K hK => ?_); go_simp; refine hK _ ?_; clear hK K)
  refine wpT_read (.slice none 0 0) rfl (fun w' hS => by go_simp) (fun K hK => ?_)
  go_simp
  refine hK _ ?_
  clear hK K
  refine wpT_do ?_
  go_wp2_with fail
  refine ⟨c1, ?_⟩
  obtain ⟨W3, hW3⟩ : ∃ W3, W3 = (w2.alloc (.cells #[.string a, .string x] 47)).drew := ⟨_, rfl⟩
  have q23 : Below w2.heap.size w2 W3 := by rw [hW3]; exact ((Below.refl _ w2).alloc (Nat.le_refl _) _).drew
  have b3 : W3.heap[w2.heap.size]? = some (.cells #[.string a, .string x] 47 (0, 0)) := by rw [hW3]; exact blk_new w2 _
  have HB3 : Hid (ShB W3 gs gj (.slice none 0 0)) := (q23.block _ (lt_of_block HB2.out)).trans HB2.out
  have k2 := blk_cell HB3.out 1
  simp at k2
  have K2 := Lib.hid k2; have B3 := Lib.hid b3; have HW3 := Lib.hid hW3; have Q23 := Lib.hid q23
  refine wpT_do ?_
  clear b3 hW3 k2 q23
  go_wp2_with fail
  rw [← HW3.out]
  refine ⟨K2.out, ?_⟩
  repeat (refine wpT_dry (fun K hK => ?_); go_simp; refine hK _ ?_; clear hK K)
  obtain ⟨W4, hW4⟩ : ∃ W4, W4 = W3.alloc (.cells #[.int .i64 1, .slice (some ⟨w2.heap.size, 0, none⟩) 1 1] 82) := ⟨_, rfl⟩
  have q34 : Below W3.heap.size W3 W4 := by rw [hW4]; exact (Below.refl _ W3).alloc (Nat.le_refl _) _
  have HB4 : Hid (ShB W4 gs gj (.slice none 0 0)) := (q34.block _ (lt_of_block HB3.out)).trans HB3.out
  have k3 := blk_cell HB4.out 1
  simp at k3
  have NW : Hid (∀ j u, [Value.int .i64 1, .slice (some ⟨w2.heap.size, 0, none⟩) 1 1][j]? = some u → W4.cell? ((⟨W3.heap.size, 0, none⟩ : Addr).add j) = some u) := by unfold Hid; rw [hW4]; exact two_new _ _ _ _
  have SZ4 : Hid (W3.heap.size < W4.heap.size) := by rw [hW4]; unfold Hid; simp
  have K3 := Lib.hid k3; have HW4 := Lib.hid hW4; have Q34 := Lib.hid q34
  refine wpT_do ?_
  clear hW4 k3 q34
  go_wp2_with fail
  rw [← HW4.out]
  refine ⟨K3.out, ?_⟩
  refine wpT_do ?_
  simp only [List.getD_cons_zero, List.getD_cons_succ]
  refine (wpList_append_own_at _ rfl (.tmp 44) (.tmp 48) 83 rfl w.heap.size 82 i0 _ 2 32 Try.underlying83 hi hz0 hz1 hz2 rfl (by decide) (.slice none 0 0) 0 [] rfl (World.ownsRow_nil _ _ _ _) ⟨W3.heap.size, 0, none⟩ 1 1 [.int .i64 1, .slice (some ⟨w2.heap.size, 0, none⟩) 1 1] rfl rfl NW.out (by simp [Value.oneCell']) (by decide) (by decide) (by have := SZ4.out; have := Q23.out.size; have := Q2.out.size; omega) ?_)
  intro v5 w5 ho5 hg5 _ hat5
  obtain ⟨bl, c5, rfl⟩ := own_shape ho5
  have hbl : bl = W4.heap.size := by
    rcases hat5 with h | h
    · cases h
    · exact Option.some.inj h
  have HB5 : Hid (ShB w5 gs gj (.slice none 0 0)) := (hg5.block _ (lt_of_block HB4.out) (by intro h; cases h)).trans HB4.out
  have g54 : Below W4.heap.size W4 w5 := (Below.refl W4.heap.size W4).grown hg5 (Nat.le_refl _) (fun j hj => by cases hj)
  have HP5 : Hid (w5.heap[w2.heap.size]? = some (.cells #[.string a, .string x] 47 (0, 0))) := (g54.block _ (by have := SZ4.out; have := lt_of_block B3.out; omega)).trans ((Q34.out.block _ (lt_of_block B3.out)).trans B3.out)
  have B5 : Hid (Below w.heap.size w w5) := ((Q2.out.trans (Q23.out.mono Q2.out.size)).trans (Q34.out.mono (Nat.le_trans Q2.out.size Q23.out.size))).trans (g54.mono (by have := SZ4.out; have := Q23.out.size; have := Q2.out.size; omega))
  have HO5 := Lib.hid ho5
  have k4 := blk_cell HB5.out 1
  have f4 := blk_free HB5.out 1
  simp at k4
  have hgs : gs < W4.heap.size := lt_of_block HB4.out
  have HBL : Hid (bl ≠ gs ∧ w2.heap.size ≠ gs) := ⟨by omega, fun e => by have h1 := lt_of_block HB2.out; omega⟩
  have ZW : Hid (w.heap.size ≤ w2.heap.size) := Q2.out.size
  clear ho5 hg5 hat5 hbl g54 hgs
  go_wp2_with fail
  refine ⟨trivial, ?_⟩
  repeat (refine wpT_dry (fun K hK => ?_); go_simp; refine hK _ ?_; clear hK K)
  refine wpT_tail ?_
  refine wpE_do ?_
  go_wp2_with fail
  refine ⟨trivial, ?_⟩
  refine wpE_nil ?_
  go_wp2
  go_ret
  have tt : Touch (fun k => k = gs) w5 (w5.setCell ⟨gs, 1, none⟩ (.slice (some ⟨bl, 0, none⟩) 1 c5)) := (Touch.refl (fun k => k = gs) w5).setCell (p := ⟨gs, 1, none⟩) (.inl rfl) _
  refine ⟨rfl, (Touch.of_below B5.out : Touch (fun k => k = gs) w w5).trans tt (fun _ _ h => h), bl, c5, w2.heap.size, ?_, ?_, rfl, Nat.le_refl _, ?_⟩
  · exact blk_set HB5.out 1 _
  · exact own_touch HO5.out tt (fun k hk e => by
      cases hk
      exact HBL.out.1 e)
  · intro _
    refine ⟨w2.heap.size, 0, rfl, fun k hk => ?_⟩
    obtain rfl : k = 0 := by simpa using hk
    have hb := blk_touch tt HP5.out HBL.out.2
    have y0 := blk_cell hb 0; have y1 := blk_cell hb 1
    simp at y0 y1
    exact ⟨y0, y1⟩
end Go.Proofs.Ytoolkamajlgcbaa
