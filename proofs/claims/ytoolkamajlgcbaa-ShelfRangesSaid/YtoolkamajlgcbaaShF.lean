/- ShF: a new shelf is opened. -/
import Derived.Test.YtoolkamajlgcbaaShE
set_option linter.unusedVariables false
set_option linter.unusedSimpArgs false
namespace Go.Proofs.Ytoolkamajlgcbaa
open Go.RowKit

set_option maxHeartbeats 1600000 in
set_option maxRecDepth 100000 in
theorem sopen_zero (w : World) (F : Nat → Prop) (gj g P : Nat) (d : Dk) (h : HasDisk w F g d) (hj : Jb w gj g P) (hz : Sz d) (hw : d.waits.length < 9223372036854775807) (hP1 : 2 ≤ P) (hP : P ≤ 128) (hs : 8 * P + 1 ≤ d.l.length) (hup : d.down = false) (hpg : pageB d (1 + 4 * ((P : Int) + 0)) = Dk.rep 1024 0) :
    Calls Try.prog 22 #[.pointer (some ⟨gj, 0, none⟩)] w fun e w' => ∃ gs, e = .returned (.tuple #[.pointer (some ⟨gs, 0, none⟩), .int .i64 0]) ∧ ShB w' gs gj (.slice none 0 0) ∧ w.heap.size ≤ gs ∧ Below w.heap.size w w' := by
  have dP : decide ((P : Int) < 2) = false := by simp; omega
  have dP' : decide (P < 2) = false := by simp; omega
  have PG := Lib.hid (pages_any w gj g P hj)
  obtain ⟨W1, hW1⟩ : ∃ W1, W1 = w.alloc (.cells #[.pointer (some ⟨gj, 0, none⟩), .slice none 0 0] 85) := ⟨_, rfl⟩
  have Q1 : Below w.heap.size w W1 := by rw [hW1]; exact (Below.refl _ w).alloc (Nat.le_refl _) _
  have hb1 : ShB W1 w.heap.size gj (.slice none 0 0) := by rw [hW1]; exact blk_new w _
  have LZ := Lib.hid (load_zero W1 F w.heap.size gj g P d (h.below Q1) (hj.below Q1) hz hw (by omega) hP hs hup hpg hb1 (fun hf => by have := h.lt _ hf; omega))
  have Q1h := Lib.hid Q1
  rw [hW1] at LZ
  clear h hj hpg Q1 hb1
  go_enter Try.func22, Try.ntmps22
  go_wp2_with fail
  refine PG.out.mono ?_
  rintro e w' ⟨rfl, rfl⟩
  go_wp2_with fail
  refine LZ.out.mono ?_
  rw [← hW1]
  rintro e w2 ⟨rfl, t2, hb⟩
  have B2 : Hid (Below w.heap.size w w2) := Q1h.out.trans (t2.below Q1h.out.size (fun k hk => by omega))
  have HB := Lib.hid hb
  clear t2 hb LZ hW1
  go_wp2
  go_ret2
  exact ⟨_, rfl, HB.out, Nat.le_refl _, B2.out⟩
theorem page_zero {P : Nat} : pageB (Dk.new (8 * P + 1)) (1 + 4 * ((P : Int) + 0)) = Dk.rep 1024 0 ∨ P = 0 := by
  by_cases h : P = 0
  · exact .inr h
  · refine .inl ?_
    have := page_new (n := 8 * P + 1) (p := 1 + 4 * P) (by omega)
    rw [show (1 + 4 * ((P : Int) + 0)) = ((1 + 4 * P : Nat) : Int) by omega]
    exact this
set_option maxHeartbeats 1600000 in
set_option maxRecDepth 100000 in
theorem sopened_any (w : World) (P : Nat) (hP1 : 2 ≤ P) (hP : P ≤ 12) :
    Calls Try.prog 9 #[.int .i64 (P : Int)] w fun e w' => ∃ g gj gs, e = .returned (.tuple #[.pointer (some ⟨g, 0, none⟩), .pointer (some ⟨gj, 0, none⟩), .pointer (some ⟨gs, 0, none⟩)]) ∧ ShB w' gs gj (.slice none 0 0) ∧ w.heap.size ≤ gs ∧ Below w.heap.size w w' ∧ Jb w' gj g P ∧ ∃ F, HasDisk w' F g (Dk.new (8 * P + 1)) := by
  have d1 : decide ((P : Int) < 2) = false := by simp; omega
  have d2 : decide (12 < (P : Int)) = false := by simp; omega
  have d2' : decide (12 < P) = false := by simp; omega
  have d1' : decide (P < 2) = false := by simp; omega
  obtain ⟨n, hnn⟩ : ∃ n : Nat, n = 8 * P + 1 := ⟨_, rfl⟩
  have eq1 : 8 * (P : Int) + 1 = (n : Int) := by omega
  have NEW := Lib.hid (new_h w n (by omega) (by omega))
  have hd0 : Dk.new n = Dk.new (8 * P + 1) := by rw [hnn]
  have HD0 := Lib.hid hd0
  have ST : Hid (Sto P (Dk.new n)) := sto_new (by omega) (by omega) (by omega)
  have RD : Hid (run (Dk.new n) (openK P (Dk.new n) ((Dk.new n).read 0).1) = (Dk.new n, 0)) := by
    unfold Hid
    rw [read_new (i := 0) (by omega) (by omega), openK_zero]
    rfl
  have PZ : Hid (pageB (Dk.new n) (1 + 4 * ((P : Int) + 0)) = Dk.rep 1024 0) := by
    unfold Hid
    rw [hd0]
    rcases page_zero (P := P) with h | h
    · exact h
    · omega
  have LN : Hid (8 * P + 1 ≤ (Dk.new n).l.length ∧ Sz (Dk.new n) ∧ (Dk.new n).down = false ∧ (Dk.new n).waits = [] ∧ (Dk.new n).writes = 0) := ⟨by simp [Dk.new]; omega, sz_new _, rfl, rfl, rfl⟩
  have NN : n ≤ 97 := by omega
  clear hnn hd0
  go_enter Try.func9, Try.ntmps9
  go_wp2_with fail
  refine NEW.out.mono ?_
  rintro e w1 ⟨g, F, rfl, hd, hF, b1⟩
  have OP := Lib.hid (open_any w1 F g P (Dk.new n) hd ST.out (by omega) (by omega) ⟨by rw [LN.out.2.2.2.1]; simp, by rw [LN.out.2.2.2.2]; simp⟩)
  unfold OpenTo at OP
  rw [RD.out] at OP
  have HF := Lib.hid hF; have B1 := Lib.hid b1
  clear hd hF b1 NEW
  go_wp2_with fail
  refine OP.out.mono ?_
  rintro e w2 ⟨v, F2, rfl, ht, hv⟩
  rw [if_pos (by trivial)] at hv
  obtain ⟨gj, rfl, hj, hnj, hgj⟩ := hv
  have B2 : Hid (Below w.heap.size w w2) := B1.out.trans (ht.touch.below B1.out.size HF.out)
  have HT := Lib.hid ht.has; have HJ := Lib.hid hj
  have SO := Lib.hid (sopen_zero w2 F2 gj g P (Dk.new n) ht.has hj LN.out.2.1 (by rw [LN.out.2.2.2.1]; decide) hP1 (by omega) LN.out.1 LN.out.2.2.1 PZ.out)
  clear ht hj hnj hgj OP
  go_wp2_with fail
  refine SO.out.mono ?_
  rintro e w3 ⟨gs, rfl, hb, hgs, q3⟩
  have B3 : Hid (Below w.heap.size w w3) := B2.out.trans (q3.mono B2.out.size)
  have HB := Lib.hid hb
  have R : Hid (w.heap.size ≤ gs) := Nat.le_trans B2.out.size hgs
  have HJ3 := Lib.hid (HJ.out.below q3); have HT3 := Lib.hid (HT.out.below q3)
  clear hb hgs q3 SO
  go_wp2
  go_ret3
  exact ⟨g, gj, gs, rfl, HB.out, R.out, B3.out, HJ3.out, F2, by rw [← HD0.out]; exact HT3.out⟩
end Go.Proofs.Ytoolkamajlgcbaa
