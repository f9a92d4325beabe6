/- JnR: the walk of lives. -/
import Derived.Test.YtpaabfadniakoaaJnQ
set_option linter.unusedVariables false
set_option linter.unusedSimpArgs false
namespace Go.Proofs.Ytpaabfadniakoaa
open Go.RowKit

theorem Sto.calm {P : Nat} {d : Dk} (h : Calm d) (hz : Sz d) (hb : 8 * P + 1 ≤ d.l.length) : Sto P d := ⟨h.ok, hz, hb, h.up⟩
theorem why_one (f : UInt8) : whyE 1 [(0, Dk.rep 1024 f)] = 0 := by
  unfold whyE outK longK
  have h : (Dk.rep 1024 f).size = 1024 := Dk.rep_size 1024 f
  simp [dupK, h]
set_option maxHeartbeats 1600000 in
set_option maxRecDepth 100000 in
theorem jlives_any (w : World) : Calls Try.prog 15 #[] w fun e w' => e = .returned (.bool true) ∧ Below w.heap.size w w' := by
  have NEW := Lib.hid (new_h w 9 (by decide) (by decide))
  have C9 := Lib.hid (calm_new (n := 9) (by decide) (by decide))
  have S9 := Lib.hid (sto_new (P := 1) (n := 9) (by decide) (by decide) (by decide))
  have F9 : Hid (Fw 600 (Dk.new 9)) := ⟨by simp [Dk.new], by simp [Dk.new]⟩
  have OK : Hid (run (Dk.new 9) (openK 1 (Dk.new 9) ((Dk.new 9).read 0).1) = (Dk.new 9, 0)) := by unfold Hid; rw [read_new (by decide) (by decide), openK_zero]; rfl
  go_enter Try.func15, Try.ntmps15
  go_wp2_with fail
  refine NEW.out.mono ?_
  rintro e w1 ⟨g, F, rfl, hd, hF, b1⟩
  have OP := Lib.hid (open_any w1 F g 1 (Dk.new 9) hd S9.out (by decide) (by decide) F9.out)
  unfold OpenTo at OP
  rw [OK.out] at OP
  have HF := Lib.hid hF; have B1 := Lib.hid b1
  clear hd hF b1 NEW
  go_wp2_with fail
  refine OP.out.mono ?_
  rintro e w2 ⟨v, F2, rfl, ht, hv⟩
  rw [if_pos (by trivial)] at hv
  obtain ⟨gj, rfl, hj, hnj, hgj⟩ := hv
  have HT := Lib.hid ht; have HJ := Lib.hid hj; have NJ := Lib.hid hnj
  have B2 : Hid (Below w.heap.size w w2) := B1.out.trans (HT.out.touch.below B1.out.size HF.out)
  have HF2 : Hid (∀ k, F2 k → w.heap.size ≤ k) := fun k hk => (HT.out.new k hk).elim (HF.out k) (fun h => Nat.le_trans B1.out.size h)
  clear ht hj hnj OP
  have N1 := Lib.hid (need_any w2 1)
  rw [show needN 1 = 9 from rfl] at N1
  have PG : Hid (jrd (Dk.new 9) 1 0 = (Dk.rep 1024 0, 0)) := by
    unfold Hid jrd
    rw [if_neg (by decide), if_neg (fun h => by cases h), show (1 + 4 * (((1 : Nat) : Int) + 0)) = ((5 : Nat) : Int) by decide, page_new (by decide)]
  have RD := Lib.hid (jread_any w2 F2 gj g 1 (Dk.new 9) HT.out.has HJ.out S9.out.sz (by simp [Dk.new]) (by decide) (by simp [Dk.new]) 0)
  rw [PG.out] at RD
  go_wp2_with fail
  refine N1.out.mono ?_
  rintro e w3 ⟨rfl, rfl⟩
  go_wp2_with fail
  refine RD.out.mono ?_
  rintro e w3 ⟨rfl, b3⟩
  have B3 : Hid (Below w.heap.size w w3) := B2.out.trans (b3.mono B2.out.size)
  have T3 := Lib.hid (HT.out.post b3)
  have J3 : Hid (Jb w3 gj g 1) := HJ.out.below b3
  clear b3 RD N1 PG
  have Z1 : (Dk.rep 1024 0).size = 1024 := Dk.rep_size 1024 0
  have Z0 : (0 : Nat) < (Dk.rep 1024 0).size := by rw [Z1]; decide
  have ZV : (Dk.rep 1024 0)[0] = 0 := rfl
  obtain ⟨z, hz⟩ : ∃ z, z = Dk.rep 1024 0 := ⟨_, rfl⟩
  have FI := fun W => Lib.hid (filled_any W 0 0 3)
  rw [show Dk.rep (filledN 0) 3 = Dk.rep 1024 3 from rfl] at FI
  obtain ⟨s, hs⟩ : ∃ s, s = Dk.rep 1024 3 := ⟨_, rfl⟩
  rw [← hs] at FI
  have HS := Lib.hid hs
  clear hs
  have hz1 : z.size = 1024 := by rw [hz]; exact Z1
  have hz0 : z[0]'(by omega) = 0 := by subst hz; rfl
  rw [← hz]
  clear hz Z1 Z0 ZV
  go_wp2_with fail
  refine (FI w3).out.mono ?_
  rintro e w4 ⟨rfl, b4⟩
  have B4 : Hid (Below w.heap.size w w4) := B3.out.trans (b4.mono B3.out.size)
  have g2 := blk_new w4 (.cells #[.int .i64 0, .string s] 44)
  have b5 : Below w4.heap.size w4 (w4.alloc (.cells #[.int .i64 0, .string s] 44)) := (Below.refl _ w4).alloc (Nat.le_refl _) _
  have T5 := Lib.hid ((T3.out.post b4).post b5)
  have J5 : Hid (Jb (w4.alloc (.cells #[.int .i64 0, .string s] 44)) gj g 1) := (J3.out.below b4).below b5
  have RC : RdC (w4.alloc (.cells #[.int .i64 0, .string s] 44)) (some ⟨w4.heap.size, 0, none⟩) [(0, s)] := fun _ => ⟨w4.heap.size, 0, rfl, fun j hj => by
    obtain rfl : j = 0 := by simpa using hj
    have c0 := blk_cell g2 0; have c1 := blk_cell g2 1
    simp only [List.getElem?_toArray, List.getElem?_cons_zero, List.getElem?_cons_succ] at c0 c1
    exact ⟨c0, c1⟩⟩
  have CO := Lib.hid (commit_any _ F2 gj g 1 (Dk.new 9) T5.out.has J5.out NJ.out (by decide) (some ⟨w4.heap.size, 0, none⟩) 1 [(0, s)] RC (by simp) (fun x hx => by
    obtain rfl : x = (0, s) := by simpa using hx
    rw [HS.out, Dk.rep_size]; decide) (F9.out.mono (by simp)))
  have HB4 := Lib.hid B4.out; have SZ5 : Hid (w.heap.size ≤ (w4.alloc (.cells #[.int .i64 0, .string s] 44)).heap.size) := (B4.out.alloc B4.out.size _).size
  have B5 : Hid (Below w.heap.size w (w4.alloc (.cells #[.int .i64 0, .string s] 44))) := B4.out.alloc B4.out.size _
  clear b4 b5 g2 RC
  go_wp2_with fail
  refine CO.out.mono ?_
  rintro e w6 ⟨x, d6, F6, rfl, hc, ht⟩
  have B6 : Hid (Below w.heap.size w w6) := B5.out.trans (ht.touch.below SZ5.out HF2.out)
  rcases coto_calm hc C9.out (by decide) with ⟨h, _⟩ | ⟨_, _, h, _⟩ | ⟨_, rfl, _, hcm, hw, _, _⟩
  · exact absurd (by rw [HS.out]; exact why_one 3) h
  · cases h
  have WR := Lib.hid (writes_h ht.has)
  rw [hw] at WR
  clear hc ht hw CO hcm
  go_wp2_with fail
  refine WR.out.mono ?_
  rintro e w7 ⟨rfl, rfl⟩
  go_wp2
  go_ret
  exact ⟨rfl, B6.out⟩
end Go.Proofs.Ytpaabfadniakoaa
