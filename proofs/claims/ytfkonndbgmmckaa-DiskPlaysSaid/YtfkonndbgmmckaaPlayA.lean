/- PlayA: the walk of alike. -/
import Derived.Test.YtfkonndbgmmckaaRefE
import Derived.Test.YtfkonndbgmmckaaSep
set_option linter.unusedVariables false
set_option linter.unusedSimpArgs false
namespace Go.Proofs.Ytfkonndbgmmckaa
open Go.RowKit

set_option maxHeartbeats 1600000 in
set_option maxRecDepth 100000 in
theorem alike_any (w : World) (F R : Nat → Prop) (g : Nat) (d : Dk) (vl vw : Value) (h : HasDisk w F g d) (r : RefAt w R d vl vw) (hm : d.waits.length < 9223372036854775807) :
    Calls Try.prog 27 #[.pointer (some ⟨g, 0, none⟩), refV d vl vw] w fun e w' => e = .returned (.bool true) ∧ Below w.heap.size w w' := by
  have H := Lib.hid h
  have RR := Lib.hid r
  have hlen := h.ok.most
  obtain ⟨A, c, rfl⟩ := own_slice r.ownW
  obtain ⟨A2, c2, rfl⟩ := own_slice r.own
  have hud : ((!d.down) == d.down) = false := by cases d.down <;> rfl
  obtain ⟨b, hb⟩ : ∃ b, b = d.down := ⟨_, rfl⟩
  have HB := Lib.hid hb
  clear h r
  unfold refV
  have hbx := blk_new w (.cells #[.slice A2 d.l.length c2, .slice A d.waits.length c, .int .i64 d.fuse, .int .i64 d.writes, .bool d.down] 50)
  have BX := Lib.hid hbx
  have c0 := blk_cell hbx 0; have c1 := blk_cell hbx 1; have c2' := blk_cell hbx 2; have c3 := blk_cell hbx 3; have c4 := blk_cell hbx 4
  simp only [List.getElem?_toArray, List.getElem?_cons_zero, List.getElem?_cons_succ] at c0 c1 c2' c3 c4
  have B0 : Hid (Below w.heap.size w ((w.alloc (.cells #[.slice A2 d.l.length c2, .slice A d.waits.length c, .int .i64 d.fuse, .int .i64 d.writes, .bool d.down] 50)).drew)) := ((Below.refl _ w).alloc (Nat.le_refl _) _).drew
  have H1 : Hid (HasDisk ((w.alloc (.cells #[.slice A2 d.l.length c2, .slice A d.waits.length c, .int .i64 d.fuse, .int .i64 d.writes, .bool d.down] 50)).drew) F g d) := H.out.below B0.out
  clear hbx hb
  go_enter Try.func27, Try.ntmps27
  go_wp2_with fail
  refine wp_region_flag (fun w' => w'.cell? ⟨w.heap.size, 0, none⟩ = some (.slice A2 d.l.length c2) ∧ w'.cell? ⟨w.heap.size, 1, none⟩ = some (.slice A d.waits.length c) ∧ w'.cell? ⟨w.heap.size, 3, none⟩ = some (.int .i64 d.writes) ∧ w'.cell? ⟨w.heap.size, 4, none⟩ = some (.bool d.down)) [(0, 1), (2, 1), (3, 2), (4, 1), (1, 0), (5, 1), (6, 1), (7, 1), (9, 1), (10, 2), (11, 1), (8, 0), (12, 1), (13, 1), (14, 1), (15, 1), (17, 1), (18, 2), (16, 0), (19, 1), (20, 1), (21, 1), (22, 1), (24, 1), (25, 2), (23, 0), (26, 1), (27, 1)] (by kernel_rfl) (by kernel_rfl) ⟨c0, c1, c3, c4⟩ ?_
  simp only [ordered, List.map_cons, List.map_nil, List.getD_cons_zero, List.getD_cons_succ]
  repeat (refine wpF_dry (fun K hK => ?_); go_simp; refine hK _ ?_; clear hK K)
  refine wpF_read (.slice A2 d.l.length c2) rfl (fun w' hS => by obtain ⟨s1, s2, s3, s4⟩ := hS; go_simp) (fun K hK => ?_)
  go_simp
  refine hK _ ?_
  clear hK K
  repeat (refine wpF_dry (fun K hK => ?_); go_simp; refine hK _ ?_; clear hK K)
  refine wpF_do ?_
  go_wp2_with fail
  refine (size_h H1.out).mono ?_
  rintro e w' ⟨rfl, rfl⟩
  go_wp2_with fail
  refine ⟨⟨c0, c1, c3, c4⟩, ?_⟩
  repeat (refine wpF_dry (fun K hK => ?_); go_simp; refine hK _ ?_; clear hK K)
  refine wpF_read (.slice A d.waits.length c) rfl (fun w' hS => by obtain ⟨s1, s2, s3, s4⟩ := hS; go_simp) (fun K hK => ?_)
  go_simp
  refine hK _ ?_
  clear hK K
  repeat (refine wpF_dry (fun K hK => ?_); go_simp; refine hK _ ?_; clear hK K)
  refine wpF_do ?_
  go_wp2_with fail
  refine (waits_h H1.out).mono ?_
  rintro e w' ⟨rfl, rfl⟩
  go_wp2_with fail
  refine ⟨⟨c0, c1, c3, c4⟩, ?_⟩
  repeat (refine wpF_dry (fun K hK => ?_); go_simp; refine hK _ ?_; clear hK K)
  refine wpF_read (.int .i64 d.writes) rfl (fun w' hS => by obtain ⟨s1, s2, s3, s4⟩ := hS; go_simp) (fun K hK => ?_)
  go_simp
  refine hK _ ?_
  clear hK K
  refine wpF_do ?_
  go_wp2_with fail
  refine (writes_h H1.out).mono ?_
  rintro e w' ⟨rfl, rfl⟩
  go_wp2_with fail
  refine ⟨⟨c0, c1, c3, c4⟩, ?_⟩
  repeat (refine wpF_dry (fun K hK => ?_); go_simp; refine hK _ ?_; clear hK K)
  refine wpF_read (.bool d.down) rfl (fun w' hS => by obtain ⟨s1, s2, s3, s4⟩ := hS; go_simp) (fun K hK => ?_)
  go_simp
  refine hK _ ?_
  clear hK K
  refine wpF_do ?_
  go_wp2_with fail
  refine (up_h H1.out).mono ?_
  rintro e w' ⟨rfl, rfl⟩
  go_wp2_with fail
  refine ⟨⟨c0, c1, c3, c4⟩, ?_⟩
  repeat (refine wpF_dry (fun K hK => ?_); go_simp; refine hK _ ?_; clear hK K)
  refine wpF_nil ?_
  go_wp2_with fail
  have R1 : Hid (RefAt ((w.alloc (.cells #[.slice A2 d.l.length c2, .slice A d.waits.length c, .int .i64 d.fuse, .int .i64 d.writes, .bool d.down] 50)).drew) R d _ _) := RR.out.below B0.out
  have e0 : Hid (((w.alloc (.cells #[.slice A2 d.l.length c2, .slice A d.waits.length c, .int .i64 d.fuse, .int .i64 d.writes, .bool d.down] 50)).drew).cell? ⟨w.heap.size, 0, none⟩ = some (.slice A2 d.l.length c2)) := c0
  have e1 : Hid (((w.alloc (.cells #[.slice A2 d.l.length c2, .slice A d.waits.length c, .int .i64 d.fuse, .int .i64 d.writes, .bool d.down] 50)).drew).cell? ⟨w.heap.size, 1, none⟩ = some (.slice A d.waits.length c)) := c1
  have e2 : Hid (((w.alloc (.cells #[.slice A2 d.l.length c2, .slice A d.waits.length c, .int .i64 d.fuse, .int .i64 d.writes, .bool d.down] 50)).drew).cell? ⟨w.heap.size, 2, none⟩ = some (.int .i64 d.fuse)) := c2'
  have e3 : Hid (((w.alloc (.cells #[.slice A2 d.l.length c2, .slice A d.waits.length c, .int .i64 d.fuse, .int .i64 d.writes, .bool d.down] 50)).drew).cell? ⟨w.heap.size, 3, none⟩ = some (.int .i64 d.writes)) := c3
  have e4 : Hid (((w.alloc (.cells #[.slice A2 d.l.length c2, .slice A d.waits.length c, .int .i64 d.fuse, .int .i64 d.writes, .bool d.down] 50)).drew).cell? ⟨w.heap.size, 4, none⟩ = some (.bool d.down)) := c4
  clear c0 c1 c2' c3 c4 BX
  generalize (w.alloc (.cells #[.slice A2 d.l.length c2, .slice A d.waits.length c, .int .i64 d.fuse, .int .i64 d.writes, .bool d.down] 50)).drew = W0 at B0 H1 R1 e0 e1 e2 e3 e4 ⊢
  go_loopw [5, 38] (fun i i2 wr => ∃ k : Nat, k ≤ d.l.length + 2 ∧ i = .int .i64 ((k : Int) - 1) ∧ Hid (Below W0.heap.size W0 wr)) (fun i _ _ => (d.l.length + 1 - intOf i).toNat)
  case atStart => exact ⟨0, by omega, rfl, Below.refl _ _⟩
  case round =>
    obtain ⟨k, hk, rfl, hb⟩ := hrel
    have c0 := cell_below hb.out e0.out; have c1 := cell_below hb.out e1.out; have c2' := cell_below hb.out e2.out; have c3 := cell_below hb.out e3.out; have c4 := cell_below hb.out e4.out
    by_cases hlt : k ≤ d.l.length + 1
    · obtain ⟨i, hi⟩ : ∃ i : Int, i = (k : Int) - 1 := ⟨_, rfl⟩
      have hi1 : i + 1 = k := by omega
      have hle : decide (i ≤ (d.l.length : Int)) = true := by simp; omega
      rw [← hi]
      have HI := Lib.hid hi
      have hi0 : -1 ≤ i := by omega
      have hi2 : i ≤ 2048 := by omega
      clear hi
      go_wp2_with fail
      refine (read_h (H1.out.below hb.out) i hm).mono ?_
      rintro e w1 ⟨rfl, b1⟩
      have hb1 : Hid (Below W0.heap.size W0 w1) := hb.out.trans (b1.mono hb.out.size)
      have k0 := cell_below b1 c0; have k1 := cell_below b1 c1; have k2 := cell_below b1 c2'; have k3 := cell_below b1 c3; have k4 := cell_below b1 c4
      have RD := Lib.hid (rread_any w1 R d _ _ (R1.out.below hb1.out) i hm)
      unfold refV at RD
      obtain ⟨x, hx⟩ : ∃ x, x = d.read i := ⟨_, rfl⟩
      rw [← hx] at RD ⊢
      clear hx c0 c1 c2' c3 c4 b1
      go_wp2_with fail
      refine RD.out.mono ?_
      rintro e w2 ⟨rfl, b2⟩
      have hb2 : Hid (Below W0.heap.size W0 w2) := hb1.out.trans (b2.mono hb1.out.size)
      clear b2 k0 k1 k2 k3 k4 RD
      go_wp2
      go_roundw
      case rel => exact ⟨k + 1, by omega, by congr 1; omega, hb2⟩
      case measure => simp [intOf]; omega
    · have hle : decide ((k : Int) - 1 ≤ (d.l.length : Int)) = false := by simp; omega
      go_wp2
      go_ret
      exact ⟨rfl, B0.out.trans (hb.out.mono B0.out.size)⟩
end Go.Proofs.Ytfkonndbgmmckaa
