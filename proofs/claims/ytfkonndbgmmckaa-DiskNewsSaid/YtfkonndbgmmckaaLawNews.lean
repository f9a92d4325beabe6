/- LawNews: the walk of DiskNews. -/
import Derived.Test.YtfkonndbgmmckaaLawB
set_option linter.unusedVariables false
set_option linter.unusedSimpArgs false
namespace Go.Proofs.Ytfkonndbgmmckaa
open Go.RowKit

theorem use_nil' (w : World) (i : Int) :
    Calls Try.prog 30 #[.pointer none, .int .i64 i] w fun e w' => e = .returned (.int .i64 1) ∧ w = w' := use_nil w i
theorem read_nil (w : World) (i : Int) : Calls Try.prog 22 #[.pointer none, .int .i64 i] w fun e w' => e = .returned (.tuple #[.string ByteArray.empty, .int .i64 1]) ∧ w = w' := by
  go_enter Try.func22, Try.ntmps22
  go_wp2_with (go_at_call 30; refine (use_nil _ _).mono ?_; rintro e w' ⟨rfl, rfl⟩)
  go_ret2
  exact ⟨rfl, rfl⟩
theorem write_nil (w : World) (i : Int) (s : ByteArray) : Calls Try.prog 17 #[.pointer none, .int .i64 i, .string s] w fun e w' => e = .returned (.int .i64 1) ∧ w = w' := by
  go_enter Try.func17, Try.ntmps17
  go_wp2_with (go_at_call 30; refine (use_nil _ _).mono ?_; rintro e w' ⟨rfl, rfl⟩)
  go_ret
  exact ⟨rfl, rfl⟩
theorem flush_nil (w : World) : Calls Try.prog 16 #[.pointer none] w fun e w' => e = .returned (.int .i64 1) ∧ w = w' := by
  go_enter Try.func16, Try.ntmps16
  go_wp2_with (go_at_call 30; refine (use_nil _ _).mono ?_; rintro e w' ⟨rfl, rfl⟩)
  go_ret
  exact ⟨rfl, rfl⟩
theorem fuse_nil (w : World) (n : Int) : Calls Try.prog 20 #[.pointer none, .int .i64 n] w fun e w' => e = .returned (.int .i64 1) ∧ w = w' := by
  go_enter Try.func20, Try.ntmps20
  go_wp2_with (go_at_call 30; refine (use_nil _ _).mono ?_; rintro e w' ⟨rfl, rfl⟩)
  go_ret
  exact ⟨rfl, rfl⟩
theorem fail_nil (w : World) : Calls Try.prog 11 #[.pointer none, .slice none 0 0] w fun e w' => e = .returned (.tuple #[]) ∧ Below w.heap.size w w' := by
  go_enter Try.func11, Try.ntmps11
  go_wp2
  refine bodyPost_ret (results_none rfl _ _ _) rfl ?_
  exact ⟨rfl, (Below.refl _ w).alloc (Nat.le_refl _) _⟩
theorem start_nil (w : World) : Calls Try.prog 14 #[.pointer none] w fun e w' => e = .returned (.int .i64 1) ∧ w = w' := by
  go_enter Try.func14, Try.ntmps14
  go_wp2
  go_ret
  exact ⟨rfl, rfl⟩
theorem size_nil (w : World) : Calls Try.prog 23 #[.pointer none] w fun e w' => e = .returned (.int .i64 0) ∧ w = w' := by
  go_enter Try.func23, Try.ntmps23
  go_wp2
  go_ret
  exact ⟨rfl, rfl⟩
theorem waits_nil (w : World) : Calls Try.prog 13 #[.pointer none] w fun e w' => e = .returned (.int .i64 0) ∧ w = w' := by
  go_enter Try.func13, Try.ntmps13
  go_wp2
  go_ret
  exact ⟨rfl, rfl⟩
theorem writes_nil (w : World) : Calls Try.prog 21 #[.pointer none] w fun e w' => e = .returned (.int .i64 0) ∧ w = w' := by
  go_enter Try.func21, Try.ntmps21
  go_wp2
  go_ret
  exact ⟨rfl, rfl⟩
theorem up_nil (w : World) : Calls Try.prog 18 #[.pointer none] w fun e w' => e = .returned (.bool false) ∧ w = w' := by
  go_enter Try.func18, Try.ntmps18
  go_wp2
  go_ret
  exact ⟨rfl, rfl⟩
theorem clone_nil (w : World) : Calls Try.prog 10 #[.pointer none] w fun e w' => e = .returned (.pointer none) ∧ w = w' := by
  go_enter Try.func10, Try.ntmps10
  go_wp2
  go_ret
  exact ⟨rfl, rfl⟩

set_option maxHeartbeats 1600000 in
set_option maxRecDepth 100000 in
theorem diskNews_walk (w : World) (n : Int) (_wf : (Lit.int .i64 n).wf = true) : Calls Try.prog 6 #[.int .i64 n] w fun e w' => e = .returned (.bool true) ∧ Below w.heap.size w w' := by
  by_cases hn : n < 1 ∨ 2048 < n
  · have HN := Lib.hid hn
    go_enter Try.func6, Try.ntmps6
    go_wp2_with fail
    refine (new_no w n HN.out).mono ?_
    rintro e w1 ⟨rfl, rfl⟩
    clear hn
    rcases HN.out with h1 | h1
    all_goals
      go_wp2_with (first
        | (go_at_call 22; refine (read_nil _ _).mono ?_; rintro e w' ⟨rfl, rfl⟩)
        | (go_at_call 11; refine (fail_nil _).mono ?_; rintro e w' ⟨rfl, b1⟩; have B1 := Lib.hid b1; clear b1)
        | (go_at_call 17; refine (write_nil _ _ _).mono ?_; rintro e w' ⟨rfl, rfl⟩)
        | (go_at_call 16; refine (flush_nil _).mono ?_; rintro e w' ⟨rfl, rfl⟩)
        | (go_at_call 20; refine (fuse_nil _ _).mono ?_; rintro e w' ⟨rfl, rfl⟩)
        | (go_at_call 14; refine (start_nil _).mono ?_; rintro e w' ⟨rfl, rfl⟩)
        | (go_at_call 23; refine (size_nil _).mono ?_; rintro e w' ⟨rfl, rfl⟩)
        | (go_at_call 13; refine (waits_nil _).mono ?_; rintro e w' ⟨rfl, rfl⟩)
        | (go_at_call 21; refine (writes_nil _).mono ?_; rintro e w' ⟨rfl, rfl⟩)
        | (go_at_call 18; refine (up_nil _).mono ?_; rintro e w' ⟨rfl, rfl⟩)
        | (go_at_call 10; refine (clone_nil _).mono ?_; rintro e w' ⟨rfl, rfl⟩)
        | (go_at_call 9; refine (lives6 _).mono ?_; rintro e w2 ⟨rfl, b2⟩; have B2 := Lib.hid b2; clear b2))
      go_ret
      exact ⟨rfl, B1.out.trans (B2.out.mono B1.out.size)⟩
  · obtain ⟨m, rfl⟩ := Int.eq_ofNat_of_zero_le (show 0 ≤ n by omega)
    have e0 : decide ((m : Int) < 1) = false := by simp; omega
    have e1 : decide (2048 < (m : Int)) = false := by simp; omega
    have hn2 := Lib.hid hn
    clear hn
    go_enter Try.func6, Try.ntmps6
    go_wp2_with fail
    refine (new_h w m (by have := hn2.out; omega) (by have := hn2.out; omega)).mono ?_
    rintro e w1 ⟨g, F, rfl, hd, hF, b0⟩
    have HD := Lib.hid hd; have HF := Lib.hid hF; have B0 := Lib.hid b0; clear hd hF b0
    have hl : Hid ((Dk.new m).l.length = m) := by simp [Hid, Dk.new]
    go_wp2_with (first
      | (go_at_call 22; refine (read_nil _ _).mono ?_; rintro e w' ⟨rfl, rfl⟩)
      | (go_at_call 11; refine (fail_nil _).mono ?_; rintro e w2 ⟨rfl, b1⟩; have B1 := Lib.hid b1; have HD2 := Lib.hid (HD.out.below b1); clear b1)
      | (go_at_call 17; refine (write_nil _ _ _).mono ?_; rintro e w' ⟨rfl, rfl⟩)
      | (go_at_call 16; refine (flush_nil _).mono ?_; rintro e w' ⟨rfl, rfl⟩)
      | (go_at_call 20; refine (fuse_nil _ _).mono ?_; rintro e w' ⟨rfl, rfl⟩)
      | (go_at_call 14; refine (start_nil _).mono ?_; rintro e w' ⟨rfl, rfl⟩)
      | (go_at_call 23; (with_reducible refine (size_nil _).mono ?_); rintro e w' ⟨rfl, rfl⟩)
      | (go_at_call 13; (with_reducible refine (waits_nil _).mono ?_); rintro e w' ⟨rfl, rfl⟩)
      | (go_at_call 21; refine (writes_nil _).mono ?_; rintro e w' ⟨rfl, rfl⟩)
      | (go_at_call 18; (with_reducible refine (up_nil _).mono ?_); rintro e w' ⟨rfl, rfl⟩)
      | (go_at_call 10; refine (clone_nil _).mono ?_; rintro e w' ⟨rfl, rfl⟩))
    refine (size_h HD2.out).mono ?_
    rintro e w' ⟨rfl, rfl⟩
    rw [hl.out]
    go_wp2_with fail
    refine (up_h HD2.out).mono ?_
    rintro e w' ⟨rfl, rfl⟩
    rw [show (!(Dk.new m).down) = true from rfl]
    go_wp2_with fail
    refine (waits_h HD2.out).mono ?_
    rintro e w' ⟨rfl, rfl⟩
    rw [show (((Dk.new m).waits.length : Nat) : Int) = 0 from rfl]
    go_wp2_with fail
    refine (lives6 _).mono ?_
    rintro e w3 ⟨rfl, b2⟩
    have B2 := Lib.hid b2; clear b2
    go_wp2
    go_ret
    exact ⟨rfl, (B0.out.trans (B1.out.mono B0.out.size)).trans (B2.out.mono (Nat.le_trans B0.out.size B1.out.size))⟩
end Go.Proofs.Ytfkonndbgmmckaa
