/- JsA: the walk of opened where nothing was committed ahead. -/
import Derived.Test.YtpaabfadniakoaaJsP
set_option linter.unusedVariables false
set_option linter.unusedSimpArgs false
namespace Go.Proofs.Ytpaabfadniakoaa
open Go.RowKit

/-- A new store. -/
def FreshAt (w0 : World) (P : Nat) (g gj : Nat) (w : World) : Prop :=
  ∃ F, HasDisk w F g (Dk.new (8 * P + 1)) ∧ (∀ k, F k → w0.heap.size ≤ k) ∧ Jb w gj g P ∧ ¬ F gj ∧ w0.heap.size ≤ gj ∧ Below w0.heap.size w0 w
set_option maxHeartbeats 1600000 in
set_option maxRecDepth 100000 in
theorem opened_fresh (w : World) (P : Nat) (hP1 : 1 ≤ P) (hP : P ≤ 6) :
    Calls Try.prog 17 #[.int .i64 (P : Int), .slice none 0 0] w fun e w' => ∃ g gj, e = .returned (.tuple #[.pointer (some ⟨g, 0, none⟩), .pointer (some ⟨gj, 0, none⟩)]) ∧ FreshAt w P g gj w' := by
  have d1 : decide ((P : Int) < 1) = false := by simp; omega
  have d2 : decide (6 < (P : Int)) = false := by simp; omega
  have d2' : decide (6 < P) = false := by simp; omega
  have RN := Lib.hid (rneed_any w (P : Int))
  obtain ⟨n, hnn⟩ : ∃ n : Nat, n = 8 * P + 1 := ⟨_, rfl⟩
  rw [show needN (P : Int) = (n : Int) by unfold needN; rw [if_neg (by omega)]; omega] at RN
  have NEW := Lib.hid (new_h w n (by omega) (by omega))
  have R0 : Hid (Rest P (Dk.new n)) := by rw [hnn]; exact rest_new (by omega)
  have F0 : Hid (Fw 600 (Dk.new n)) := ⟨by simp [Dk.new], by simp [Dk.new]⟩
  have W0 : Hid ((Dk.new n).writes = 0) := rfl
  have DN : Hid (Dk.new n = Dk.new (8 * P + 1)) := by unfold Hid; rw [hnn]
  generalize Dk.new n = d0 at NEW R0 F0 W0 DN
  clear hnn
  go_enter Try.func17, Try.ntmps17
  go_wp2_with fail
  refine RN.out.mono ?_
  rintro e w' ⟨rfl, rfl⟩
  go_wp2_with fail
  refine NEW.out.mono ?_
  rintro e w1 ⟨g, F, rfl, hd, hF, b1⟩
  have OP := Lib.hid (open_any w1 F g P d0 hd R0.out.sto hP1 (by omega) F0.out)
  unfold OpenTo at OP
  rw [rest_open R0.out] at OP
  have HF := Lib.hid hF; have B1 := Lib.hid b1
  clear hd hF b1 NEW
  go_wp2_with fail
  refine OP.out.mono ?_
  rintro e w2 ⟨v, F2, rfl, ht, hv⟩
  rw [if_pos (by trivial)] at hv
  obtain ⟨gj, rfl, hj, hnj, hgj⟩ := hv
  have B2 : Hid (Below w.heap.size w w2) := B1.out.trans (ht.touch.below B1.out.size HF.out)
  have HF2 : Hid (∀ k, F2 k → w.heap.size ≤ k) := fun k hk => (ht.new k hk).elim (HF.out k) (fun h => Nat.le_trans B1.out.size h)
  have S0 : Hid (FreshAt w P g gj w2) := ⟨F2, by rw [← DN.out]; exact ht.has, HF2.out, hj, hnj, Nat.le_trans B1.out.size hgj, B2.out⟩
  clear ht hj hnj hgj OP B2 HF2
  go_wp2_with fail
  go_loopw [10] (fun i wr => i = .int .i64 0 ∧ Hid (FreshAt w P g gj wr)) (fun i _ => 0)
  case atStart => exact ⟨rfl, S0⟩
  case round =>
    obtain ⟨rfl, hS⟩ := hrel
    go_wp2
    go_ret2
    exact ⟨g, gj, rfl, hS.out⟩
end Go.Proofs.Ytpaabfadniakoaa
