/- LawFlushed2: the walk of DiskFlushed, at all inputs. -/
import Derived.Test.YtfkonndbgmmckaaLawFlushed
import Derived.Test.YtfkonndbgmmckaaOpen2
set_option linter.unusedVariables false
set_option linter.unusedSimpArgs false
namespace Go.Proofs.Ytfkonndbgmmckaa
open Go.RowKit

set_option maxHeartbeats 800000 in
set_option maxRecDepth 100000 in
theorem diskFlushed_walk (w : World) (n : Int) (_w : (Lit.int .i64 n).wf = true) (v : Value) (ls : List OpV × List OpV) (hv : RdOps2 w v ls) (pv : Value) (picks : List Bool) (hp : RdB w pv picks) :
    Calls Try.prog 4 #[.int .i64 n, v, pv] w fun e w' => e = .returned (.bool true) ∧ Below w.heap.size w w' := by
  obtain ⟨l, more⟩ := ls
  obtain ⟨v1, v2, rfl, hv1, hv2⟩ := hv
  have hp' := hp
  obtain ⟨_, A, pc, rfl, _, _, _⟩ := hp'
  by_cases hok : 1 ≤ n ∧ n ≤ 40 ∧ picks.length ≤ 300
  · obtain ⟨a, b, c⟩ := hok
    obtain ⟨m, rfl⟩ := Int.eq_ofNat_of_zero_le (show 0 ≤ n by omega)
    exact flushed_yes w m v1 v2 l more (by omega) (by omega) hv1 hv2 A pc picks hp c
  · have hv' := Lib.hid hv1
    obtain ⟨OA, oc, rfl, _, _, _⟩ := hv1
    obtain ⟨MA, mc, rfl, _, _, _⟩ := hv2
    have HN := Lib.hid hok
    clear hok hp
    have B0 : ∀ b, Hid (Below w.heap.size w (w.alloc b)) := fun b => (Below.refl _ w).alloc (Nat.le_refl _) b
    go_enter Try.func4, Try.ntmps4
    go_wp2_with fail
    refine wp_region_flag (fun w' => w'.cell? ⟨w.heap.size, 0, none⟩ = some (.slice OA l.length oc) ∧ w'.cell? ⟨w.heap.size, 1, none⟩ = some (.slice MA more.length mc)) [(0, 1), (2, 1), (1, 2), (4, 1), (3, 0), (5, 1)] (by kernel_rfl) (by kernel_rfl) (by go_simp) ?_
    simp only [ordered, List.map_cons, List.map_nil, List.getD_cons_zero, List.getD_cons_succ]
    repeat (refine wpF_dry (fun K hK => ?_); go_simp; refine hK _ ?_; clear hK K)
    refine wpF_read (.slice OA l.length oc) rfl (fun w' hS => by obtain ⟨s1, s2⟩ := hS; go_simp) (fun K hK => ?_)
    go_simp
    refine hK _ ?_
    clear hK K
    repeat (refine wpF_dry (fun K hK => ?_); go_simp; refine hK _ ?_; clear hK K)
    refine wpF_do ?_
    go_wp2_with fail
    refine ⟨by go_simp, ?_⟩
    repeat (refine wpF_dry (fun K hK => ?_); go_simp; refine hK _ ?_; clear hK K)
    refine wpF_nil ?_
    go_wp2_with fail
    by_cases hn : n < 1 ∨ 40 < n
    · have HN2 := Lib.hid hn
      clear hn
      refine (made_no _ n (.slice none 0 0) HN2.out _ _ _).mono ?_
      rintro e w1 ⟨rfl, b1⟩
      have B1 : Hid (Below w.heap.size w w1) := (B0 _).out.drew.trans (b1.mono (B0 _).out.drew.size)
      clear b1
      go_wp2_with fail
      refine (lives6 _).mono ?_
      rintro e w2 ⟨rfl, b2⟩
      have B2 := Lib.hid b2
      clear b2
      go_wp2
      go_ret
      exact ⟨rfl, B1.out.trans (B2.out.mono B1.out.size)⟩
    · obtain ⟨m, rfl⟩ := Int.eq_ofNat_of_zero_le (show 0 ≤ n by omega)
      have HN2 := Lib.hid hn
      clear hn
      have hq : 300 < picks.length := by have := HN.out; have := HN2.out; omega
      refine (made_yes _ m _ l (by have := HN2.out; omega) (by have := HN2.out; omega) (hv'.out.below (B0 _).out.drew)).mono ?_
      rintro e w1 ⟨g, F, rfl, _, _, b1⟩
      have B1 : Hid (Below w.heap.size w w1) := (B0 _).out.drew.trans (b1.mono (B0 _).out.drew.size)
      clear b1
      go_wp2_with fail
      refine (lives6 _).mono ?_
      rintro e w2 ⟨rfl, b2⟩
      have B2 := Lib.hid b2
      clear b2
      go_wp2
      go_ret
      exact ⟨rfl, B1.out.trans (B2.out.mono B1.out.size)⟩
end Go.Proofs.Ytfkonndbgmmckaa
