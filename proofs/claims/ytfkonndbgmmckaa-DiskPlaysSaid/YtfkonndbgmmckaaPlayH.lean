/- PlayH: the walk of step, whatever the kind is. -/
import Derived.Test.YtfkonndbgmmckaaPlayC
import Derived.Test.YtfkonndbgmmckaaPlayD
import Derived.Test.YtfkonndbgmmckaaPlayE
import Derived.Test.YtfkonndbgmmckaaPlayF
import Derived.Test.YtfkonndbgmmckaaPlayG
set_option linter.unusedVariables false
set_option linter.unusedSimpArgs false
namespace Go.Proofs.Ytfkonndbgmmckaa
open Go.RowKit

theorem step_any (w0 w : World) (F R : Nat → Prop) (g : Nat) (d : Dk) (vl vw : Value) (ps : List Part) (h : Mine w0 w (dk F g d :: rf R d vl vw :: ps)) (o : OpV) (hm : d.waits.length + 1 ≤ 5864062014805) (hw : d.writes < 9223372036854775807) (hat : o.at_ ≤ 9223372036854775807) (hp : RdB w0 (.slice o.pA o.picks.length o.pc) o.picks) :
    Calls Try.prog 26 #[.pointer (some ⟨g, 0, none⟩), refV d vl vw, .agg #[.int .i64 o.kind, .int .i64 o.at_, .int .i64 o.long, .int .u8 o.fill.toNat, .slice o.pA o.picks.length o.pc]] w fun e w' =>
      ∃ F' g' R' vl' vw', e = .returned (.tuple #[.pointer (some ⟨g', 0, none⟩), refV (stepD d o) vl' vw', .bool true]) ∧ Mine w0 w' (dk F' g' (stepD d o) :: rf R' (stepD d o) vl' vw' :: ps) := by
  by_cases k0 : o.kind = 0
  · rw [show stepD d o = d.write o.at_ o.text by unfold stepD; rw [if_pos k0]]
    exact step_write w0 w F R g d vl vw ps h o k0 hw hm
  by_cases k1 : o.kind = 1
  · rw [show stepD d o = d.flush by unfold stepD; rw [if_neg k0, if_pos k1]]
    exact step_flush w0 w F R g d vl vw ps h o k1 hm
  by_cases k2 : o.kind = 2
  · rw [show stepD d o = d by unfold stepD; rw [if_neg k0, if_neg k1, if_neg (by omega), if_neg (by omega), if_neg (by omega)]]
    exact step_idle w0 w F R g d vl vw ps h o k2 hm
  by_cases k3 : o.kind = 3
  · rw [show stepD d o = d.setFuse o.at_ by unfold stepD; rw [if_neg k0, if_neg k1, if_pos k3]]
    exact step_fuse w0 w F R g d vl vw ps h o k3 hat hm
  by_cases k4 : o.kind = 4
  · rw [show stepD d o = d.fail o.picks by unfold stepD; rw [if_neg k0, if_neg k1, if_neg k3, if_pos k4]]
    exact step_fail w0 w F R g d vl vw ps h o k4 hp hm
  by_cases k5 : o.kind = 5
  · rw [show stepD d o = d.start by unfold stepD; rw [if_neg k0, if_neg k1, if_neg k3, if_neg k4, if_pos k5]]
    exact step_start w0 w F R g d vl vw ps h o k5 hm
  · rw [show stepD d o = d by unfold stepD; rw [if_neg k0, if_neg k1, if_neg k3, if_neg k4, if_neg k5]]
    exact step_clone w0 w F R g d vl vw ps h o (by simpa using k0) (by simpa using k1) (by simpa using k2) (by simpa using k3) (by simpa using k4) (by simpa using k5) hw hm
end Go.Proofs.Ytfkonndbgmmckaa
