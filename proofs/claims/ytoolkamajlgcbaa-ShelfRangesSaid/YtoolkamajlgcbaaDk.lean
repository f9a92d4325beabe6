/- Dk: what a disk does, in plain Lean: sectors, writes that wait, a fuse, how many writes there were, whether the power is off. No program here. -/
import Derived.Lib.Hide
namespace Go.Proofs.Ytoolkamajlgcbaa

structure Dk where
  l : List ByteArray
  waits : List (Int × ByteArray)
  fuse : Int
  writes : Int
  down : Bool

namespace Dk
def use (d : Dk) (i : Int) : Int := if d.down = true then 10 else if i < 0 ∨ (d.l.length : Int) ≤ i then 9 else 0
def look (i : Int) : List (Int × ByteArray) → ByteArray → ByteArray
  | [], s => s
  | w :: ws, s => look i ws (if w.1 = i then w.2 else s)
def read (d : Dk) (i : Int) : ByteArray × Int := if d.use i = 0 then (look i d.waits (d.l.getD i.toNat ByteArray.empty), 0) else (ByteArray.empty, d.use i)
def wrote (d : Dk) (i : Int) (s : ByteArray) : Dk :=
  { d with waits := d.waits ++ [(i, s)], writes := d.writes + 1, fuse := if 0 < d.fuse then d.fuse - 1 else d.fuse, down := if 0 < d.fuse then (d.fuse - 1 == 0) else d.down }
def writeE (d : Dk) (i : Int) (s : ByteArray) : Int := if d.use i = 0 then (if s.size = 256 then 0 else 1) else d.use i
def write (d : Dk) (i : Int) (s : ByteArray) : Dk := if d.writeE i s = 0 then d.wrote i s else d
/-- The writes that wait, from the n-th on, those that are picked. -/
def settle (p : Nat → Bool) : Nat → List (Int × ByteArray) → List ByteArray → List ByteArray
  | _, [], l => l
  | n, w :: ws, l => settle p (n + 1) ws (if p n = true then l.set w.1.toNat w.2 else l)
def settled (d : Dk) (p : Nat → Bool) : Dk := { d with l := settle p 0 d.waits d.l, waits := [] }
def flush (d : Dk) : Dk := if d.use 0 = 0 then d.settled (fun _ => true) else d
def setFuseE (d : Dk) (n : Int) : Int := if d.use 0 = 0 then (if n < 0 then 9 else 0) else d.use 0
def setFuse (d : Dk) (n : Int) : Dk := if d.setFuseE n = 0 then { d with fuse := n } else d
def fail (d : Dk) (picks : List Bool) : Dk := { d.settled (fun i => picks.getD i false) with down := true, fuse := 0 }
def startE (d : Dk) : Int := if d.down = true ∧ d.waits = [] then 0 else 8
def start (d : Dk) : Dk := if d.startE = 0 then { d with down := false } else d
def rep (n : Nat) (c : UInt8) : ByteArray := ⟨(List.replicate n c).toArray⟩
def sector0 : ByteArray := rep 256 0
theorem rep_size (n : Nat) (c : UInt8) : (rep n c).size = n := by simp [rep, ByteArray.size]
def new (n : Nat) : Dk := ⟨List.replicate n sector0, [], 0, 0, false⟩

/-- What holds of each disk: the waiting writes lie in it, the fuse is no less than 0. -/
structure Ok (d : Dk) : Prop where
  at_ : ∀ w ∈ d.waits, 0 ≤ w.1 ∧ w.1 < (d.l.length : Int)
  fuse0 : 0 ≤ d.fuse
  fuse1 : d.fuse ≤ 9223372036854775807
  writes0 : 0 ≤ d.writes
  pos : 0 < d.l.length
  most : d.l.length ≤ 2048

theorem settle_length (p : Nat → Bool) (ws : List (Int × ByteArray)) : ∀ (n : Nat) (l : List ByteArray), (settle p n ws l).length = l.length := by
  induction ws with
  | nil => intro n l; rfl
  | cons w ws ih => intro n l; rw [settle, ih]; split <;> simp

theorem use_cases (d : Dk) (i : Int) : d.use i = 0 ∨ d.use i = 9 ∨ d.use i = 10 := by
  unfold use; split; exact .inr (.inr rfl); split; exact .inr (.inl rfl); exact .inl rfl
theorem use_zero {d : Dk} {i : Int} (h : d.use i = 0) : d.down = false ∧ 0 ≤ i ∧ i < (d.l.length : Int) := by
  unfold use at h
  split at h
  · omega
  · rename_i hd
    split at h
    · omega
    · rename_i hi; exact ⟨by simpa using hd, by omega, by omega⟩
theorem Ok.use0 {d : Dk} (h : Ok d) : d.use 0 = if d.down = true then 10 else 0 := by
  unfold use; have := h.pos; split; rfl; rw [if_neg (by omega)]

theorem Ok.write {d : Dk} (h : Ok d) (i : Int) (s : ByteArray) : Ok (d.write i s) := by
  unfold Dk.write
  split
  · rename_i he
    have hu : d.use i = 0 := by
      unfold writeE at he
      split at he
      · assumption
      · exact absurd he (by assumption)
    obtain ⟨_, h0, h1⟩ := use_zero hu
    unfold wrote
    refine ⟨?_, ?_, ?_, ?_, h.pos, h.most⟩
    · intro w hw
      simp only [List.mem_append, List.mem_singleton] at hw
      rcases hw with hw | rfl
      · exact h.at_ w hw
      · exact ⟨h0, h1⟩
    · have := h.fuse0; simp only; split <;> omega
    · have := h.fuse1; simp only; split <;> omega
    · have := h.writes0; simp only; omega
  · exact h
theorem Ok.settled {d : Dk} (h : Ok d) (p : Nat → Bool) : Ok (d.settled p) :=
  ⟨fun w hw => by simp [Dk.settled] at hw, h.fuse0, h.fuse1, h.writes0, by simpa [Dk.settled, settle_length] using h.pos, by simpa [Dk.settled, settle_length] using h.most⟩
theorem Ok.flush {d : Dk} (h : Ok d) : Ok d.flush := by unfold Dk.flush; split; exact h.settled _; exact h
theorem Ok.fail {d : Dk} (h : Ok d) (p : List Bool) : Ok (d.fail p) := by
  have k := h.settled (fun i => p.getD i false)
  exact ⟨k.at_, by simp [Dk.fail], by simp [Dk.fail], k.writes0, k.pos, k.most⟩
theorem Ok.start {d : Dk} (h : Ok d) : Ok d.start := by
  unfold Dk.start; split; exact ⟨h.at_, h.fuse0, h.fuse1, h.writes0, h.pos, h.most⟩; exact h
theorem Ok.setFuse {d : Dk} (h : Ok d) (n : Int) (hn : n ≤ 9223372036854775807) : Ok (d.setFuse n) := by
  unfold Dk.setFuse
  split
  · rename_i he
    have : 0 ≤ n := by
      unfold setFuseE at he
      split at he
      · split at he <;> omega
      · exact absurd he (by assumption)
    exact ⟨h.at_, this, hn, h.writes0, h.pos, h.most⟩
  · exact h
theorem Ok.new (n : Nat) (h1 : 1 ≤ n) (h2 : n ≤ 2048) : Ok (Dk.new n) :=
  ⟨fun w hw => by simp [Dk.new] at hw, by simp [Dk.new], by simp [Dk.new], by simp [Dk.new], by simp [Dk.new]; omega, by simpa [Dk.new] using h2⟩
end Dk
end Go.Proofs.Ytoolkamajlgcbaa
