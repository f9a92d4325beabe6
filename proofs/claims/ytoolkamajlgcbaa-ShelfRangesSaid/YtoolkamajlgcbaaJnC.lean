/- JnC: the walks of the journal's Read, check. -/
import Derived.Test.YtoolkamajlgcbaaJnB
set_option linter.unusedVariables false
set_option linter.unusedSimpArgs false
namespace Go.Proofs.Ytoolkamajlgcbaa
open Go.RowKit

def jrd (d : Dk) (P : Nat) (i : Int) : ByteArray × Int := if i < 0 ∨ (P : Int) ≤ i then (ByteArray.empty, 9) else if d.down = true then (ByteArray.empty, 10) else (pageB d (1 + 4 * ((P : Int) + i)), 0)
theorem read_nil (w : World) (i : Int) : Calls Try.prog 62 #[.pointer none, .int .i64 i] w fun e w' => e = .returned (.tuple #[.string ByteArray.empty, .int .i64 1]) ∧ w = w' := by
  go_enter Try.func62, Try.ntmps62
  go_wp2
  go_ret2
  exact ⟨rfl, rfl⟩
set_option maxHeartbeats 1600000 in
set_option maxRecDepth 100000 in
theorem jread_any (w : World) (F : Nat → Prop) (gj g P : Nat) (d : Dk) (h : HasDisk w F g d) (hj : Jb w gj g P) (hz : Sz d) (hw : d.waits.length < 9223372036854775807) (hP : P ≤ 128) (hs : 8 * P + 1 ≤ d.l.length) (i : Int) :
    Calls Try.prog 62 #[.pointer (some ⟨gj, 0, none⟩), .int .i64 i] w fun e w' => e = .returned (.tuple #[.string (jrd d P i).1, .int .i64 (jrd d P i).2]) ∧ Below w.heap.size w w' := by
  obtain ⟨_, c1⟩ := hj.cells
  unfold jrd
  by_cases hi : i < 0 ∨ (P : Int) ≤ i
  · rw [if_pos hi]
    have hex : decide (i < 0) = true ∨ (decide (i < 0) = false ∧ decide ((P : Int) ≤ i) = true) := by
      by_cases h0 : i < 0
      · exact .inl (by simpa using h0)
      · exact .inr ⟨by simpa using h0, by simp; omega⟩
    clear h hj hi
    rcases hex with d1 | ⟨d1, d2⟩
    all_goals
      go_enter Try.func62, Try.ntmps62
      go_wp2
      go_ret2
      exact ⟨rfl, Below.refl _ _⟩
  · rw [if_neg hi]
    obtain ⟨k, rfl⟩ := Int.eq_ofNat_of_zero_le (show 0 ≤ i by omega)
    have hk : k < P := by omega
    have d1 : decide ((k : Int) < 0) = false := by simp
    have d2 : decide ((P : Int) ≤ (k : Int)) = false := by simp; omega
    have d2' : decide (P ≤ k) = false := by simp; omega
    have OW := fun W hW => Lib.hid (own_any W gj g P hW hP k (by omega))
    have HJ := Lib.hid hj
    obtain ⟨q, hq⟩ : ∃ q : Nat, q = 1 + 4 * (P + k) := ⟨_, rfl⟩
    have eq1 : 1 + 4 * ((P : Int) + (k : Int)) = (q : Int) := by omega
    rw [eq1]
    have OWN := OW w HJ.out
    rw [eq1] at OWN
    have LK : Hid (Calls Try.prog 67 #[.pointer (some ⟨gj, 0, none⟩), .int .i64 (q : Int)] w fun e w' => e = .returned (.tuple #[.string (if d.down = true then (ByteArray.empty, (10 : Int)) else (pageB d (q : Int), 0)).1, .int .i64 (if d.down = true then (ByteArray.empty, (10 : Int)) else (pageB d (q : Int), 0)).2]) ∧ Below w.heap.size w w') := by
      by_cases hd : d.down = true
      · rw [if_pos hd]; exact look_down w F gj g P d h hj hd hw q (by omega)
      · rw [if_neg hd]; exact look_up w F gj g P d h hj (by simpa using hd) hz hw q (by omega) (by omega)
    clear h hj hi hz hw hs hk OW hq eq1
    generalize (if d.down = true then (ByteArray.empty, (10 : Int)) else (pageB d (q : Int), 0)) = r at LK ⊢
    go_enter Try.func62, Try.ntmps62
    go_wp2_with fail
    refine OWN.out.mono ?_
    rintro e w1 ⟨rfl, rfl⟩
    go_wp2_with fail
    refine LK.out.mono ?_
    rintro e w2 ⟨rfl, b2⟩
    have B2 := Lib.hid b2
    clear b2 LK OWN
    go_wp2
    go_ret2
    exact ⟨rfl, B2.out⟩

/-- Changes that are read. -/
def ChgAt (w : World) (b off : Nat) (l : List (Int × ByteArray)) : Prop := ∀ j (h : j < l.length), w.cell? ⟨b, off + j * 2, none⟩ = some (.int .i64 l[j].1) ∧ w.cell? ⟨b, off + j * 2 + 1, none⟩ = some (.string l[j].2)
theorem ChgAt.below {w w' : World} {b off : Nat} {l : List (Int × ByteArray)} (h : ChgAt w b off l) (hb : Below w.heap.size w w') : ChgAt w' b off l := fun j hj => ⟨cell_below hb (h j hj).1, cell_below hb (h j hj).2⟩
def RdC (w : World) (A : Option Addr) (l : List (Int × ByteArray)) : Prop := 0 < l.length → ∃ b off, A = some ⟨b, off, none⟩ ∧ ChgAt w b off l
theorem RdC.below {w w' : World} {A : Option Addr} {l : List (Int × ByteArray)} (h : RdC w A l) (hb : Below w.heap.size w w') : RdC w' A l := fun hp => by
  obtain ⟨b, off, e, hc⟩ := h hp
  exact ⟨b, off, e, hc.below hb⟩
/-- Why changes can't be committed, but for the disk. -/
def outK (P : Nat) (l : List (Int × ByteArray)) : Bool := l.any (fun c => decide (c.1 < 0) || decide ((P : Int) ≤ c.1))
def dupK (l : List (Int × ByteArray)) : Nat → Bool
  | 0 => false
  | k + 1 => dupK l k || (l.take k).any (fun c => decide (c.1 = (l.getD k (0, ByteArray.empty)).1))
def longK (l : List (Int × ByteArray)) : Bool := l.any (fun c => decide (c.2.size ≠ 1024))
def whyE (P : Nat) (l : List (Int × ByteArray)) : Int := if outK P l = true then 9 else if dupK l l.length = true then 7 else if longK l = true then 1 else 0
end Go.Proofs.Ytoolkamajlgcbaa
