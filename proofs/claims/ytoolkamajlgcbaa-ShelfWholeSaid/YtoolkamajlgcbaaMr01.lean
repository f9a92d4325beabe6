/- Base: memory that a call owns: what stays as it was outside a set of blocks; rows that are read; rows that are owned. -/
import Derived.WalkKit
import Derived.Lib.Hide
import Derived.Maps.AppendAt
import Derived.Deep.Draws
import Derived.Test.YtoolkamajlgcbaaProg
import Derived.BigQuiet
import Derived.WalkSpells
import Derived.WalkLawsBesides
namespace Go.Proofs.Ytoolkamajlgcbaa
open Go.RowKit

/-- w' is w but for the blocks in S and new blocks. -/
structure Touch (S : Nat → Prop) (w w' : World) : Prop where
  os : w'.os = w.os
  tape : w'.tape = w.tape
  output : w'.output = w.output
  size : w.heap.size ≤ w'.heap.size
  block : ∀ k, k < w.heap.size → ¬ S k → w'.heap[k]? = w.heap[k]?

theorem Touch.refl (S : Nat → Prop) (w : World) : Touch S w w := ⟨rfl, rfl, rfl, Nat.le_refl _, fun _ _ _ => rfl⟩
theorem Touch.mono {S S' : Nat → Prop} {w w' : World} (h : Touch S w w') (hs : ∀ k, k < w.heap.size → S k → S' k) : Touch S' w w' :=
  ⟨h.os, h.tape, h.output, h.size, fun k hk hn => h.block k hk fun hS => hn (hs k hk hS)⟩
theorem Touch.trans {S S' : Nat → Prop} {a b c : World} (h : Touch S a b) (k : Touch S' b c) (hS : ∀ j, j < a.heap.size → S' j → S j) : Touch S a c :=
  ⟨k.os.trans h.os, k.tape.trans h.tape, k.output.trans h.output, Nat.le_trans h.size k.size, fun i hi hn =>
    (k.block i (Nat.lt_of_lt_of_le hi h.size) fun hs => hn (hS i hi hs)).trans (h.block i hi hn)⟩
theorem Touch.drew {S : Nat → Prop} {a w : World} (h : Touch S a w) : Touch S a w.drew := ⟨h.os, h.tape, h.output, h.size, h.block⟩
theorem Touch.drewN {S : Nat → Prop} {a w : World} (h : Touch S a w) (n : Nat) : Touch S a (w.drewN n) := ⟨h.os, h.tape, h.output, h.size, h.block⟩
theorem Touch.alloc {S : Nat → Prop} {a w : World} (h : Touch S a w) (o : Obj) : Touch S a (w.alloc o) :=
  ⟨h.os, h.tape, h.output, by have := h.size; simp; omega, fun k hk hn => (Below.heap_alloc _ _ _ (Nat.lt_of_lt_of_le hk h.size)).trans (h.block k hk hn)⟩
theorem Touch.setCell {S : Nat → Prop} {a w : World} (h : Touch S a w) {p : Addr} (hp : S p.block ∨ a.heap.size ≤ p.block) (u : Value) : Touch S a (w.setCell p u) :=
  ⟨h.os, h.tape, h.output, by have := h.size; simpa using this, fun k hk hn =>
    (Below.heap_setCell _ _ _ _ (fun e => by subst e; rcases hp with hp | hp; exact hn hp; omega)).trans (h.block k hk hn)⟩
theorem Touch.grown {S : Nat → Prop} {a w w' : World} {row : Option Nat} (h : Touch S a w) (hg : w.grownBy w' row) (hr : ∀ k, row = some k → S k ∨ a.heap.size ≤ k) : Touch S a w' :=
  ⟨hg.os.trans h.os, hg.tape.trans h.tape, hg.output.trans h.output, Nat.le_trans h.size hg.size, fun k hk hn =>
    (hg.block k (Nat.lt_of_lt_of_le hk h.size) fun e => by rcases hr k e.symm with hp | hp; exact hn hp; omega).trans (h.block k hk hn)⟩
theorem Touch.below {S : Nat → Prop} {w w' : World} {B : Nat} (h : Touch S w w') (hB : B ≤ w.heap.size) (hs : ∀ k, S k → B ≤ k) : Below B w w' :=
  ⟨h.os, h.tape, h.output, h.size, fun k hk => h.block k (by omega) fun hS => by have := hs k hS; omega⟩
theorem Touch.of_below {S : Nat → Prop} {w w' : World} (h : Below w.heap.size w w') : Touch S w w' := ⟨h.os, h.tape, h.output, h.size, fun k hk _ => h.block k hk⟩
theorem Below.touch {S : Nat → Prop} {B : Nat} {w w' : World} (h : Below B w w') (hs : ∀ k, B ≤ k → k < w.heap.size → S k) : Touch S w w' :=
  ⟨h.os, h.tape, h.output, h.size, fun k hk hn => h.block k (by rcases Nat.lt_or_ge k B with h1 | h1; exact h1; exact absurd (hs k h1 hk) hn)⟩

/-- A slice that is read: its address, its length, the cells of its elements (size cells each). -/
def Rd (w : World) (size : Nat) (v : Value) (n : Nat) (xs : List Value) : Prop :=
  xs.length = n * size ∧ ∃ A c, v = .slice A n c ∧ n ≤ c ∧ n ≤ 9223372036854775807 ∧ (0 < n * size → ∃ ad, A = some ad ∧ ∀ j u, xs[j]? = some u → w.cell? (ad.add j) = some u)

theorem cell_keep {w w' : World} {S : Nat → Prop} (h : Touch S w w') {a : Addr} {v : Value} (hc : w.cell? a = some v) (hS : ¬ S a.block) : w'.cell? a = some v :=
  (World.cell?_of_block (w := w) (h.block a.block (World.block_lt_of_cell? w a hc) hS)).trans hc

theorem cell_below {w w' : World} (h : Below w.heap.size w w') {a : Addr} {v : Value} (hc : w.cell? a = some v) : w'.cell? a = some v :=
  (h.cell (World.block_lt_of_cell? w a hc)).trans hc

theorem Rd.below {w w' : World} {size n : Nat} {v : Value} {xs : List Value} (h : Rd w size v n xs) (hb : Below w.heap.size w w') : Rd w' size v n xs := by
  obtain ⟨hl, A, c, rfl, h1, h2, h3⟩ := h
  exact ⟨hl, A, c, rfl, h1, h2, fun hp => by obtain ⟨ad, e, hc⟩ := h3 hp; exact ⟨ad, e, fun j u hu => cell_below hb (hc j u hu)⟩⟩

/-- The struct behind a pointer: the block, known whole. -/
theorem blk_cell {w : World} {g : Nat} {c : Array Value} {t : TypeId} {fr : Nat × Nat} (h : w.heap[g]? = some (.cells c t fr)) (i : Nat) : w.cell? ⟨g, i, none⟩ = c[i]? := by
  simp [World.cell?, h]
theorem blk_free {w : World} {g : Nat} {c : Array Value} {t : TypeId} (h : w.heap[g]? = some (.cells c t (0, 0))) (i : Nat) : w.frozen? ⟨g, i, none⟩ = false := by
  simp [World.frozen?, h]
theorem blk_set {w : World} {g : Nat} {c : Array Value} {t : TypeId} {fr : Nat × Nat} (h : w.heap[g]? = some (.cells c t fr)) (i : Nat) (v : Value) :
    (w.setCell ⟨g, i, none⟩ v).heap[g]? = some (.cells (c.setIfInBounds i v) t fr) := by
  simp [World.setCell, Array.getElem?_modify, h]
theorem blk_set_ne {w : World} {g : Nat} {p : Addr} (hp : p.block ≠ g) (v : Value) : (w.setCell p v).heap[g]? = w.heap[g]? :=
  Below.heap_setCell _ _ _ _ (fun e => hp e.symm)
theorem blk_lt {w : World} {g : Nat} {o : Obj} (h : w.heap[g]? = some o) : g < w.heap.size := lt_of_block h
theorem blk_alloc {w : World} {g : Nat} {o : Obj} (h : w.heap[g]? = some o) (o' : Obj) : (w.alloc o').heap[g]? = some o :=
  (Below.heap_alloc _ _ _ (lt_of_block h)).trans h
theorem blk_new (w : World) (o : Obj) : (w.alloc o).heap[w.heap.size]? = some o := by
  show (w.heap.push o)[_]? = _
  simp
theorem blk_grown {w w' : World} {row : Option Nat} (hg : w.grownBy w' row) {g : Nat} {o : Obj} (h : w.heap[g]? = some o) (hne : row ≠ some g) : w'.heap[g]? = some o :=
  (hg.block g (lt_of_block h) (fun e => hne e.symm)).trans h
theorem blk_touch {S : Nat → Prop} {w w' : World} (hg : Touch S w w') {g : Nat} {o : Obj} (h : w.heap[g]? = some o) (hne : ¬ S g) : w'.heap[g]? = some o :=
  (hg.block g (lt_of_block h) hne).trans h

/-- Two rows of other element types lie in other blocks. -/
theorem own_ne_blk {w : World} {base : Nat} {e t : TypeId} {size n g : Nat} {v : Value} {xs : List Value} {c : Array Value} {fr : Nat × Nat} (h : w.ownsRow base e size v n xs) (hg : w.heap[g]? = some (.cells c t fr)) (hne : e ≠ t) : v.ownBlock ≠ some g := by
  rcases h.2 with ⟨rfl, _⟩ | ⟨g', cap, cur, rfl, _, hh, _⟩
  · simp [Value.ownBlock]
  · intro e'
    have : g' = g := by simpa [Value.ownBlock] using e'
    subst this
    rw [hh] at hg
    simp at hg
    exact hne hg.2.1
theorem own_ne_own {w : World} {b b' : Nat} {e e' : TypeId} {s s' n n' : Nat} {v v' : Value} {xs xs' : List Value} (h : w.ownsRow b e s v n xs) (h' : w.ownsRow b' e' s' v' n' xs') (hne : e ≠ e') : v.ownBlock = none ∨ v.ownBlock ≠ v'.ownBlock := by
  rcases h'.2 with ⟨rfl, _⟩ | ⟨g', cap, cur, rfl, _, hh, _⟩
  · cases hv : v.ownBlock with
    | none => exact .inl rfl
    | some k => exact .inr (by simp [Value.ownBlock])
  · exact .inr (by simpa [Value.ownBlock] using own_ne_blk h hh hne)
theorem own_touch {S : Nat → Prop} {w w' : World} {b : Nat} {e : TypeId} {s n : Nat} {v : Value} {xs : List Value} (h : w.ownsRow b e s v n xs) (ht : Touch S w w') (hS : ∀ k, v.ownBlock = some k → ¬ S k) : w'.ownsRow b e s v n xs := by
  obtain ⟨h1, h2⟩ := h
  refine ⟨h1, ?_⟩
  rcases h2 with h2 | ⟨g, cap, cur, hv, hg, hh, r⟩
  · exact Or.inl h2
  · exact Or.inr ⟨g, cap, cur, hv, hg, blk_touch ht hh (hS g (by rw [hv]; rfl)), r⟩

end Go.Proofs.Ytoolkamajlgcbaa
/- Dk: what a disk does, in plain Lean: sectors, writes that wait, a fuse, how many writes there were, whether the power is off. No program here. -/
namespace Go.Proofs.Ytoolkamajlgcbaa

structure Dk where
  l : List ByteArray
  waits : List (Int × ByteArray)
  fuse : Int
  writes : Int
  down : Bool

namespace Dk
def use (d : Dk) (i : Int) : Int := if d.down = true then 10 else if i < 0 ∨ (d.l.length : Int) ≤ i then 9 else 0
def look (i : Int) : List (Int × ByteArray) → ByteArray → ByteArray
  | [], s => s
  | w :: ws, s => look i ws (if w.1 = i then w.2 else s)
def read (d : Dk) (i : Int) : ByteArray × Int := if d.use i = 0 then (look i d.waits (d.l.getD i.toNat ByteArray.empty), 0) else (ByteArray.empty, d.use i)
def wrote (d : Dk) (i : Int) (s : ByteArray) : Dk :=
  { d with waits := d.waits ++ [(i, s)], writes := d.writes + 1, fuse := if 0 < d.fuse then d.fuse - 1 else d.fuse, down := if 0 < d.fuse then (d.fuse - 1 == 0) else d.down }
def writeE (d : Dk) (i : Int) (s : ByteArray) : Int := if d.use i = 0 then (if s.size = 256 then 0 else 1) else d.use i
def write (d : Dk) (i : Int) (s : ByteArray) : Dk := if d.writeE i s = 0 then d.wrote i s else d
/-- The writes that wait, from the n-th on, those that are picked. -/
def settle (p : Nat → Bool) : Nat → List (Int × ByteArray) → List ByteArray → List ByteArray
  | _, [], l => l
  | n, w :: ws, l => settle p (n + 1) ws (if p n = true then l.set w.1.toNat w.2 else l)
def settled (d : Dk) (p : Nat → Bool) : Dk := { d with l := settle p 0 d.waits d.l, waits := [] }
def flush (d : Dk) : Dk := if d.use 0 = 0 then d.settled (fun _ => true) else d
def setFuseE (d : Dk) (n : Int) : Int := if d.use 0 = 0 then (if n < 0 then 9 else 0) else d.use 0
def setFuse (d : Dk) (n : Int) : Dk := if d.setFuseE n = 0 then { d with fuse := n } else d
def fail (d : Dk) (picks : List Bool) : Dk := { d.settled (fun i => picks.getD i false) with down := true, fuse := 0 }
def startE (d : Dk) : Int := if d.down = true ∧ d.waits = [] then 0 else 8
def start (d : Dk) : Dk := if d.startE = 0 then { d with down := false } else d
def rep (n : Nat) (c : UInt8) : ByteArray := ⟨(List.replicate n c).toArray⟩
def sector0 : ByteArray := rep 256 0
theorem rep_size (n : Nat) (c : UInt8) : (rep n c).size = n := by simp [rep, ByteArray.size]
def new (n : Nat) : Dk := ⟨List.replicate n sector0, [], 0, 0, false⟩

/-- What holds of each disk: the waiting writes lie in it, the fuse is no less than 0. -/
structure Ok (d : Dk) : Prop where
  at_ : ∀ w ∈ d.waits, 0 ≤ w.1 ∧ w.1 < (d.l.length : Int)
  fuse0 : 0 ≤ d.fuse
  fuse1 : d.fuse ≤ 9223372036854775807
  writes0 : 0 ≤ d.writes
  pos : 0 < d.l.length
  most : d.l.length ≤ 2048

theorem settle_length (p : Nat → Bool) (ws : List (Int × ByteArray)) : ∀ (n : Nat) (l : List ByteArray), (settle p n ws l).length = l.length := by
  induction ws with
  | nil => intro n l; rfl
  | cons w ws ih => intro n l; rw [settle, ih]; split <;> simp

theorem use_cases (d : Dk) (i : Int) : d.use i = 0 ∨ d.use i = 9 ∨ d.use i = 10 := by
  unfold use; split; exact .inr (.inr rfl); split; exact .inr (.inl rfl); exact .inl rfl
theorem use_zero {d : Dk} {i : Int} (h : d.use i = 0) : d.down = false ∧ 0 ≤ i ∧ i < (d.l.length : Int) := by
  unfold use at h
  split at h
  · omega
  · rename_i hd
    split at h
    · omega
    · rename_i hi; exact ⟨by simpa using hd, by omega, by omega⟩
theorem Ok.use0 {d : Dk} (h : Ok d) : d.use 0 = if d.down = true then 10 else 0 := by
  unfold use; have := h.pos; split; rfl; rw [if_neg (by omega)]

theorem Ok.write {d : Dk} (h : Ok d) (i : Int) (s : ByteArray) : Ok (d.write i s) := by
  unfold Dk.write
  split
  · rename_i he
    have hu : d.use i = 0 := by
      unfold writeE at he
      split at he
      · assumption
      · exact absurd he (by assumption)
    obtain ⟨_, h0, h1⟩ := use_zero hu
    unfold wrote
    refine ⟨?_, ?_, ?_, ?_, h.pos, h.most⟩
    · intro w hw
      simp only [List.mem_append, List.mem_singleton] at hw
      rcases hw with hw | rfl
      · exact h.at_ w hw
      · exact ⟨h0, h1⟩
    · have := h.fuse0; simp only; split <;> omega
    · have := h.fuse1; simp only; split <;> omega
    · have := h.writes0; simp only; omega
  · exact h
theorem Ok.settled {d : Dk} (h : Ok d) (p : Nat → Bool) : Ok (d.settled p) :=
  ⟨fun w hw => by simp [Dk.settled] at hw, h.fuse0, h.fuse1, h.writes0, by simpa [Dk.settled, settle_length] using h.pos, by simpa [Dk.settled, settle_length] using h.most⟩
theorem Ok.flush {d : Dk} (h : Ok d) : Ok d.flush := by unfold Dk.flush; split; exact h.settled _; exact h
theorem Ok.fail {d : Dk} (h : Ok d) (p : List Bool) : Ok (d.fail p) := by
  have k := h.settled (fun i => p.getD i false)
  exact ⟨k.at_, by simp [Dk.fail], by simp [Dk.fail], k.writes0, k.pos, k.most⟩
theorem Ok.start {d : Dk} (h : Ok d) : Ok d.start := by
  unfold Dk.start; split; exact ⟨h.at_, h.fuse0, h.fuse1, h.writes0, h.pos, h.most⟩; exact h
theorem Ok.setFuse {d : Dk} (h : Ok d) (n : Int) (hn : n ≤ 9223372036854775807) : Ok (d.setFuse n) := by
  unfold Dk.setFuse
  split
  · rename_i he
    have : 0 ≤ n := by
      unfold setFuseE at he
      split at he
      · split at he <;> omega
      · exact absurd he (by assumption)
    exact ⟨h.at_, this, hn, h.writes0, h.pos, h.most⟩
  · exact h
theorem Ok.new (n : Nat) (h1 : 1 ≤ n) (h2 : n ≤ 2048) : Ok (Dk.new n) :=
  ⟨fun w hw => by simp [Dk.new] at hw, by simp [Dk.new], by simp [Dk.new], by simp [Dk.new], by simp [Dk.new]; omega, by simpa [Dk.new] using h2⟩
end Dk
end Go.Proofs.Ytoolkamajlgcbaa
/- Disk1: the walks of the small methods of disk.Disk: each does what Dk says. -/
set_option linter.unusedVariables false
set_option linter.unusedSimpArgs false
namespace Go.Proofs.Ytoolkamajlgcbaa
open Go.RowKit

def strs (l : List ByteArray) : List Value := l.map Value.string
def wcells : List (Int × ByteArray) → List Value
  | [] => []
  | w :: ws => .int .i64 w.1 :: .string w.2 :: wcells ws

theorem own_slice {w : World} {base n : Nat} {e : TypeId} {size : Nat} {v : Value} {xs : List Value} (h : w.ownsRow base e size v n xs) : ∃ A c, v = .slice A n c := by
  rcases h.2 with ⟨rfl, rfl⟩ | ⟨g, cap, cur, rfl, _⟩
  · exact ⟨none, 0, rfl⟩
  · exact ⟨_, cap, rfl⟩

/-- The disk d lies at block g, in blocks of F alone. -/
structure IsDisk (w : World) (F : Nat → Prop) (g : Nat) (d : Dk) (vl vw : Value) : Prop where
  blk : w.heap[g]? = some (.cells #[vl, vw, .int .i64 d.fuse, .int .i64 d.writes, .bool d.down] 104 (0, 0))
  own : w.ownsRow 0 9 1 vl d.l.length (strs d.l)
  ownW : w.ownsRow 0 121 2 vw d.waits.length (wcells d.waits)
  fg : F g
  fl : ∀ k, vl.ownBlock = some k → F k
  fw : ∀ k, vw.ownBlock = some k → F k
  lt : ∀ k, F k → k < w.heap.size
  ok : d.Ok

theorem use_any (w : World) (F : Nat → Prop) (g : Nat) (d : Dk) (vl vw : Value) (h : IsDisk w F g d vl vw) (i : Int) :
    Calls Try.prog 69 #[.pointer (some ⟨g, 0, none⟩), .int .i64 i] w fun e w' => e = .returned (.int .i64 (d.use i)) ∧ w = w' := by
  have c0 := blk_cell h.blk 0
  have c4 := blk_cell h.blk 4
  simp at c0 c4
  by_cases hd : d.down = true
  · have hu : Hid (d.use i = 10) := by unfold Hid Dk.use; rw [if_pos hd]
    rw [hd] at c4
    go_enter Try.func69, Try.ntmps69
    go_wp2
    go_ret
    exact ⟨by rw [hu.out]; rfl, rfl⟩
  · have hd' : d.down = false := by simpa using hd
    rw [hd'] at c4
    obtain ⟨A, c, rfl⟩ := own_slice h.own
    have hlen := h.ok.most
    by_cases h0 : i < 0
    · have hu : Hid (d.use i = 9) := by unfold Hid Dk.use; rw [if_neg hd, if_pos (.inl h0)]
      go_enter Try.func69, Try.ntmps69
      go_wp2
      go_ret
      exact ⟨by rw [hu.out]; rfl, rfl⟩
    · have h0' : decide (i < 0) = false := by simpa using h0
      by_cases h1 : (d.l.length : Int) ≤ i
      · have hu : Hid (d.use i = 9) := by unfold Hid Dk.use; rw [if_neg hd, if_pos (.inr h1)]
        go_enter Try.func69, Try.ntmps69
        go_wp2
        go_ret
        exact ⟨by rw [hu.out]; rfl, rfl⟩
      · have hu : Hid (d.use i = 0) := by unfold Hid Dk.use; rw [if_neg hd, if_neg (by omega)]
        go_enter Try.func69, Try.ntmps69
        go_wp2
        go_ret
        exact ⟨by rw [hu.out]; rfl, rfl⟩
theorem use_nil (w : World) (i : Int) :
    Calls Try.prog 69 #[.pointer none, .int .i64 i] w fun e w' => e = .returned (.int .i64 1) ∧ w = w' := by
  go_enter Try.func69, Try.ntmps69
  go_wp2
  go_ret
  exact ⟨rfl, rfl⟩

/-- What a call may do to a disk: d becomes d', in blocks of F and new ones. -/
def DiskTo (w : World) (F : Nat → Prop) (g : Nat) (d' : Dk) (w' : World) : Prop :=
  ∃ F' vl vw, IsDisk w' F' g d' vl vw ∧ (∀ k, F' k → F k ∨ w.heap.size ≤ k) ∧ Touch F w w'

theorem IsDisk.upd {w w' : World} {F : Nat → Prop} {g : Nat} {d d' : Dk} {vl vw : Value} (h : IsDisk w F g d vl vw) (hl : d'.l = d.l) (hw : d'.waits = d.waits) (ok : d'.Ok)
    (ht : Touch (fun k => k = g) w w') (hb : w'.heap[g]? = some (.cells #[vl, vw, .int .i64 d'.fuse, .int .i64 d'.writes, .bool d'.down] 104 (0, 0))) : IsDisk w' F g d' vl vw := by
  have n1 := own_ne_blk h.own h.blk (by decide)
  have n2 := own_ne_blk h.ownW h.blk (by decide)
  exact ⟨hb, by rw [hl]; exact own_touch h.own ht (fun k hk e => n1 (by rw [hk, e])), by rw [hw]; exact own_touch h.ownW ht (fun k hk e => n2 (by rw [hk, e])), h.fg, h.fl, h.fw, fun k hk => Nat.lt_of_lt_of_le (h.lt k hk) ht.size, ok⟩
theorem IsDisk.to {w w' : World} {F : Nat → Prop} {g : Nat} {d' : Dk} {vl vw : Value} (h : IsDisk w' F g d' vl vw) (hg : F g) (ht : Touch (fun k => k = g) w w') : DiskTo w F g d' w' :=
  ⟨F, vl, vw, h, fun k hk => .inl hk, ht.mono (fun k _ e => by subst e; exact hg)⟩
theorem IsDisk.self {w : World} {F : Nat → Prop} {g : Nat} {d : Dk} {vl vw : Value} (h : IsDisk w F g d vl vw) : DiskTo w F g d w := ⟨F, vl, vw, h, fun k hk => .inl hk, Touch.refl _ _⟩
/-- What is kept where others write. -/
theorem IsDisk.keep {w w' : World} {S F : Nat → Prop} {g : Nat} {d : Dk} {vl vw : Value} (h : IsDisk w F g d vl vw) (ht : Touch S w w') (hS : ∀ k, F k → ¬ S k) : IsDisk w' F g d vl vw :=
  ⟨blk_touch ht h.blk (hS _ h.fg), own_touch h.own ht (fun k hk => hS k (h.fl k hk)), own_touch h.ownW ht (fun k hk => hS k (h.fw k hk)), h.fg, h.fl, h.fw, fun k hk => Nat.lt_of_lt_of_le (h.lt k hk) ht.size, h.ok⟩

theorem Touch.setG {w w' : World} {g : Nat} (h : Touch (fun k => k = g) w w') (i : Nat) (v : Value) : Touch (fun k => k = g) w (w'.setCell ⟨g, i, none⟩ v) := h.setCell (p := ⟨g, i, none⟩) (.inl rfl) v

theorem fuse_any (w : World) (F : Nat → Prop) (g : Nat) (d : Dk) (vl vw : Value) (h : IsDisk w F g d vl vw) (n : Int) (hn : n ≤ 9223372036854775807) :
    Calls Try.prog 35 #[.pointer (some ⟨g, 0, none⟩), .int .i64 n] w fun e w' => e = .returned (.int .i64 (d.setFuseE n)) ∧ DiskTo w F g (d.setFuse n) w' := by
  have c2 := blk_cell h.blk 2
  have f2 := blk_free h.blk 2
  simp at c2
  by_cases hu : d.use 0 = 0
  · have hu1 : (d.use 0 == 0) = true := by simp [hu]
    have HU := Lib.hid hu
    clear hu
    by_cases hn0 : n < 0
    · have he : Hid (d.setFuseE n = 9) := by unfold Hid Dk.setFuseE; rw [if_pos HU.out, if_pos hn0]
      have hd : Hid (d.setFuse n = d) := by unfold Hid Dk.setFuse; rw [he.out]; rfl
      go_enter Try.func35, Try.ntmps35
      go_wp2_with (go_at_call 69; refine (use_any _ _ _ _ _ _ h _).mono ?_; rintro e w' ⟨rfl, rfl⟩; rw [HU.out])
      go_ret
      exact ⟨by rw [he.out]; rfl, by rw [hd.out]; exact h.self⟩
    · have he : Hid (d.setFuseE n = 0) := by unfold Hid Dk.setFuseE; rw [if_pos HU.out, if_neg hn0]
      have hd : Hid (d.setFuse n = { d with fuse := n }) := by unfold Hid Dk.setFuse; rw [he.out]; rfl
      go_enter Try.func35, Try.ntmps35
      go_wp2_with (go_at_call 69; refine (use_any _ _ _ _ _ _ h _).mono ?_; rintro e w' ⟨rfl, rfl⟩; rw [HU.out])
      go_ret
      have ht := (Touch.refl (fun k => k = g) w).setG 2 (.int .i64 n)
      refine ⟨by rw [he.out]; rfl, ?_⟩
      rw [hd.out]
      have ok := h.ok.setFuse n hn
      rw [hd.out] at ok
      exact (h.upd (d' := { d with fuse := n }) rfl rfl ok ht (by rw [blk_set h.blk]; rfl)).to h.fg ht
  · have hu1 : (d.use 0 == 0) = false := by simp [hu]
    have HU := Lib.hid hu
    clear hu
    have he : Hid (d.setFuseE n = d.use 0) := by unfold Hid Dk.setFuseE; rw [if_neg HU.out]
    have hd : Hid (d.setFuse n = d) := by unfold Hid Dk.setFuse; rw [he.out, if_neg HU.out]
    go_enter Try.func35, Try.ntmps35
    go_wp2_with (go_at_call 69; refine (use_any _ _ _ _ _ _ h _).mono ?_; rintro e w' ⟨rfl, rfl⟩)
    go_ret
    exact ⟨by rw [he.out]; rfl, by rw [hd.out]; exact h.self⟩

theorem size_any (w : World) (F : Nat → Prop) (g : Nat) (d : Dk) (vl vw : Value) (h : IsDisk w F g d vl vw) :
    Calls Try.prog 64 #[.pointer (some ⟨g, 0, none⟩)] w fun e w' => e = .returned (.int .i64 (d.l.length : Int)) ∧ w = w' := by
  have c0 := blk_cell h.blk 0
  simp at c0
  obtain ⟨A, c, rfl⟩ := own_slice h.own
  have hlen := h.ok.most
  go_enter Try.func64, Try.ntmps64
  go_wp2
  go_ret
  exact ⟨rfl, rfl⟩
theorem up_any (w : World) (F : Nat → Prop) (g : Nat) (d : Dk) (vl vw : Value) (h : IsDisk w F g d vl vw) :
    Calls Try.prog 45 #[.pointer (some ⟨g, 0, none⟩)] w fun e w' => e = .returned (.bool (!d.down)) ∧ w = w' := by
  have c4 := blk_cell h.blk 4
  simp at c4
  go_enter Try.func45, Try.ntmps45
  go_wp2
  go_ret
  exact ⟨rfl, rfl⟩
theorem start_any (w : World) (F : Nat → Prop) (g : Nat) (d : Dk) (vl vw : Value) (h : IsDisk w F g d vl vw) :
    Calls Try.prog 36 #[.pointer (some ⟨g, 0, none⟩)] w fun e w' => e = .returned (.int .i64 d.startE) ∧ DiskTo w F g d.start w' := by
  have c1 := blk_cell h.blk 1
  have c4 := blk_cell h.blk 4
  have f4 := blk_free h.blk 4
  simp at c1 c4
  obtain ⟨A, c, rfl⟩ := own_slice h.ownW
  by_cases hd : d.down = true
  · rw [hd] at c4
    by_cases hw : d.waits = []
    · have he : Hid (d.startE = 0) := by unfold Hid Dk.startE; rw [if_pos ⟨hd, hw⟩]
      have hs : Hid (d.start = { d with down := false }) := by unfold Hid Dk.start; rw [he.out]; rfl
      have hl : decide (0 < d.waits.length) = false := by simp [hw]
      clear hd hw
      go_enter Try.func36, Try.ntmps36
      go_wp2
      go_ret
      have ht := (Touch.refl (fun k => k = g) w).setG 4 (.bool false)
      refine ⟨by rw [he.out]; rfl, ?_⟩
      have ok := h.ok.start
      rw [hs.out] at ok ⊢
      exact (h.upd (d' := { d with down := false }) rfl rfl ok ht (by rw [blk_set h.blk]; rfl)).to h.fg ht
    · have he : Hid (d.startE = 8) := by unfold Hid Dk.startE; rw [if_neg (fun k => hw k.2)]
      have hs : Hid (d.start = d) := by unfold Hid Dk.start; rw [he.out]; rfl
      have hl : 0 < d.waits.length := List.length_pos_iff.2 hw
      clear hd hw
      go_enter Try.func36, Try.ntmps36
      go_wp2
      go_ret
      exact ⟨by rw [he.out]; rfl, by rw [hs.out]; exact h.self⟩
  · have he : Hid (d.startE = 8) := by unfold Hid Dk.startE; rw [if_neg (fun k => hd k.1)]
    have hs : Hid (d.start = d) := by unfold Hid Dk.start; rw [he.out]; rfl
    have hd' : d.down = false := by simpa using hd
    rw [hd'] at c4
    clear hd hd'
    go_enter Try.func36, Try.ntmps36
    go_wp2
    go_ret
    exact ⟨by rw [he.out]; rfl, by rw [hs.out]; exact h.self⟩
end Go.Proofs.Ytoolkamajlgcbaa
