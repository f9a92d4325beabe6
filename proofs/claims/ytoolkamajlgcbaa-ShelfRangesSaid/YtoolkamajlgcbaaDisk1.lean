/- Disk1: the walks of the small methods of disk.Disk: each does what Dk says. -/
import Derived.Test.YtoolkamajlgcbaaBase
import Derived.Test.YtoolkamajlgcbaaDk
import Derived.Test.YtoolkamajlgcbaaProg
import Derived.BigQuiet
import Derived.WalkSpells
import Derived.WalkLawsBesides
set_option linter.unusedVariables false
set_option linter.unusedSimpArgs false
namespace Go.Proofs.Ytoolkamajlgcbaa
open Go.RowKit

def strs (l : List ByteArray) : List Value := l.map Value.string
def wcells : List (Int × ByteArray) → List Value
  | [] => []
  | w :: ws => .int .i64 w.1 :: .string w.2 :: wcells ws

theorem own_slice {w : World} {base n : Nat} {e : TypeId} {size : Nat} {v : Value} {xs : List Value} (h : w.ownsRow base e size v n xs) : ∃ A c, v = .slice A n c := by
  rcases h.2 with ⟨rfl, rfl⟩ | ⟨g, cap, cur, rfl, _⟩
  · exact ⟨none, 0, rfl⟩
  · exact ⟨_, cap, rfl⟩

/-- The disk d lies at block g, in blocks of F alone. -/
structure IsDisk (w : World) (F : Nat → Prop) (g : Nat) (d : Dk) (vl vw : Value) : Prop where
  blk : w.heap[g]? = some (.cells #[vl, vw, .int .i64 d.fuse, .int .i64 d.writes, .bool d.down] 104 (0, 0))
  own : w.ownsRow 0 9 1 vl d.l.length (strs d.l)
  ownW : w.ownsRow 0 121 2 vw d.waits.length (wcells d.waits)
  fg : F g
  fl : ∀ k, vl.ownBlock = some k → F k
  fw : ∀ k, vw.ownBlock = some k → F k
  lt : ∀ k, F k → k < w.heap.size
  ok : d.Ok

theorem use_any (w : World) (F : Nat → Prop) (g : Nat) (d : Dk) (vl vw : Value) (h : IsDisk w F g d vl vw) (i : Int) :
    Calls Try.prog 69 #[.pointer (some ⟨g, 0, none⟩), .int .i64 i] w fun e w' => e = .returned (.int .i64 (d.use i)) ∧ w = w' := by
  have c0 := blk_cell h.blk 0
  have c4 := blk_cell h.blk 4
  simp at c0 c4
  by_cases hd : d.down = true
  · have hu : Hid (d.use i = 10) := by unfold Hid Dk.use; rw [if_pos hd]
    rw [hd] at c4
    go_enter Try.func69, Try.ntmps69
    go_wp2
    go_ret
    exact ⟨by rw [hu.out]; rfl, rfl⟩
  · have hd' : d.down = false := by simpa using hd
    rw [hd'] at c4
    obtain ⟨A, c, rfl⟩ := own_slice h.own
    have hlen := h.ok.most
    by_cases h0 : i < 0
    · have hu : Hid (d.use i = 9) := by unfold Hid Dk.use; rw [if_neg hd, if_pos (.inl h0)]
      go_enter Try.func69, Try.ntmps69
      go_wp2
      go_ret
      exact ⟨by rw [hu.out]; rfl, rfl⟩
    · have h0' : decide (i < 0) = false := by simpa using h0
      by_cases h1 : (d.l.length : Int) ≤ i
      · have hu : Hid (d.use i = 9) := by unfold Hid Dk.use; rw [if_neg hd, if_pos (.inr h1)]
        go_enter Try.func69, Try.ntmps69
        go_wp2
        go_ret
        exact ⟨by rw [hu.out]; rfl, rfl⟩
      · have hu : Hid (d.use i = 0) := by unfold Hid Dk.use; rw [if_neg hd, if_neg (by omega)]
        go_enter Try.func69, Try.ntmps69
        go_wp2
        go_ret
        exact ⟨by rw [hu.out]; rfl, rfl⟩
theorem use_nil (w : World) (i : Int) :
    Calls Try.prog 69 #[.pointer none, .int .i64 i] w fun e w' => e = .returned (.int .i64 1) ∧ w = w' := by
  go_enter Try.func69, Try.ntmps69
  go_wp2
  go_ret
  exact ⟨rfl, rfl⟩

/-- What a call may do to a disk: d becomes d', in blocks of F and new ones. -/
def DiskTo (w : World) (F : Nat → Prop) (g : Nat) (d' : Dk) (w' : World) : Prop :=
  ∃ F' vl vw, IsDisk w' F' g d' vl vw ∧ (∀ k, F' k → F k ∨ w.heap.size ≤ k) ∧ Touch F w w'

theorem IsDisk.upd {w w' : World} {F : Nat → Prop} {g : Nat} {d d' : Dk} {vl vw : Value} (h : IsDisk w F g d vl vw) (hl : d'.l = d.l) (hw : d'.waits = d.waits) (ok : d'.Ok)
    (ht : Touch (fun k => k = g) w w') (hb : w'.heap[g]? = some (.cells #[vl, vw, .int .i64 d'.fuse, .int .i64 d'.writes, .bool d'.down] 104 (0, 0))) : IsDisk w' F g d' vl vw := by
  have n1 := own_ne_blk h.own h.blk (by decide)
  have n2 := own_ne_blk h.ownW h.blk (by decide)
  exact ⟨hb, by rw [hl]; exact own_touch h.own ht (fun k hk e => n1 (by rw [hk, e])), by rw [hw]; exact own_touch h.ownW ht (fun k hk e => n2 (by rw [hk, e])), h.fg, h.fl, h.fw, fun k hk => Nat.lt_of_lt_of_le (h.lt k hk) ht.size, ok⟩
theorem IsDisk.to {w w' : World} {F : Nat → Prop} {g : Nat} {d' : Dk} {vl vw : Value} (h : IsDisk w' F g d' vl vw) (hg : F g) (ht : Touch (fun k => k = g) w w') : DiskTo w F g d' w' :=
  ⟨F, vl, vw, h, fun k hk => .inl hk, ht.mono (fun k _ e => by subst e; exact hg)⟩
theorem IsDisk.self {w : World} {F : Nat → Prop} {g : Nat} {d : Dk} {vl vw : Value} (h : IsDisk w F g d vl vw) : DiskTo w F g d w := ⟨F, vl, vw, h, fun k hk => .inl hk, Touch.refl _ _⟩
/-- What is kept where others write. -/
theorem IsDisk.keep {w w' : World} {S F : Nat → Prop} {g : Nat} {d : Dk} {vl vw : Value} (h : IsDisk w F g d vl vw) (ht : Touch S w w') (hS : ∀ k, F k → ¬ S k) : IsDisk w' F g d vl vw :=
  ⟨blk_touch ht h.blk (hS _ h.fg), own_touch h.own ht (fun k hk => hS k (h.fl k hk)), own_touch h.ownW ht (fun k hk => hS k (h.fw k hk)), h.fg, h.fl, h.fw, fun k hk => Nat.lt_of_lt_of_le (h.lt k hk) ht.size, h.ok⟩

theorem Touch.setG {w w' : World} {g : Nat} (h : Touch (fun k => k = g) w w') (i : Nat) (v : Value) : Touch (fun k => k = g) w (w'.setCell ⟨g, i, none⟩ v) := h.setCell (p := ⟨g, i, none⟩) (.inl rfl) v

theorem fuse_any (w : World) (F : Nat → Prop) (g : Nat) (d : Dk) (vl vw : Value) (h : IsDisk w F g d vl vw) (n : Int) (hn : n ≤ 9223372036854775807) :
    Calls Try.prog 35 #[.pointer (some ⟨g, 0, none⟩), .int .i64 n] w fun e w' => e = .returned (.int .i64 (d.setFuseE n)) ∧ DiskTo w F g (d.setFuse n) w' := by
  have c2 := blk_cell h.blk 2
  have f2 := blk_free h.blk 2
  simp at c2
  by_cases hu : d.use 0 = 0
  · have hu1 : (d.use 0 == 0) = true := by simp [hu]
    have HU := Lib.hid hu
    clear hu
    by_cases hn0 : n < 0
    · have he : Hid (d.setFuseE n = 9) := by unfold Hid Dk.setFuseE; rw [if_pos HU.out, if_pos hn0]
      have hd : Hid (d.setFuse n = d) := by unfold Hid Dk.setFuse; rw [he.out]; rfl
      go_enter Try.func35, Try.ntmps35
      go_wp2_with (go_at_call 69; refine (use_any _ _ _ _ _ _ h _).mono ?_; rintro e w' ⟨rfl, rfl⟩; rw [HU.out])
      go_ret
      exact ⟨by rw [he.out]; rfl, by rw [hd.out]; exact h.self⟩
    · have he : Hid (d.setFuseE n = 0) := by unfold Hid Dk.setFuseE; rw [if_pos HU.out, if_neg hn0]
      have hd : Hid (d.setFuse n = { d with fuse := n }) := by unfold Hid Dk.setFuse; rw [he.out]; rfl
      go_enter Try.func35, Try.ntmps35
      go_wp2_with (go_at_call 69; refine (use_any _ _ _ _ _ _ h _).mono ?_; rintro e w' ⟨rfl, rfl⟩; rw [HU.out])
      go_ret
      have ht := (Touch.refl (fun k => k = g) w).setG 2 (.int .i64 n)
      refine ⟨by rw [he.out]; rfl, ?_⟩
      rw [hd.out]
      have ok := h.ok.setFuse n hn
      rw [hd.out] at ok
      exact (h.upd (d' := { d with fuse := n }) rfl rfl ok ht (by rw [blk_set h.blk]; rfl)).to h.fg ht
  · have hu1 : (d.use 0 == 0) = false := by simp [hu]
    have HU := Lib.hid hu
    clear hu
    have he : Hid (d.setFuseE n = d.use 0) := by unfold Hid Dk.setFuseE; rw [if_neg HU.out]
    have hd : Hid (d.setFuse n = d) := by unfold Hid Dk.setFuse; rw [he.out, if_neg HU.out]
    go_enter Try.func35, Try.ntmps35
    go_wp2_with (go_at_call 69; refine (use_any _ _ _ _ _ _ h _).mono ?_; rintro e w' ⟨rfl, rfl⟩)
    go_ret
    exact ⟨by rw [he.out]; rfl, by rw [hd.out]; exact h.self⟩

theorem size_any (w : World) (F : Nat → Prop) (g : Nat) (d : Dk) (vl vw : Value) (h : IsDisk w F g d vl vw) :
    Calls Try.prog 64 #[.pointer (some ⟨g, 0, none⟩)] w fun e w' => e = .returned (.int .i64 (d.l.length : Int)) ∧ w = w' := by
  have c0 := blk_cell h.blk 0
  simp at c0
  obtain ⟨A, c, rfl⟩ := own_slice h.own
  have hlen := h.ok.most
  go_enter Try.func64, Try.ntmps64
  go_wp2
  go_ret
  exact ⟨rfl, rfl⟩
theorem up_any (w : World) (F : Nat → Prop) (g : Nat) (d : Dk) (vl vw : Value) (h : IsDisk w F g d vl vw) :
    Calls Try.prog 45 #[.pointer (some ⟨g, 0, none⟩)] w fun e w' => e = .returned (.bool (!d.down)) ∧ w = w' := by
  have c4 := blk_cell h.blk 4
  simp at c4
  go_enter Try.func45, Try.ntmps45
  go_wp2
  go_ret
  exact ⟨rfl, rfl⟩
theorem start_any (w : World) (F : Nat → Prop) (g : Nat) (d : Dk) (vl vw : Value) (h : IsDisk w F g d vl vw) :
    Calls Try.prog 36 #[.pointer (some ⟨g, 0, none⟩)] w fun e w' => e = .returned (.int .i64 d.startE) ∧ DiskTo w F g d.start w' := by
  have c1 := blk_cell h.blk 1
  have c4 := blk_cell h.blk 4
  have f4 := blk_free h.blk 4
  simp at c1 c4
  obtain ⟨A, c, rfl⟩ := own_slice h.ownW
  by_cases hd : d.down = true
  · rw [hd] at c4
    by_cases hw : d.waits = []
    · have he : Hid (d.startE = 0) := by unfold Hid Dk.startE; rw [if_pos ⟨hd, hw⟩]
      have hs : Hid (d.start = { d with down := false }) := by unfold Hid Dk.start; rw [he.out]; rfl
      have hl : decide (0 < d.waits.length) = false := by simp [hw]
      clear hd hw
      go_enter Try.func36, Try.ntmps36
      go_wp2
      go_ret
      have ht := (Touch.refl (fun k => k = g) w).setG 4 (.bool false)
      refine ⟨by rw [he.out]; rfl, ?_⟩
      have ok := h.ok.start
      rw [hs.out] at ok ⊢
      exact (h.upd (d' := { d with down := false }) rfl rfl ok ht (by rw [blk_set h.blk]; rfl)).to h.fg ht
    · have he : Hid (d.startE = 8) := by unfold Hid Dk.startE; rw [if_neg (fun k => hw k.2)]
      have hs : Hid (d.start = d) := by unfold Hid Dk.start; rw [he.out]; rfl
      have hl : 0 < d.waits.length := List.length_pos_iff.2 hw
      clear hd hw
      go_enter Try.func36, Try.ntmps36
      go_wp2
      go_ret
      exact ⟨by rw [he.out]; rfl, by rw [hs.out]; exact h.self⟩
  · have he : Hid (d.startE = 8) := by unfold Hid Dk.startE; rw [if_neg (fun k => hd k.1)]
    have hs : Hid (d.start = d) := by unfold Hid Dk.start; rw [he.out]; rfl
    have hd' : d.down = false := by simpa using hd
    rw [hd'] at c4
    clear hd hd'
    go_enter Try.func36, Try.ntmps36
    go_wp2
    go_ret
    exact ⟨by rw [he.out]; rfl, by rw [hs.out]; exact h.self⟩
end Go.Proofs.Ytoolkamajlgcbaa
