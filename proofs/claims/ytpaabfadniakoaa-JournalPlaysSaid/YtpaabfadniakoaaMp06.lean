/- JnC: the walks of the journal's Read, check. -/
import Derived.Test.YtpaabfadniakoaaMp05
import Derived.Deep.WholeRow
import Derived.Laws.AppendOwnNone
import Derived.Deep.OwnRows
import Derived.Laws.OwnMore
import Derived.Lib.SliceRun
import Derived.Shelf.SlSortCmp.WholeK
set_option linter.unusedVariables false
set_option linter.unusedSimpArgs false
namespace Go.Proofs.Ytpaabfadniakoaa
open Go.RowKit

def jrd (d : Dk) (P : Nat) (i : Int) : ByteArray × Int := if i < 0 ∨ (P : Int) ≤ i then (ByteArray.empty, 9) else if d.down = true then (ByteArray.empty, 10) else (pageB d (1 + 4 * ((P : Int) + i)), 0)
theorem read_nil (w : World) (i : Int) : Calls Try.prog 10 #[.pointer none, .int .i64 i] w fun e w' => e = .returned (.tuple #[.string ByteArray.empty, .int .i64 1]) ∧ w = w' := by
  go_enter Try.func10, Try.ntmps10
  go_wp2
  go_ret2
  exact ⟨rfl, rfl⟩
set_option maxHeartbeats 1600000 in
set_option maxRecDepth 100000 in
theorem jread_any (w : World) (F : Nat → Prop) (gj g P : Nat) (d : Dk) (h : HasDisk w F g d) (hj : Jb w gj g P) (hz : Sz d) (hw : d.waits.length < 9223372036854775807) (hP : P ≤ 128) (hs : 8 * P + 1 ≤ d.l.length) (i : Int) :
    Calls Try.prog 10 #[.pointer (some ⟨gj, 0, none⟩), .int .i64 i] w fun e w' => e = .returned (.tuple #[.string (jrd d P i).1, .int .i64 (jrd d P i).2]) ∧ Below w.heap.size w w' := by
  obtain ⟨_, c1⟩ := hj.cells
  unfold jrd
  by_cases hi : i < 0 ∨ (P : Int) ≤ i
  · rw [if_pos hi]
    have hex : decide (i < 0) = true ∨ (decide (i < 0) = false ∧ decide ((P : Int) ≤ i) = true) := by
      by_cases h0 : i < 0
      · exact .inl (by simpa using h0)
      · exact .inr ⟨by simpa using h0, by simp; omega⟩
    clear h hj hi
    rcases hex with d1 | ⟨d1, d2⟩
    all_goals
      go_enter Try.func10, Try.ntmps10
      go_wp2
      go_ret2
      exact ⟨rfl, Below.refl _ _⟩
  · rw [if_neg hi]
    obtain ⟨k, rfl⟩ := Int.eq_ofNat_of_zero_le (show 0 ≤ i by omega)
    have hk : k < P := by omega
    have d1 : decide ((k : Int) < 0) = false := by simp
    have d2 : decide ((P : Int) ≤ (k : Int)) = false := by simp; omega
    have d2' : decide (P ≤ k) = false := by simp; omega
    have OW := fun W hW => Lib.hid (own_any W gj g P hW hP k (by omega))
    have HJ := Lib.hid hj
    obtain ⟨q, hq⟩ : ∃ q : Nat, q = 1 + 4 * (P + k) := ⟨_, rfl⟩
    have eq1 : 1 + 4 * ((P : Int) + (k : Int)) = (q : Int) := by omega
    rw [eq1]
    have OWN := OW w HJ.out
    rw [eq1] at OWN
    have LK : Hid (Calls Try.prog 37 #[.pointer (some ⟨gj, 0, none⟩), .int .i64 (q : Int)] w fun e w' => e = .returned (.tuple #[.string (if d.down = true then (ByteArray.empty, (10 : Int)) else (pageB d (q : Int), 0)).1, .int .i64 (if d.down = true then (ByteArray.empty, (10 : Int)) else (pageB d (q : Int), 0)).2]) ∧ Below w.heap.size w w') := by
      by_cases hd : d.down = true
      · rw [if_pos hd]; exact look_down w F gj g P d h hj hd hw q (by omega)
      · rw [if_neg hd]; exact look_up w F gj g P d h hj (by simpa using hd) hz hw q (by omega) (by omega)
    clear h hj hi hz hw hs hk OW hq eq1
    generalize (if d.down = true then (ByteArray.empty, (10 : Int)) else (pageB d (q : Int), 0)) = r at LK ⊢
    go_enter Try.func10, Try.ntmps10
    go_wp2_with fail
    refine OWN.out.mono ?_
    rintro e w1 ⟨rfl, rfl⟩
    go_wp2_with fail
    refine LK.out.mono ?_
    rintro e w2 ⟨rfl, b2⟩
    have B2 := Lib.hid b2
    clear b2 LK OWN
    go_wp2
    go_ret2
    exact ⟨rfl, B2.out⟩

/-- Changes that are read. -/
def ChgAt (w : World) (b off : Nat) (l : List (Int × ByteArray)) : Prop := ∀ j (h : j < l.length), w.cell? ⟨b, off + j * 2, none⟩ = some (.int .i64 l[j].1) ∧ w.cell? ⟨b, off + j * 2 + 1, none⟩ = some (.string l[j].2)
theorem ChgAt.below {w w' : World} {b off : Nat} {l : List (Int × ByteArray)} (h : ChgAt w b off l) (hb : Below w.heap.size w w') : ChgAt w' b off l := fun j hj => ⟨cell_below hb (h j hj).1, cell_below hb (h j hj).2⟩
def RdC (w : World) (A : Option Addr) (l : List (Int × ByteArray)) : Prop := 0 < l.length → ∃ b off, A = some ⟨b, off, none⟩ ∧ ChgAt w b off l
theorem RdC.below {w w' : World} {A : Option Addr} {l : List (Int × ByteArray)} (h : RdC w A l) (hb : Below w.heap.size w w') : RdC w' A l := fun hp => by
  obtain ⟨b, off, e, hc⟩ := h hp
  exact ⟨b, off, e, hc.below hb⟩
/-- Why changes can't be committed, but for the disk. -/
def outK (P : Nat) (l : List (Int × ByteArray)) : Bool := l.any (fun c => decide (c.1 < 0) || decide ((P : Int) ≤ c.1))
def dupK (l : List (Int × ByteArray)) : Nat → Bool
  | 0 => false
  | k + 1 => dupK l k || (l.take k).any (fun c => decide (c.1 = (l.getD k (0, ByteArray.empty)).1))
def longK (l : List (Int × ByteArray)) : Bool := l.any (fun c => decide (c.2.size ≠ 1024))
def whyE (P : Nat) (l : List (Int × ByteArray)) : Int := if outK P l = true then 9 else if dupK l l.length = true then 7 else if longK l = true then 1 else 0
end Go.Proofs.Ytpaabfadniakoaa
/- JnD: the walk of the journal's check (written by gen_check.py). -/
set_option linter.unusedVariables false
set_option linter.unusedSimpArgs false
namespace Go.Proofs.Ytpaabfadniakoaa
open Go.RowKit

def blv (l : List Bool) : Array Value := (l.map Value.bool).toArray
theorem zeros128 : Try.zeroCells108 = blv (List.replicate 128 false) := by kernel_rfl
theorem blv_get (l : List Bool) (i : Nat) (h : i < l.length) : (blv l)[i]? = some (.bool (l.getD i false)) := by simp [blv, h]
theorem blv_set (l : List Bool) (i : Nat) (b : Bool) : (blv l).setIfInBounds i (.bool b) = blv (l.set i b) := by simp [blv, List.map_set]
/-- Which pages were seen. -/
def seenK (l : List (Int × ByteArray)) : Nat → List Bool
  | 0 => List.replicate 128 false
  | k + 1 => (seenK l k).set (l.getD k (0, ByteArray.empty)).1.toNat true
theorem seenK_length (l : List (Int × ByteArray)) : ∀ k, (seenK l k).length = 128
  | 0 => by simp [seenK]
  | k + 1 => by rw [seenK, List.length_set, seenK_length l k]
theorem seenK_get {P : Nat} {l : List (Int × ByteArray)} (ho : outK P l = false) (hP : P ≤ 128) : ∀ k, k ≤ l.length → ∀ q : Nat, q < 128 → ((seenK l k).getD q false = true ↔ (l.take k).any (fun c => decide (c.1 = (q : Int))) = true)
  | 0, _, q, hq => by
    have : (List.replicate 128 false).getD q false = false := by
      rw [List.getD_eq_getElem?_getD]
      by_cases h : q < 128
      · rw [List.getElem?_eq_getElem (by rw [List.length_replicate]; exact h), List.getElem_replicate]; rfl
      · omega
    rw [seenK, this]
    constructor
    · intro h; cases h
    · intro h; cases h
  | k + 1, hk, q, hq => by
    have ih := seenK_get ho hP k (by omega) q hq
    have hin : 0 ≤ l[k].1 ∧ l[k].1 < (P : Int) := by
      have h := ho
      unfold outK at h
      rw [List.any_eq_false] at h
      have := h l[k] (List.getElem_mem (by omega))
      simp at this
      omega
    rw [List.take_succ_eq_append_getElem (by omega), List.any_append, seenK]
    have hg : l.getD k (0, ByteArray.empty) = l[k] := by rw [List.getD_eq_getElem?_getD, List.getElem?_eq_getElem (by omega)]; rfl
    rw [hg]
    simp only [List.getD_eq_getElem?_getD, List.getElem?_set, List.any_cons, List.any_nil, Bool.or_false, Bool.or_eq_true, decide_eq_true_eq] at ih ⊢
    by_cases e : l[k].1.toNat = q
    · rw [if_pos e, if_pos (by rw [seenK_length]; omega)]
      simp
      exact .inr (by omega)
    · rw [if_neg e, ih]
      constructor
      · exact fun h => .inl h
      · rintro (h | h)
        · exact h
        · omega
theorem out_at {P : Nat} {l : List (Int × ByteArray)} {k : Nat} (hk : k < l.length) (h : l[k].1 < 0 ∨ (P : Int) ≤ l[k].1) : outK P l = true := by
  unfold outK
  rw [List.any_eq_true]
  exact ⟨l[k], List.getElem_mem hk, by simpa using h⟩
theorem out_no {P : Nat} {l : List (Int × ByteArray)} (h : ∀ j (hj : j < l.length), 0 ≤ l[j].1 ∧ l[j].1 < (P : Int)) : outK P l = false := by
  unfold outK
  rw [List.any_eq_false]
  intro x hx
  obtain ⟨j, hj, rfl⟩ := List.getElem_of_mem hx
  have := h j hj
  simp
  omega
theorem dupK_mono {l : List (Int × ByteArray)} : ∀ {n k : Nat}, k ≤ n → dupK l k = true → dupK l n = true
  | 0, k, h, hd => by obtain rfl : k = 0 := by omega
                      exact hd
  | n + 1, k, h, hd => by
    by_cases e : k = n + 1
    · subst e; exact hd
    · rw [dupK, dupK_mono (n := n) (by omega) hd]; rfl
theorem long_at {l : List (Int × ByteArray)} {k : Nat} (hk : k < l.length) (h : ¬ l[k].2.size = 1024) : longK l = true := by
  unfold longK
  rw [List.any_eq_true]
  exact ⟨l[k], List.getElem_mem hk, by simpa using h⟩
theorem long_no {l : List (Int × ByteArray)} (h : ∀ j (hj : j < l.length), l[j].2.size = 1024) : longK l = false := by
  unfold longK
  rw [List.any_eq_false]
  intro x hx
  obtain ⟨j, hj, rfl⟩ := List.getElem_of_mem hx
  simp [h j hj]
set_option maxHeartbeats 3200000 in
set_option maxRecDepth 100000 in
theorem check_any (w : World) (gj g P : Nat) (hj : Jb w gj g P) (hP : P ≤ 128) (A : Option Addr) (c : Nat) (l : List (Int × ByteArray)) (hl : RdC w A l) (hn : l.length ≤ 1000000) (hs : ∀ x ∈ l, x.2.size ≤ 9223372036854775807) :
    Calls Try.prog 45 #[.pointer (some ⟨gj, 0, none⟩), .slice A l.length c] w fun e w' => e = .returned (.int .i64 (whyE P l)) ∧ Below w.heap.size w w' := by
  have HJ := Lib.hid hj
  have HL := Lib.hid hl
  have HS := Lib.hid hs
  have hst := run_storeCells_new (P := Try.prog) w 108 Try.zeroCells108 Try.zeroCells108 (by kernel_rfl) rfl (by kernel_rfl)
  have BA : Hid (Below w.heap.size w (w.alloc (.cells Try.zeroCells108 108))) := (Below.refl _ w).alloc (Nat.le_refl _) _
  have GS : Hid ((w.alloc (.cells Try.zeroCells108 108)).heap[w.heap.size]? = some (.cells (blv (seenK l 0)) 108 (0, 0))) := by unfold Hid seenK; rw [← zeros128]; exact blk_new w _
  clear hj hl hs
  go_enter Try.func45, Try.ntmps45
  go_wp2_with fail
  clear hst
  obtain ⟨W1, hW1⟩ : ∃ W1, W1 = w.alloc (.cells Try.zeroCells108 108) := ⟨_, rfl⟩
  rw [← hW1] at BA GS ⊢
  have GS2 := GS
  clear hW1 GS
  go_loopw [15] (fun i wr => ∃ k : Nat, k ≤ l.length ∧ i = .int .i64 k ∧ Hid (Below W1.heap.size W1 wr) ∧ Hid (∀ j (hj : j < l.length), j < k → 0 ≤ l[j].1 ∧ l[j].1 < (P : Int))) (fun i _ => l.length - (intOf i).toNat)
  case atStart => exact ⟨0, Nat.zero_le _, rfl, Below.refl _ _, fun j _ h => absurd h (Nat.not_lt_zero _)⟩
  case round =>
    obtain ⟨k, hk, rfl, hb, hin⟩ := hrel
    by_cases hlt : k < l.length
    · obtain ⟨b, off, hA, hcs⟩ := HL.out (by omega)
      subst hA
      obtain ⟨z0, z1⟩ := hcs k hlt
      replace z0 := cell_below (BA.out.trans (hb.out.mono BA.out.size)) z0
      replace z1 := cell_below (BA.out.trans (hb.out.mono BA.out.size)) z1
      have OUT := fun h => Lib.hid (out_at (P := P) hlt h)
      have INX : Hid (0 ≤ l[k].1 ∧ l[k].1 < (P : Int) → ∀ j (hj : j < l.length), j < k + 1 → 0 ≤ l[j].1 ∧ l[j].1 < (P : Int)) := fun h j hj hjk => by
        by_cases e : j = k
        · subst e; exact h
        · exact hin.out j hj (by omega)
      generalize l[k] = x at z0 z1 OUT INX
      have BX : Hid (Below W1.heap.size W1 (wr.alloc (.cells #[.int .i64 x.1, .string x.2] 44)).drew) := (hb.out.alloc hb.out.size _).drew
      have g2 := blk_new wr (.cells #[.int .i64 x.1, .string x.2] 44)
      have y0 : (wr.alloc (.cells #[.int .i64 x.1, .string x.2] 44)).drew.cell? ⟨wr.heap.size, 0, none⟩ = some (.int .i64 x.1) := blk_cell g2 0
      have c1 := ((HJ.out.below (BA.out.trans (BX.out.mono BA.out.size)))).cells.2
      clear hcs g2
      by_cases h0 : x.1 < 0
      · have E := OUT (.inl h0)
        have d1 : decide (x.1 < 0) = true := by simpa using h0
        clear OUT INX h0
        go_wp2_with fail
        refine wp_region_flag (fun w' => w'.cell? ⟨wr.heap.size, 0, none⟩ = some (.int .i64 x.1) ∧ w'.cell? ⟨gj, 1, none⟩ = some (.int .i64 (P : Int))) [(0, 1), (1, 0), (2, 1), (3, 1), (4, 1), (6, 1), (7, 1), (8, 1), (5, 2), (9, 0), (10, 1), (11, 1)] (by kernel_rfl) (by kernel_rfl) ⟨y0, c1⟩ ?_
        simp only [ordered, List.map_cons, List.map_nil, List.getD_cons_zero, List.getD_cons_succ]
        repeat (refine wpF_dry (fun K hK => ?_); go_simp; refine hK _ ?_; clear hK K)
        refine wpF_do ?_
        go_wp2_with fail
        refine ⟨⟨y0, c1⟩, ?_⟩
        repeat (refine wpF_dry (fun K hK => ?_); go_simp; refine hK _ ?_; clear hK K)
        refine wpF_skip (fun K hK => ?_)
        go_simp
        first | refine hK _ ?_ | refine ⟨(fun hh => by cases hh), hK _ ?_⟩
        clear hK K
        refine wpF_do ?_
        go_wp2_with fail
        refine ⟨⟨y0, c1⟩, ?_⟩
        repeat (refine wpF_dry (fun K hK => ?_); go_simp; refine hK _ ?_; clear hK K)
        refine wpF_nil ?_
        go_wp2
        go_ret
        exact ⟨by unfold whyE; rw [E.out]; rfl, (BA.out.trans (BX.out.mono BA.out.size))⟩
      · by_cases h1 : (P : Int) ≤ x.1
        · have E := OUT (.inr h1)
          have d1 : decide (x.1 < 0) = false := by simpa using h0
          have d2 : decide ((P : Int) ≤ x.1) = true := by simpa using h1
          clear OUT INX h0 h1
          go_wp2_with fail
          refine wp_region_flag (fun w' => w'.cell? ⟨wr.heap.size, 0, none⟩ = some (.int .i64 x.1) ∧ w'.cell? ⟨gj, 1, none⟩ = some (.int .i64 (P : Int))) [(0, 1), (1, 0), (2, 1), (3, 1), (4, 1), (6, 1), (7, 1), (8, 1), (5, 2), (9, 0), (10, 1), (11, 1)] (by kernel_rfl) (by kernel_rfl) ⟨y0, c1⟩ ?_
          simp only [ordered, List.map_cons, List.map_nil, List.getD_cons_zero, List.getD_cons_succ]
          repeat (refine wpF_dry (fun K hK => ?_); go_simp; refine hK _ ?_; clear hK K)
          refine wpF_do ?_
          go_wp2_with fail
          refine ⟨⟨y0, c1⟩, ?_⟩
          repeat (refine wpF_dry (fun K hK => ?_); go_simp; refine hK _ ?_; clear hK K)
          refine wpF_read (.int .i64 x.1) rfl (fun w' hS => by obtain ⟨s1, s2⟩ := hS; go_simp) (fun K hK => ?_)
          go_simp
          refine hK _ ?_
          clear hK K
          refine wpF_do ?_
          go_wp2_with fail
          refine ⟨⟨y0, c1⟩, ?_⟩
          repeat (refine wpF_dry (fun K hK => ?_); go_simp; refine hK _ ?_; clear hK K)
          refine wpF_nil ?_
          go_wp2
          go_ret
          exact ⟨by unfold whyE; rw [E.out]; rfl, (BA.out.trans (BX.out.mono BA.out.size))⟩
        · have INX2 := Lib.hid (INX.out ⟨by omega, by omega⟩)
          have d1 : decide (x.1 < 0) = false := by simpa using h0
          have d2 : decide ((P : Int) ≤ x.1) = false := by simpa using h1
          clear OUT INX h0 h1
          go_wp2_with fail
          refine wp_region_flag (fun w' => w'.cell? ⟨wr.heap.size, 0, none⟩ = some (.int .i64 x.1) ∧ w'.cell? ⟨gj, 1, none⟩ = some (.int .i64 (P : Int))) [(0, 1), (1, 0), (2, 1), (3, 1), (4, 1), (6, 1), (7, 1), (8, 1), (5, 2), (9, 0), (10, 1), (11, 1)] (by kernel_rfl) (by kernel_rfl) ⟨y0, c1⟩ ?_
          simp only [ordered, List.map_cons, List.map_nil, List.getD_cons_zero, List.getD_cons_succ]
          repeat (refine wpF_dry (fun K hK => ?_); go_simp; refine hK _ ?_; clear hK K)
          refine wpF_do ?_
          go_wp2_with fail
          refine ⟨⟨y0, c1⟩, ?_⟩
          repeat (refine wpF_dry (fun K hK => ?_); go_simp; refine hK _ ?_; clear hK K)
          refine wpF_read (.int .i64 x.1) rfl (fun w' hS => by obtain ⟨s1, s2⟩ := hS; go_simp) (fun K hK => ?_)
          go_simp
          refine hK _ ?_
          clear hK K
          refine wpF_do ?_
          go_wp2_with fail
          refine ⟨⟨y0, c1⟩, ?_⟩
          repeat (refine wpF_dry (fun K hK => ?_); go_simp; refine hK _ ?_; clear hK K)
          refine wpF_nil ?_
          go_wp2
          go_roundw
          case rel => first | exact ⟨k + 1, hlt, by go_num, BX, INX2⟩ | ((repeat apply Exists.intro); refine ⟨?_, rfl⟩; exact ⟨k + 1, hlt, by go_num, BX, INX2⟩)
          case measure => simp [intOf]; omega
    · obtain rfl : k = l.length := by omega
      have OK := Lib.hid (out_no (P := P) (l := l) (fun j hj => hin.out j hj hj))
      have INA : Hid (∀ j (hj : j < l.length), 0 ≤ l[j].1 ∧ l[j].1 < (P : Int)) := fun j hj => hin.out j hj hj
      have GK : Hid (wr.heap[w.heap.size]? = some (.cells (blv (seenK l 0)) 108 (0, 0))) := (hb.out.block w.heap.size (lt_of_block GS2.out)).trans GS2.out
      have BK := Lib.hid (BA.out.trans (hb.out.mono BA.out.size))
      clear hk hlt hin hb GS2
      go_wp2_with fail
      go_loopw [34] (fun i wz => ∃ k : Nat, k ≤ l.length ∧ i = .int .i64 k ∧ Hid (dupK l k = false) ∧ Hid (wz.heap[w.heap.size]? = some (.cells (blv (seenK l k)) 108 (0, 0))) ∧ Hid (Below w.heap.size w wz)) (fun i _ => l.length - (intOf i).toNat)
      case atStart => exact ⟨0, Nat.zero_le _, rfl, rfl, GK, BK⟩
      case round =>
        obtain ⟨k, hk, rfl, hd, GZ, BZ⟩ := hrel
        clear GK BK
        by_cases hlt : k < l.length
        · obtain ⟨b, off, hA, hcs⟩ := HL.out (by omega)
          subst hA
          obtain ⟨z0, z1⟩ := hcs k hlt
          replace z0 := cell_below BZ.out z0
          replace z1 := cell_below BZ.out z1
          have hin := INA.out k hlt
          have hg : l.getD k (0, ByteArray.empty) = l[k] := by rw [List.getD_eq_getElem?_getD, List.getElem?_eq_getElem hlt]; rfl
          have SG := seenK_get OK.out hP k (by omega) l[k].1.toNat (by omega)
          rw [show ((l[k].1.toNat : Nat) : Int) = l[k].1 by omega] at SG
          have DS : Hid (dupK l (k + 1) = (l.take k).any (fun c => decide (c.1 = l[k].1))) := by unfold Hid; rw [dupK, hd.out, hg]; rfl
          have SS : Hid (seenK l (k + 1) = (seenK l k).set l[k].1.toNat true) := by unfold Hid; rw [seenK, hg]
          have SL := seenK_length l k
          generalize l[k] = x at z0 z1 hin SG DS SS
          obtain ⟨q, hq⟩ := Int.eq_ofNat_of_zero_le hin.1
          obtain ⟨x1, x2⟩ := x
          simp only at hq
          subst hq
          simp only [Int.toNat_natCast] at SG SS
          have hq128 : q < 128 := by omega
          have s0 := blk_cell (blk_alloc GZ.out (.cells #[.int .i64 (q : Int), .string x2] 44)) q
          have sf := blk_free (blk_alloc GZ.out (.cells #[.int .i64 (q : Int), .string x2] 44)) q
          rw [blv_get _ _ (by rw [SL]; exact hq128)] at s0
          have BX : Hid (Below w.heap.size w (wr.alloc (.cells #[.int .i64 (q : Int), .string x2] 44))) := BZ.out.alloc BZ.out.size _
          have GX : Hid ((wr.alloc (.cells #[.int .i64 (q : Int), .string x2] 44)).heap[w.heap.size]? = some (.cells (blv (seenK l k)) 108 (0, 0))) := blk_alloc GZ.out _
          have gne : ¬ w.heap.size = wr.heap.size := by have := lt_of_block GZ.out; omega
          have gne2 : ¬ wr.heap.size = w.heap.size := fun e => gne e.symm
          clear hcs hg hin
          cases hs0 : (seenK l k).getD q false with
          | true =>
            have E : Hid (dupK l l.length = true) := dupK_mono hlt (by rw [DS.out]; exact SG.1 hs0)
            rw [hs0] at s0
            clear hs0 SG
            go_wp2
            go_ret
            exact ⟨by unfold whyE; rw [OK.out, E.out]; rfl, BX.out⟩
          | false =>
            have E : Hid (dupK l (k + 1) = false) := by
              unfold Hid
              rw [DS.out]
              cases hh : (l.take k).any (fun c => decide (c.1 = (q : Int))) with
              | false => rfl
              | true => rw [SG.2 hh] at hs0; cases hs0
            rw [hs0] at s0
            have G2 : Hid (((wr.alloc (.cells #[.int .i64 (q : Int), .string x2] 44)).setCell ⟨w.heap.size, q, none⟩ (.bool true)).heap[w.heap.size]? = some (.cells (blv (seenK l (k + 1))) 108 (0, 0))) := by unfold Hid; rw [SS.out, ← blv_set]; exact blk_set GX.out q _
            have B2 : Hid (Below w.heap.size w ((wr.alloc (.cells #[.int .i64 (q : Int), .string x2] 44)).setCell ⟨w.heap.size, q, none⟩ (.bool true))) := BX.out.setCell (p := ⟨w.heap.size, q, none⟩) (Nat.le_refl _) _
            clear hs0 SG GX
            go_wp2
            go_roundw
            case rel => first | exact ⟨k + 1, hlt, by go_num, E, G2, B2⟩ | ((repeat apply Exists.intro); refine ⟨?_, rfl⟩; exact ⟨k + 1, hlt, by go_num, E, G2, B2⟩)
            case measure => simp [intOf]; omega
        · obtain rfl : k = l.length := by omega
          clear hk hlt GZ
          go_wp2_with fail
          go_loopw [48] (fun i wz => ∃ k : Nat, k ≤ l.length ∧ i = .int .i64 k ∧ Hid (∀ j (hj : j < l.length), j < k → l[j].2.size = 1024) ∧ Hid (Below w.heap.size w wz)) (fun i _ => l.length - (intOf i).toNat)
          case atStart => exact ⟨0, Nat.zero_le _, rfl, fun j _ h => absurd h (Nat.not_lt_zero _), BZ⟩
          case round =>
            obtain ⟨k, hk, rfl, hz, BQ⟩ := hrel
            clear BZ
            by_cases hlt : k < l.length
            · obtain ⟨b, off, hA, hcs⟩ := HL.out (by omega)
              subst hA
              obtain ⟨z0, z1⟩ := hcs k hlt
              replace z0 := cell_below BQ.out z0
              replace z1 := cell_below BQ.out z1
              have LG := fun h => Lib.hid (long_at hlt h)
              have LN : Hid (l[k].2.size = 1024 → ∀ j (hj : j < l.length), j < k + 1 → l[j].2.size = 1024) := fun h j hj hjk => by
                by_cases e : j = k
                · subst e; exact h
                · exact hz.out j hj (by omega)
              have hsz := HS.out l[k] (List.getElem_mem hlt)
              generalize l[k] = x at z0 z1 LG LN hsz
              have BX : Hid (Below w.heap.size w (wr.alloc (.cells #[.int .i64 x.1, .string x.2] 44))) := BQ.out.alloc BQ.out.size _
              clear hcs
              by_cases h4 : x.2.size = 1024
              · have LN2 := Lib.hid (LN.out h4)
                have d1 : (x.2.size != 1024) = false := by simp [h4]
                have d1' : ((x.2.size : Int) != 1024) = false := by simp; omega
                clear LG LN h4
                go_wp2
                go_roundw
                case rel => first | exact ⟨k + 1, hlt, by go_num, LN2, BX⟩ | ((repeat apply Exists.intro); refine ⟨?_, rfl⟩; exact ⟨k + 1, hlt, by go_num, LN2, BX⟩)
                case measure => simp [intOf]; omega
              · have E := LG h4
                have d1 : (x.2.size != 1024) = true := by simp [h4]
                have d1' : ((x.2.size : Int) != 1024) = true := by simp; omega
                clear LG LN h4
                go_wp2
                go_ret
                exact ⟨by unfold whyE; rw [OK.out, hd.out, E.out]; rfl, BX.out⟩
            · obtain rfl : k = l.length := by omega
              have E := Lib.hid (long_no (fun j hj => hz.out j hj hj))
              go_wp2
              go_ret
              exact ⟨by unfold whyE; rw [OK.out, hd.out, E.out]; rfl, BQ.out⟩
end Go.Proofs.Ytpaabfadniakoaa
/- JnE: rows of changes, and the compare that Commit sorts by. -/
set_option linter.unusedVariables false
set_option linter.unusedSimpArgs false
namespace Go.Proofs.Ytpaabfadniakoaa
open Go.RowKit

def chv : List (Nat × ByteArray) → List Value
  | [] => []
  | h :: l => .int .i64 (h.1 : Int) :: .string h.2 :: chv l
theorem chv_length : ∀ l, (chv l).length = l.length * 2
  | [] => rfl
  | h :: l => by simp [chv, chv_length l]; omega
theorem chv_append : ∀ a b, chv (a ++ b) = chv a ++ chv b
  | [], b => rfl
  | h :: a, b => by simp [chv, chv_append a b]
theorem chv_get : ∀ (l : List (Nat × ByteArray)) (k : Nat) (h : k < l.length), (chv l)[k * 2]? = some (.int .i64 (l[k].1 : Int)) ∧ (chv l)[k * 2 + 1]? = some (.string l[k].2)
  | x :: l, 0, h => ⟨rfl, rfl⟩
  | x :: l, k + 1, h => by
    have := chv_get l k (by simpa using h)
    rw [show (k + 1) * 2 = k * 2 + 2 by omega, show k * 2 + 2 + 1 = k * 2 + 1 + 2 by omega]
    simpa [chv] using this
theorem infoCh : (Try.prog.info? 44).map (fun i => (i.zero, i.size, i.bytes)) = some (some (.agg #[.int .i64 0, .string ByteArray.empty]), 2, 24) := by kernel_rfl
abbrev BCh := { x : Nat × ByteArray // x.1 ≤ 128 }
instance : Inhabited BCh := ⟨⟨(0, ByteArray.empty), by decide⟩⟩
def encCh (x : BCh) : List Value := [.int .i64 (x.1.1 : Int), .string x.1.2]
def cfCh (x y : BCh) : Int := (x.1.1 : Int) - y.1.1
open Go.Shelf Go.Lib Go.Sort in
theorem cmpCh_any (x y : BCh) (W : World) : Calls Try.prog 48 #[.agg #[.int .i64 (x.1.1 : Int), .string x.1.2], .agg #[.int .i64 (y.1.1 : Int), .string y.1.2]] W fun e w' => e = .returned (.int .i64 (cfCh x y)) ∧ ∃ q os', w' = grow (W.drewN q) os' := by
  have hx := x.2; have hy := y.2
  unfold cfCh
  generalize x.1 = a at hx ⊢
  generalize y.1 = b at hy ⊢
  go_enter Try.func48, Try.ntmps48
  go_wp2
  go_ret
  exact ⟨rfl, 0, _, by rw [alloc_eq_grow, alloc_eq_grow, grow_grow]; rfl⟩
open Go.Shelf Go.Lib Go.Sort in
theorem cmpCh_lays (blk off size : Nat) (w : World) : CmpLays Try.prog 48 #[] encCh 2 cfCh blk off size w := fun _ _ _ _ x y => cmpCh_any x y _
open Go.Sort in
theorem ltCh (x y : BCh) : ltOf cfCh x y = decide (x.1.1 < y.1.1) := by
  unfold ltOf cfCh
  by_cases h : x.1.1 < y.1.1
  · rw [decide_eq_true h, decide_eq_true (by omega)]
  · rw [decide_eq_false h, decide_eq_false (by omega)]
open Go.Sort in
theorem swoCh : SWO (ltOf cfCh) where
  irrefl x := by rw [ltCh]; simp
  trans x y z h1 h2 := by rw [ltCh] at *; simp at *; omega
  ntrans x y z h1 h2 := by rw [ltCh] at *; simp at *; omega
end Go.Proofs.Ytpaabfadniakoaa
