/- JnC: the walks of the journal's Read, check. -/
import Derived.Test.YtoolkamajlgcbaaMr05
import Derived.Deep.WholeRow
set_option linter.unusedVariables false
set_option linter.unusedSimpArgs false
namespace Go.Proofs.Ytoolkamajlgcbaa
open Go.RowKit

def jrd (d : Dk) (P : Nat) (i : Int) : ByteArray × Int := if i < 0 ∨ (P : Int) ≤ i then (ByteArray.empty, 9) else if d.down = true then (ByteArray.empty, 10) else (pageB d (1 + 4 * ((P : Int) + i)), 0)
theorem read_nil (w : World) (i : Int) : Calls Try.prog 62 #[.pointer none, .int .i64 i] w fun e w' => e = .returned (.tuple #[.string ByteArray.empty, .int .i64 1]) ∧ w = w' := by
  go_enter Try.func62, Try.ntmps62
  go_wp2
  go_ret2
  exact ⟨rfl, rfl⟩
set_option maxHeartbeats 1600000 in
set_option maxRecDepth 100000 in
theorem jread_any (w : World) (F : Nat → Prop) (gj g P : Nat) (d : Dk) (h : HasDisk w F g d) (hj : Jb w gj g P) (hz : Sz d) (hw : d.waits.length < 9223372036854775807) (hP : P ≤ 128) (hs : 8 * P + 1 ≤ d.l.length) (i : Int) :
    Calls Try.prog 62 #[.pointer (some ⟨gj, 0, none⟩), .int .i64 i] w fun e w' => e = .returned (.tuple #[.string (jrd d P i).1, .int .i64 (jrd d P i).2]) ∧ Below w.heap.size w w' := by
  obtain ⟨_, c1⟩ := hj.cells
  unfold jrd
  by_cases hi : i < 0 ∨ (P : Int) ≤ i
  · rw [if_pos hi]
    have hex : decide (i < 0) = true ∨ (decide (i < 0) = false ∧ decide ((P : Int) ≤ i) = true) := by
      by_cases h0 : i < 0
      · exact .inl (by simpa using h0)
      · exact .inr ⟨by simpa using h0, by simp; omega⟩
    clear h hj hi
    rcases hex with d1 | ⟨d1, d2⟩
    all_goals
      go_enter Try.func62, Try.ntmps62
      go_wp2
      go_ret2
      exact ⟨rfl, Below.refl _ _⟩
  · rw [if_neg hi]
    obtain ⟨k, rfl⟩ := Int.eq_ofNat_of_zero_le (show 0 ≤ i by omega)
    have hk : k < P := by omega
    have d1 : decide ((k : Int) < 0) = false := by simp
    have d2 : decide ((P : Int) ≤ (k : Int)) = false := by simp; omega
    have d2' : decide (P ≤ k) = false := by simp; omega
    have OW := fun W hW => Lib.hid (own_any W gj g P hW hP k (by omega))
    have HJ := Lib.hid hj
    obtain ⟨q, hq⟩ : ∃ q : Nat, q = 1 + 4 * (P + k) := ⟨_, rfl⟩
    have eq1 : 1 + 4 * ((P : Int) + (k : Int)) = (q : Int) := by omega
    rw [eq1]
    have OWN := OW w HJ.out
    rw [eq1] at OWN
    have LK : Hid (Calls Try.prog 67 #[.pointer (some ⟨gj, 0, none⟩), .int .i64 (q : Int)] w fun e w' => e = .returned (.tuple #[.string (if d.down = true then (ByteArray.empty, (10 : Int)) else (pageB d (q : Int), 0)).1, .int .i64 (if d.down = true then (ByteArray.empty, (10 : Int)) else (pageB d (q : Int), 0)).2]) ∧ Below w.heap.size w w') := by
      by_cases hd : d.down = true
      · rw [if_pos hd]; exact look_down w F gj g P d h hj hd hw q (by omega)
      · rw [if_neg hd]; exact look_up w F gj g P d h hj (by simpa using hd) hz hw q (by omega) (by omega)
    clear h hj hi hz hw hs hk OW hq eq1
    generalize (if d.down = true then (ByteArray.empty, (10 : Int)) else (pageB d (q : Int), 0)) = r at LK ⊢
    go_enter Try.func62, Try.ntmps62
    go_wp2_with fail
    refine OWN.out.mono ?_
    rintro e w1 ⟨rfl, rfl⟩
    go_wp2_with fail
    refine LK.out.mono ?_
    rintro e w2 ⟨rfl, b2⟩
    have B2 := Lib.hid b2
    clear b2 LK OWN
    go_wp2
    go_ret2
    exact ⟨rfl, B2.out⟩

/-- Changes that are read. -/
def ChgAt (w : World) (b off : Nat) (l : List (Int × ByteArray)) : Prop := ∀ j (h : j < l.length), w.cell? ⟨b, off + j * 2, none⟩ = some (.int .i64 l[j].1) ∧ w.cell? ⟨b, off + j * 2 + 1, none⟩ = some (.string l[j].2)
theorem ChgAt.below {w w' : World} {b off : Nat} {l : List (Int × ByteArray)} (h : ChgAt w b off l) (hb : Below w.heap.size w w') : ChgAt w' b off l := fun j hj => ⟨cell_below hb (h j hj).1, cell_below hb (h j hj).2⟩
def RdC (w : World) (A : Option Addr) (l : List (Int × ByteArray)) : Prop := 0 < l.length → ∃ b off, A = some ⟨b, off, none⟩ ∧ ChgAt w b off l
theorem RdC.below {w w' : World} {A : Option Addr} {l : List (Int × ByteArray)} (h : RdC w A l) (hb : Below w.heap.size w w') : RdC w' A l := fun hp => by
  obtain ⟨b, off, e, hc⟩ := h hp
  exact ⟨b, off, e, hc.below hb⟩
/-- Why changes can't be committed, but for the disk. -/
def outK (P : Nat) (l : List (Int × ByteArray)) : Bool := l.any (fun c => decide (c.1 < 0) || decide ((P : Int) ≤ c.1))
def dupK (l : List (Int × ByteArray)) : Nat → Bool
  | 0 => false
  | k + 1 => dupK l k || (l.take k).any (fun c => decide (c.1 = (l.getD k (0, ByteArray.empty)).1))
def longK (l : List (Int × ByteArray)) : Bool := l.any (fun c => decide (c.2.size ≠ 1024))
def whyE (P : Nat) (l : List (Int × ByteArray)) : Int := if outK P l = true then 9 else if dupK l l.length = true then 7 else if longK l = true then 1 else 0
end Go.Proofs.Ytoolkamajlgcbaa
/- JnD: the walk of the journal's check (written by gen_check.py). -/
set_option linter.unusedVariables false
set_option linter.unusedSimpArgs false
namespace Go.Proofs.Ytoolkamajlgcbaa
open Go.RowKit

def blv (l : List Bool) : Array Value := (l.map Value.bool).toArray
theorem zeros128 : Try.zeroCells116 = blv (List.replicate 128 false) := by kernel_rfl
theorem blv_get (l : List Bool) (i : Nat) (h : i < l.length) : (blv l)[i]? = some (.bool (l.getD i false)) := by simp [blv, h]
theorem blv_set (l : List Bool) (i : Nat) (b : Bool) : (blv l).setIfInBounds i (.bool b) = blv (l.set i b) := by simp [blv, List.map_set]
/-- Which pages were seen. -/
def seenK (l : List (Int × ByteArray)) : Nat → List Bool
  | 0 => List.replicate 128 false
  | k + 1 => (seenK l k).set (l.getD k (0, ByteArray.empty)).1.toNat true
theorem seenK_length (l : List (Int × ByteArray)) : ∀ k, (seenK l k).length = 128
  | 0 => by simp [seenK]
  | k + 1 => by rw [seenK, List.length_set, seenK_length l k]
theorem seenK_get {P : Nat} {l : List (Int × ByteArray)} (ho : outK P l = false) (hP : P ≤ 128) : ∀ k, k ≤ l.length → ∀ q : Nat, q < 128 → ((seenK l k).getD q false = true ↔ (l.take k).any (fun c => decide (c.1 = (q : Int))) = true)
  | 0, _, q, hq => by
    have : (List.replicate 128 false).getD q false = false := by
      rw [List.getD_eq_getElem?_getD]
      by_cases h : q < 128
      · rw [List.getElem?_eq_getElem (by rw [List.length_replicate]; exact h), List.getElem_replicate]; rfl
      · omega
    rw [seenK, this]
    constructor
    · intro h; cases h
    · intro h; cases h
  | k + 1, hk, q, hq => by
    have ih := seenK_get ho hP k (by omega) q hq
    have hin : 0 ≤ l[k].1 ∧ l[k].1 < (P : Int) := by
      have h := ho
      unfold outK at h
      rw [List.any_eq_false] at h
      have := h l[k] (List.getElem_mem (by omega))
      simp at this
      omega
    rw [List.take_succ_eq_append_getElem (by omega), List.any_append, seenK]
    have hg : l.getD k (0, ByteArray.empty) = l[k] := by rw [List.getD_eq_getElem?_getD, List.getElem?_eq_getElem (by omega)]; rfl
    rw [hg]
    simp only [List.getD_eq_getElem?_getD, List.getElem?_set, List.any_cons, List.any_nil, Bool.or_false, Bool.or_eq_true, decide_eq_true_eq] at ih ⊢
    by_cases e : l[k].1.toNat = q
    · rw [if_pos e, if_pos (by rw [seenK_length]; omega)]
      simp
      exact .inr (by omega)
    · rw [if_neg e, ih]
      constructor
      · exact fun h => .inl h
      · rintro (h | h)
        · exact h
        · omega
theorem out_at {P : Nat} {l : List (Int × ByteArray)} {k : Nat} (hk : k < l.length) (h : l[k].1 < 0 ∨ (P : Int) ≤ l[k].1) : outK P l = true := by
  unfold outK
  rw [List.any_eq_true]
  exact ⟨l[k], List.getElem_mem hk, by simpa using h⟩
theorem out_no {P : Nat} {l : List (Int × ByteArray)} (h : ∀ j (hj : j < l.length), 0 ≤ l[j].1 ∧ l[j].1 < (P : Int)) : outK P l = false := by
  unfold outK
  rw [List.any_eq_false]
  intro x hx
  obtain ⟨j, hj, rfl⟩ := List.getElem_of_mem hx
  have := h j hj
  simp
  omega
theorem dupK_mono {l : List (Int × ByteArray)} : ∀ {n k : Nat}, k ≤ n → dupK l k = true → dupK l n = true
  | 0, k, h, hd => by obtain rfl : k = 0 := by omega
                      exact hd
  | n + 1, k, h, hd => by
    by_cases e : k = n + 1
    · subst e; exact hd
    · rw [dupK, dupK_mono (n := n) (by omega) hd]; rfl
theorem long_at {l : List (Int × ByteArray)} {k : Nat} (hk : k < l.length) (h : ¬ l[k].2.size = 1024) : longK l = true := by
  unfold longK
  rw [List.any_eq_true]
  exact ⟨l[k], List.getElem_mem hk, by simpa using h⟩
theorem long_no {l : List (Int × ByteArray)} (h : ∀ j (hj : j < l.length), l[j].2.size = 1024) : longK l = false := by
  unfold longK
  rw [List.any_eq_false]
  intro x hx
  obtain ⟨j, hj, rfl⟩ := List.getElem_of_mem hx
  simp [h j hj]
set_option maxHeartbeats 3200000 in
set_option maxRecDepth 100000 in
theorem check_any (w : World) (gj g P : Nat) (hj : Jb w gj g P) (hP : P ≤ 128) (A : Option Addr) (c : Nat) (l : List (Int × ByteArray)) (hl : RdC w A l) (hn : l.length ≤ 1000000) (hs : ∀ x ∈ l, x.2.size ≤ 9223372036854775807) :
    Calls Try.prog 44 #[.pointer (some ⟨gj, 0, none⟩), .slice A l.length c] w fun e w' => e = .returned (.int .i64 (whyE P l)) ∧ Below w.heap.size w w' := by
  have HJ := Lib.hid hj
  have HL := Lib.hid hl
  have HS := Lib.hid hs
  have hst := run_storeCells_new (P := Try.prog) w 116 Try.zeroCells116 Try.zeroCells116 (by kernel_rfl) rfl (by kernel_rfl)
  have BA : Hid (Below w.heap.size w (w.alloc (.cells Try.zeroCells116 116))) := (Below.refl _ w).alloc (Nat.le_refl _) _
  have GS : Hid ((w.alloc (.cells Try.zeroCells116 116)).heap[w.heap.size]? = some (.cells (blv (seenK l 0)) 116 (0, 0))) := by unfold Hid seenK; rw [← zeros128]; exact blk_new w _
  clear hj hl hs
  go_enter Try.func44, Try.ntmps44
  go_wp2_with fail
  clear hst
  obtain ⟨W1, hW1⟩ : ∃ W1, W1 = w.alloc (.cells Try.zeroCells116 116) := ⟨_, rfl⟩
  rw [← hW1] at BA GS ⊢
  have GS2 := GS
  clear hW1 GS
  go_loopw [15] (fun i wr => ∃ k : Nat, k ≤ l.length ∧ i = .int .i64 k ∧ Hid (Below W1.heap.size W1 wr) ∧ Hid (∀ j (hj : j < l.length), j < k → 0 ≤ l[j].1 ∧ l[j].1 < (P : Int))) (fun i _ => l.length - (intOf i).toNat)
  case atStart => exact ⟨0, Nat.zero_le _, rfl, Below.refl _ _, fun j _ h => absurd h (Nat.not_lt_zero _)⟩
  case round =>
    obtain ⟨k, hk, rfl, hb, hin⟩ := hrel
    by_cases hlt : k < l.length
    · obtain ⟨b, off, hA, hcs⟩ := HL.out (by omega)
      subst hA
      obtain ⟨z0, z1⟩ := hcs k hlt
      replace z0 := cell_below (BA.out.trans (hb.out.mono BA.out.size)) z0
      replace z1 := cell_below (BA.out.trans (hb.out.mono BA.out.size)) z1
      have OUT := fun h => Lib.hid (out_at (P := P) hlt h)
      have INX : Hid (0 ≤ l[k].1 ∧ l[k].1 < (P : Int) → ∀ j (hj : j < l.length), j < k + 1 → 0 ≤ l[j].1 ∧ l[j].1 < (P : Int)) := fun h j hj hjk => by
        by_cases e : j = k
        · subst e; exact h
        · exact hin.out j hj (by omega)
      generalize l[k] = x at z0 z1 OUT INX
      have BX : Hid (Below W1.heap.size W1 (wr.alloc (.cells #[.int .i64 x.1, .string x.2] 53)).drew) := (hb.out.alloc hb.out.size _).drew
      have g2 := blk_new wr (.cells #[.int .i64 x.1, .string x.2] 53)
      have y0 : (wr.alloc (.cells #[.int .i64 x.1, .string x.2] 53)).drew.cell? ⟨wr.heap.size, 0, none⟩ = some (.int .i64 x.1) := blk_cell g2 0
      have c1 := ((HJ.out.below (BA.out.trans (BX.out.mono BA.out.size)))).cells.2
      clear hcs g2
      by_cases h0 : x.1 < 0
      · have E := OUT (.inl h0)
        have d1 : decide (x.1 < 0) = true := by simpa using h0
        clear OUT INX h0
        go_wp2_with fail
        refine wp_region_flag (fun w' => w'.cell? ⟨wr.heap.size, 0, none⟩ = some (.int .i64 x.1) ∧ w'.cell? ⟨gj, 1, none⟩ = some (.int .i64 (P : Int))) [(0, 1), (1, 0), (2, 1), (3, 1), (4, 1), (6, 1), (7, 1), (8, 1), (5, 2), (9, 0), (10, 1), (11, 1)] (by kernel_rfl) (by kernel_rfl) ⟨y0, c1⟩ ?_
        simp only [ordered, List.map_cons, List.map_nil, List.getD_cons_zero, List.getD_cons_succ]
        repeat (refine wpF_dry (fun K hK => ?_); go_simp; refine hK _ ?_; clear hK K)
        refine wpF_do ?_
        go_wp2_with fail
        refine ⟨⟨y0, c1⟩, ?_⟩
        repeat (refine wpF_dry (fun K hK => ?_); go_simp; refine hK _ ?_; clear hK K)
        refine wpF_skip (fun K hK => ?_)
        go_simp
        first | refine hK _ ?_ | refine ⟨(fun hh => by cases hh), hK _ ?_⟩
        clear hK K
        refine wpF_do ?_
        go_wp2_with fail
        refine ⟨⟨y0, c1⟩, ?_⟩
        repeat (refine wpF_dry (fun K hK => ?_); go_simp; refine hK _ ?_; clear hK K)
        refine wpF_nil ?_
        go_wp2
        go_ret
        exact ⟨by unfold whyE; rw [E.out]; rfl, (BA.out.trans (BX.out.mono BA.out.size))⟩
      · by_cases h1 : (P : Int) ≤ x.1
        · have E := OUT (.inr h1)
          have d1 : decide (x.1 < 0) = false := by simpa using h0
          have d2 : decide ((P : Int) ≤ x.1) = true := by simpa using h1
          clear OUT INX h0 h1
          go_wp2_with fail
          refine wp_region_flag (fun w' => w'.cell? ⟨wr.heap.size, 0, none⟩ = some (.int .i64 x.1) ∧ w'.cell? ⟨gj, 1, none⟩ = some (.int .i64 (P : Int))) [(0, 1), (1, 0), (2, 1), (3, 1), (4, 1), (6, 1), (7, 1), (8, 1), (5, 2), (9, 0), (10, 1), (11, 1)] (by kernel_rfl) (by kernel_rfl) ⟨y0, c1⟩ ?_
          simp only [ordered, List.map_cons, List.map_nil, List.getD_cons_zero, List.getD_cons_succ]
          repeat (refine wpF_dry (fun K hK => ?_); go_simp; refine hK _ ?_; clear hK K)
          refine wpF_do ?_
          go_wp2_with fail
          refine ⟨⟨y0, c1⟩, ?_⟩
          repeat (refine wpF_dry (fun K hK => ?_); go_simp; refine hK _ ?_; clear hK K)
          refine wpF_read (.int .i64 x.1) rfl (fun w' hS => by obtain ⟨s1, s2⟩ := hS; go_simp) (fun K hK => ?_)
          go_simp
          refine hK _ ?_
          clear hK K
          refine wpF_do ?_
          go_wp2_with fail
          refine ⟨⟨y0, c1⟩, ?_⟩
          repeat (refine wpF_dry (fun K hK => ?_); go_simp; refine hK _ ?_; clear hK K)
          refine wpF_nil ?_
          go_wp2
          go_ret
          exact ⟨by unfold whyE; rw [E.out]; rfl, (BA.out.trans (BX.out.mono BA.out.size))⟩
        · have INX2 := Lib.hid (INX.out ⟨by omega, by omega⟩)
          have d1 : decide (x.1 < 0) = false := by simpa using h0
          have d2 : decide ((P : Int) ≤ x.1) = false := by simpa using h1
          clear OUT INX h0 h1
          go_wp2_with fail
          refine wp_region_flag (fun w' => w'.cell? ⟨wr.heap.size, 0, none⟩ = some (.int .i64 x.1) ∧ w'.cell? ⟨gj, 1, none⟩ = some (.int .i64 (P : Int))) [(0, 1), (1, 0), (2, 1), (3, 1), (4, 1), (6, 1), (7, 1), (8, 1), (5, 2), (9, 0), (10, 1), (11, 1)] (by kernel_rfl) (by kernel_rfl) ⟨y0, c1⟩ ?_
          simp only [ordered, List.map_cons, List.map_nil, List.getD_cons_zero, List.getD_cons_succ]
          repeat (refine wpF_dry (fun K hK => ?_); go_simp; refine hK _ ?_; clear hK K)
          refine wpF_do ?_
          go_wp2_with fail
          refine ⟨⟨y0, c1⟩, ?_⟩
          repeat (refine wpF_dry (fun K hK => ?_); go_simp; refine hK _ ?_; clear hK K)
          refine wpF_read (.int .i64 x.1) rfl (fun w' hS => by obtain ⟨s1, s2⟩ := hS; go_simp) (fun K hK => ?_)
          go_simp
          refine hK _ ?_
          clear hK K
          refine wpF_do ?_
          go_wp2_with fail
          refine ⟨⟨y0, c1⟩, ?_⟩
          repeat (refine wpF_dry (fun K hK => ?_); go_simp; refine hK _ ?_; clear hK K)
          refine wpF_nil ?_
          go_wp2
          go_roundw
          case rel => first | exact ⟨k + 1, hlt, by go_num, BX, INX2⟩ | ((repeat apply Exists.intro); refine ⟨?_, rfl⟩; exact ⟨k + 1, hlt, by go_num, BX, INX2⟩)
          case measure => simp [intOf]; omega
    · obtain rfl : k = l.length := by omega
      have OK := Lib.hid (out_no (P := P) (l := l) (fun j hj => hin.out j hj hj))
      have INA : Hid (∀ j (hj : j < l.length), 0 ≤ l[j].1 ∧ l[j].1 < (P : Int)) := fun j hj => hin.out j hj hj
      have GK : Hid (wr.heap[w.heap.size]? = some (.cells (blv (seenK l 0)) 116 (0, 0))) := (hb.out.block w.heap.size (lt_of_block GS2.out)).trans GS2.out
      have BK := Lib.hid (BA.out.trans (hb.out.mono BA.out.size))
      clear hk hlt hin hb GS2
      go_wp2_with fail
      go_loopw [34] (fun i wz => ∃ k : Nat, k ≤ l.length ∧ i = .int .i64 k ∧ Hid (dupK l k = false) ∧ Hid (wz.heap[w.heap.size]? = some (.cells (blv (seenK l k)) 116 (0, 0))) ∧ Hid (Below w.heap.size w wz)) (fun i _ => l.length - (intOf i).toNat)
      case atStart => exact ⟨0, Nat.zero_le _, rfl, rfl, GK, BK⟩
      case round =>
        obtain ⟨k, hk, rfl, hd, GZ, BZ⟩ := hrel
        clear GK BK
        by_cases hlt : k < l.length
        · obtain ⟨b, off, hA, hcs⟩ := HL.out (by omega)
          subst hA
          obtain ⟨z0, z1⟩ := hcs k hlt
          replace z0 := cell_below BZ.out z0
          replace z1 := cell_below BZ.out z1
          have hin := INA.out k hlt
          have hg : l.getD k (0, ByteArray.empty) = l[k] := by rw [List.getD_eq_getElem?_getD, List.getElem?_eq_getElem hlt]; rfl
          have SG := seenK_get OK.out hP k (by omega) l[k].1.toNat (by omega)
          rw [show ((l[k].1.toNat : Nat) : Int) = l[k].1 by omega] at SG
          have DS : Hid (dupK l (k + 1) = (l.take k).any (fun c => decide (c.1 = l[k].1))) := by unfold Hid; rw [dupK, hd.out, hg]; rfl
          have SS : Hid (seenK l (k + 1) = (seenK l k).set l[k].1.toNat true) := by unfold Hid; rw [seenK, hg]
          have SL := seenK_length l k
          generalize l[k] = x at z0 z1 hin SG DS SS
          obtain ⟨q, hq⟩ := Int.eq_ofNat_of_zero_le hin.1
          obtain ⟨x1, x2⟩ := x
          simp only at hq
          subst hq
          simp only [Int.toNat_natCast] at SG SS
          have hq128 : q < 128 := by omega
          have s0 := blk_cell (blk_alloc GZ.out (.cells #[.int .i64 (q : Int), .string x2] 53)) q
          have sf := blk_free (blk_alloc GZ.out (.cells #[.int .i64 (q : Int), .string x2] 53)) q
          rw [blv_get _ _ (by rw [SL]; exact hq128)] at s0
          have BX : Hid (Below w.heap.size w (wr.alloc (.cells #[.int .i64 (q : Int), .string x2] 53))) := BZ.out.alloc BZ.out.size _
          have GX : Hid ((wr.alloc (.cells #[.int .i64 (q : Int), .string x2] 53)).heap[w.heap.size]? = some (.cells (blv (seenK l k)) 116 (0, 0))) := blk_alloc GZ.out _
          have gne : ¬ w.heap.size = wr.heap.size := by have := lt_of_block GZ.out; omega
          have gne2 : ¬ wr.heap.size = w.heap.size := fun e => gne e.symm
          clear hcs hg hin
          cases hs0 : (seenK l k).getD q false with
          | true =>
            have E : Hid (dupK l l.length = true) := dupK_mono hlt (by rw [DS.out]; exact SG.1 hs0)
            rw [hs0] at s0
            clear hs0 SG
            go_wp2
            go_ret
            exact ⟨by unfold whyE; rw [OK.out, E.out]; rfl, BX.out⟩
          | false =>
            have E : Hid (dupK l (k + 1) = false) := by
              unfold Hid
              rw [DS.out]
              cases hh : (l.take k).any (fun c => decide (c.1 = (q : Int))) with
              | false => rfl
              | true => rw [SG.2 hh] at hs0; cases hs0
            rw [hs0] at s0
            have G2 : Hid (((wr.alloc (.cells #[.int .i64 (q : Int), .string x2] 53)).setCell ⟨w.heap.size, q, none⟩ (.bool true)).heap[w.heap.size]? = some (.cells (blv (seenK l (k + 1))) 116 (0, 0))) := by unfold Hid; rw [SS.out, ← blv_set]; exact blk_set GX.out q _
            have B2 : Hid (Below w.heap.size w ((wr.alloc (.cells #[.int .i64 (q : Int), .string x2] 53)).setCell ⟨w.heap.size, q, none⟩ (.bool true))) := BX.out.setCell (p := ⟨w.heap.size, q, none⟩) (Nat.le_refl _) _
            clear hs0 SG GX
            go_wp2
            go_roundw
            case rel => first | exact ⟨k + 1, hlt, by go_num, E, G2, B2⟩ | ((repeat apply Exists.intro); refine ⟨?_, rfl⟩; exact ⟨k + 1, hlt, by go_num, E, G2, B2⟩)
            case measure => simp [intOf]; omega
        · obtain rfl : k = l.length := by omega
          clear hk hlt GZ
          go_wp2_with fail
          go_loopw [48] (fun i wz => ∃ k : Nat, k ≤ l.length ∧ i = .int .i64 k ∧ Hid (∀ j (hj : j < l.length), j < k → l[j].2.size = 1024) ∧ Hid (Below w.heap.size w wz)) (fun i _ => l.length - (intOf i).toNat)
          case atStart => exact ⟨0, Nat.zero_le _, rfl, fun j _ h => absurd h (Nat.not_lt_zero _), BZ⟩
          case round =>
            obtain ⟨k, hk, rfl, hz, BQ⟩ := hrel
            clear BZ
            by_cases hlt : k < l.length
            · obtain ⟨b, off, hA, hcs⟩ := HL.out (by omega)
              subst hA
              obtain ⟨z0, z1⟩ := hcs k hlt
              replace z0 := cell_below BQ.out z0
              replace z1 := cell_below BQ.out z1
              have LG := fun h => Lib.hid (long_at hlt h)
              have LN : Hid (l[k].2.size = 1024 → ∀ j (hj : j < l.length), j < k + 1 → l[j].2.size = 1024) := fun h j hj hjk => by
                by_cases e : j = k
                · subst e; exact h
                · exact hz.out j hj (by omega)
              have hsz := HS.out l[k] (List.getElem_mem hlt)
              generalize l[k] = x at z0 z1 LG LN hsz
              have BX : Hid (Below w.heap.size w (wr.alloc (.cells #[.int .i64 x.1, .string x.2] 53))) := BQ.out.alloc BQ.out.size _
              clear hcs
              by_cases h4 : x.2.size = 1024
              · have LN2 := Lib.hid (LN.out h4)
                have d1 : (x.2.size != 1024) = false := by simp [h4]
                have d1' : ((x.2.size : Int) != 1024) = false := by simp; omega
                clear LG LN h4
                go_wp2
                go_roundw
                case rel => first | exact ⟨k + 1, hlt, by go_num, LN2, BX⟩ | ((repeat apply Exists.intro); refine ⟨?_, rfl⟩; exact ⟨k + 1, hlt, by go_num, LN2, BX⟩)
                case measure => simp [intOf]; omega
              · have E := LG h4
                have d1 : (x.2.size != 1024) = true := by simp [h4]
                have d1' : ((x.2.size : Int) != 1024) = true := by simp; omega
                clear LG LN h4
                go_wp2
                go_ret
                exact ⟨by unfold whyE; rw [OK.out, hd.out, E.out]; rfl, BX.out⟩
            · obtain rfl : k = l.length := by omega
              have E := Lib.hid (long_no (fun j hj => hz.out j hj hj))
              go_wp2
              go_ret
              exact ⟨by unfold whyE; rw [OK.out, hd.out, E.out]; rfl, BQ.out⟩
end Go.Proofs.Ytoolkamajlgcbaa
/- Reg3: as Reg2, and where three operations may come: all ways. -/
set_option linter.unusedVariables false
set_option linter.unusedSimpArgs false
namespace Go.Proofs.Ytoolkamajlgcbaa
open Go.RowKit

inductive Plan where
  | done
  | op (i f : Nat) (p : Plan)
  | two (i : Nat) (p : Plan) (j : Nat) (q : Plan)
  | three (i : Nat) (p : Plan) (j : Nat) (q : Plan) (k : Nat) (r : Plan)

def planB (ops : Array Oper) : Nat → Plan → Array Bool → Bool
  | _, .done, listed => (Region.ready .any ops listed).isEmpty
  | n + 1, .op i 0 p, listed => decide (i < ops.size) && (Region.ready .any ops listed == [i]) && planB ops n p (listed.setIfInBounds i true)
  | n + 1, .op i _ p, listed => decide (i < ops.size) && (Region.ready .any ops listed).contains i && Region.free .any ops listed i && planB ops n p (listed.setIfInBounds i true)
  | n + 1, .two i p j q, listed => decide (i < ops.size) && decide (j < ops.size) && (Region.ready .any ops listed == [i, j]) && planB ops n p (listed.setIfInBounds i true) && planB ops n q (listed.setIfInBounds j true)
  | n + 1, .three i p j q k r, listed => decide (i < ops.size) && decide (j < ops.size) && decide (k < ops.size) && (Region.ready .any ops listed == [i, j, k]) && planB ops n p (listed.setIfInBounds i true) && planB ops n q (listed.setIfInBounds j true) && planB ops n r (listed.setIfInBounds k true)
  | 0, _, _ => false

def wpP (P : Program) (ops : Array Oper) (l : List Oper) (S : World → Prop) (Q : Exit → Act → World → Prop) : Plan → Act → World → Prop
  | .done, a, w => Q .normal a w
  | .op i 0 p, a, w => wpList P ops (Exit.then (fun a' w' => Both (S w') (wpP P ops l S Q p a' w')) (OnlyOut Q)) [l.getD i default] a w
  | .op i 1 p, a, w => dry P ops (l.getD i default) a (fun a' => wpP P ops l S Q p a' w)
  | .op i _ p, a, w => dryS P ops S (l.getD i default) a (fun a' => wpP P ops l S Q p a' w)
  | .two i p j q, a, w => wpList P ops (Exit.then (fun a' w' => Both (S w') (wpP P ops l S Q p a' w')) (OnlyOut Q)) [l.getD i default] a w ∧
      wpList P ops (Exit.then (fun a' w' => Both (S w') (wpP P ops l S Q q a' w')) (OnlyOut Q)) [l.getD j default] a w
  | .three i p j q k r, a, w => wpList P ops (Exit.then (fun a' w' => Both (S w') (wpP P ops l S Q p a' w')) (OnlyOut Q)) [l.getD i default] a w ∧
      wpList P ops (Exit.then (fun a' w' => Both (S w') (wpP P ops l S Q q a' w')) (OnlyOut Q)) [l.getD j default] a w ∧
      wpList P ops (Exit.then (fun a' w' => Both (S w') (wpP P ops l S Q r a' w')) (OnlyOut Q)) [l.getD k default] a w

theorem do_one {P : Program} {Q : Exit → Act → World → Prop} {S : World → Prop} (ops : List Oper) (i : Nat) (hi : i < ops.length) {T U : Act → World → Prop} {a : Act} {w : World} (key : ∀ a w, Both (S w) (T a w) → U a w)
    (h : wpList P ops.toArray (Exit.then (fun a' w' => Both (S w') (T a' w')) (OnlyOut Q)) [ops[i]] a w) : wpOp P ops.toArray (Exit.then (fun a w => Q .normal a w) (OnlyOut Q)) i U a w := by
  have ho : ops.toArray[i]? = some ops[i] := by simp [hi]
  unfold wpOp
  simp only [ho]
  unfold wpList at h
  have hout : LetsOut (Exit.then (fun a' w' => Both (S w') (T a' w')) (OnlyOut Q)) → LetsOut (Exit.then (fun a w => Q .normal a w) (OnlyOut Q)) := by
    rintro ⟨a, w, x⟩
    exact ⟨a, w, x⟩
  split
  · rename_i hw
    rw [if_pos hw] at h
    rcases h with h | ⟨h, hx⟩
    · refine .inl ?_
      unfold Oper.wp at h ⊢
      generalize (execOp a.eval ops[i]).run P w = r at h
      cases r with
      | ok n w' =>
        cases n <;> simp only [Oper.upon] at h ⊢
        case value v => exact key _ _ h
        case skip => exact key _ _ h
        case defer d => exact key _ _ h
        case enter f args =>
          exact h.mono fun e w'' he => by
            cases e with
            | returned v => exact key _ _ he
            | panicked c => exact he
            | outgrown => exact hout he
        case row row args => exact h.mono fun v w'' he => key _ _ he
      | halt x w' => cases x <;> simp only [Oper.upon] at h ⊢ <;> exact h
    · exact .inr ⟨h, hout hx⟩
  · rename_i hw
    rw [if_neg hw] at h
    exact key _ _ h

theorem wpAny_plan {P : Program} {Q : Exit → Act → World → Prop} {S : World → Prop} (ops : List Oper) (hs : Region.noSelect ops.toArray = true) :
    ∀ (p : Plan) (n : Nat) (listed : Array Bool) (a : Act) (w : World), planB ops.toArray n p listed = true → S w →
      wpP P ops.toArray ops S Q p a w → wpAnyH P .any ops.toArray (Exit.then (fun a w => Q .normal a w) (OnlyOut Q)) S n listed a w
  | .done, n, listed, a, w, hB, hS, h => by
    refine wpAnyH_done (by cases n <;> simpa [planB] using hB) ?_ _
    exact h
  | .op i 0 p, 0, listed, a, w, hB, hS, h => by simp [planB] at hB
  | .op i (k + 1) p, 0, listed, a, w, hB, hS, h => by simp [planB] at hB
  | .two i p j q, 0, listed, a, w, hB, hS, h => by simp [planB] at hB
  | .three i p j q k r, 0, listed, a, w, hB, hS, h => by simp [planB] at hB
  | .op i 0 p, n + 1, listed, a, w, hB, hS, h => by
    simp only [planB, Bool.and_eq_true, beq_iff_eq, decide_eq_true_eq, List.size_toArray] at hB
    obtain ⟨⟨hi, h1⟩, h3⟩ := hB
    have hd : ops.getD i default = ops[i] := by simp [hi]
    simp only [wpP, hd] at h
    refine wpAnyH_all h1 (by simp) (fun j hj => ?_)
    obtain rfl : j = i := by simpa using hj
    exact do_one ops j hi (fun a w hh => ⟨hh.1, wpAny_plan ops hs p n _ a w h3 hh.1 hh.2⟩) h
  | .op i 1 p, n + 1, listed, a, w, hB, hS, h => by
    simp only [planB, Bool.and_eq_true, decide_eq_true_eq, List.size_toArray] at hB
    obtain ⟨⟨⟨hi, h1⟩, h2⟩, h3⟩ := hB
    have hd : ops.getD i default = ops[i] := by simp [hi]
    simp only [wpP, hd] at h
    exact take_dry ops hs i hi h1 h2 hS (fun a' hh => wpAny_plan ops hs p n _ a' w h3 hS hh) (dry_S h)
  | .op i (k + 2) p, n + 1, listed, a, w, hB, hS, h => by
    simp only [planB, Bool.and_eq_true, decide_eq_true_eq, List.size_toArray] at hB
    obtain ⟨⟨⟨hi, h1⟩, h2⟩, h3⟩ := hB
    have hd : ops.getD i default = ops[i] := by simp [hi]
    simp only [wpP, hd] at h
    exact take_dry ops hs i hi h1 h2 hS (fun a' hh => wpAny_plan ops hs p n _ a' w h3 hS hh) h
  | .two i p j q, n + 1, listed, a, w, hB, hS, h => by
    simp only [planB, Bool.and_eq_true, beq_iff_eq, decide_eq_true_eq, List.size_toArray] at hB
    obtain ⟨⟨⟨⟨hi, hj'⟩, h1⟩, h3⟩, h4⟩ := hB
    have hd : ops.getD i default = ops[i] := by simp [hi]
    have hd2 : ops.getD j default = ops[j] := by simp [hj']
    simp only [wpP, hd, hd2] at h
    refine wpAnyH_all h1 (by simp) (fun m hm => ?_)
    have hm' : m = i ∨ m = j := by simpa using hm
    rcases hm' with rfl | rfl
    · exact do_one ops m hi (fun a w hh => ⟨hh.1, wpAny_plan ops hs p n _ a w h3 hh.1 hh.2⟩) h.1
    · exact do_one ops m hj' (fun a w hh => ⟨hh.1, wpAny_plan ops hs q n _ a w h4 hh.1 hh.2⟩) h.2
  | .three i p j q k r, n + 1, listed, a, w, hB, hS, h => by
    simp only [planB, Bool.and_eq_true, beq_iff_eq, decide_eq_true_eq, List.size_toArray] at hB
    obtain ⟨⟨⟨⟨⟨⟨hi, hj'⟩, hk'⟩, h1⟩, h3⟩, h4⟩, h5⟩ := hB
    have hd : ops.getD i default = ops[i] := by simp [hi]
    have hd2 : ops.getD j default = ops[j] := by simp [hj']
    have hd3 : ops.getD k default = ops[k] := by simp [hk']
    simp only [wpP, hd, hd2, hd3] at h
    refine wpAnyH_all h1 (by simp) (fun m hm => ?_)
    have hm' : m = i ∨ m = j ∨ m = k := by simpa using hm
    rcases hm' with rfl | rfl | rfl
    · exact do_one ops m hi (fun a w hh => ⟨hh.1, wpAny_plan ops hs p n _ a w h3 hh.1 hh.2⟩) h.1
    · exact do_one ops m hj' (fun a w hh => ⟨hh.1, wpAny_plan ops hs q n _ a w h4 hh.1 hh.2⟩) h.2.1
    · exact do_one ops m hk' (fun a w hh => ⟨hh.1, wpAny_plan ops hs r n _ a w h5 hh.1 hh.2⟩) h.2.2

/-- A region that draws its order, by a plan. -/
theorem wp_region_plan {P : Program} {id : Nat} {Q : Exit → Act → World → Prop} {a : Act} {w : World} {l : List Oper} (S : World → Prop) (p : Plan) (hm : P.follows .mixedOrders = true)
    (hB : (Region.noSelect l.toArray && planB l.toArray l.length p (Array.replicate l.length false)) = true) (hS : S w.drew)
    (h : wpP P l.toArray l S Q p a w.drew) : (Code.region id l.toArray true).wp P Q a w := by
  simp only [Bool.and_eq_true] at hB
  obtain ⟨h1, h4⟩ := hB
  refine Code.wp_mono (Q := Exit.then (fun a w => Q .normal a w) (OnlyOut Q)) ?_ ?_
  · intro e a w q
    cases e with
    | normal => exact q
    | outgrown => exact q
    | _ => exact q.elim
  · refine wp_region_held (S := S) hm ?_
    have := wpAny_plan l h1 p l.length (Array.replicate l.length false) a w.drew h4 hS h
    simpa using this
theorem wpP_done {P : Program} {ops : Array Oper} {l : List Oper} {S : World → Prop} {Q : Exit → Act → World → Prop} {a : Act} {w : World} (h : Q .normal a w) : wpP P ops l S Q .done a w := h
theorem wpP_dry {P : Program} {ops : Array Oper} {l : List Oper} {S : World → Prop} {Q : Exit → Act → World → Prop} {a : Act} {w : World} {i : Nat} {p : Plan}
    (h : ∀ K : Act → Prop, (∀ a', wpP P ops l S Q p a' w → K a') → dry P ops (l.getD i default) a K) : wpP P ops l S Q (.op i 1 p) a w := h _ (fun _ hh => hh)
theorem wpP_do {P : Program} {ops : Array Oper} {l : List Oper} {S : World → Prop} {Q : Exit → Act → World → Prop} {a : Act} {w : World} {i : Nat} {p : Plan}
    (h : wpList P ops (Exit.then (fun a' w' => Both (S w') (wpP P ops l S Q p a' w')) (OnlyOut Q)) [l.getD i default] a w) : wpP P ops l S Q (.op i 0 p) a w := h
theorem wpP_read {P : Program} {ops : Array Oper} {l : List Oper} {S : World → Prop} {Q : Exit → Act → World → Prop} {a : Act} {w : World} {i : Nat} {p : Plan} (v : Value)
    (hw : Region.wanted (l.getD i default) (yielded ops a.tmps) = true) (hv : ∀ w', S w' → (execOp a.eval (l.getD i default)).run P w' = .ok (.value v) w')
    (h : ∀ K : Act → Prop, (∀ a', wpP P ops l S Q p a' w → K a') → K (a.put (l.getD i default).dst v)) : wpP P ops l S Q (.op i 2 p) a w := by
  show dryS _ _ _ _ _ _
  unfold dryS
  rw [if_pos hw]
  exact ⟨v, hv, h _ (fun _ hh => hh)⟩
theorem wpP_skip {P : Program} {ops : Array Oper} {l : List Oper} {S : World → Prop} {Q : Exit → Act → World → Prop} {a : Act} {w : World} {i : Nat} {p : Plan}
    (h : ∀ K : Act → Prop, (∀ a', wpP P ops l S Q p a' w → K a') → dry P ops (l.getD i default) a K) : wpP P ops l S Q (.op i 2 p) a w := dry_S (h _ (fun _ hh => hh))
theorem wpP_two {P : Program} {ops : Array Oper} {l : List Oper} {S : World → Prop} {Q : Exit → Act → World → Prop} {a : Act} {w : World} {i j : Nat} {p q : Plan}
    (h1 : wpList P ops (Exit.then (fun a' w' => Both (S w') (wpP P ops l S Q p a' w')) (OnlyOut Q)) [l.getD i default] a w)
    (h2 : wpList P ops (Exit.then (fun a' w' => Both (S w') (wpP P ops l S Q q a' w')) (OnlyOut Q)) [l.getD j default] a w) : wpP P ops l S Q (.two i p j q) a w := ⟨h1, h2⟩
theorem wpP_three {P : Program} {ops : Array Oper} {l : List Oper} {S : World → Prop} {Q : Exit → Act → World → Prop} {a : Act} {w : World} {i j k : Nat} {p q r : Plan}
    (h1 : wpList P ops (Exit.then (fun a' w' => Both (S w') (wpP P ops l S Q p a' w')) (OnlyOut Q)) [l.getD i default] a w)
    (h2 : wpList P ops (Exit.then (fun a' w' => Both (S w') (wpP P ops l S Q q a' w')) (OnlyOut Q)) [l.getD j default] a w)
    (h3 : wpList P ops (Exit.then (fun a' w' => Both (S w') (wpP P ops l S Q r a' w')) (OnlyOut Q)) [l.getD k default] a w) : wpP P ops l S Q (.three i p j q k r) a w := ⟨h1, h2, h3⟩
attribute [irreducible] wpP
end Go.Proofs.Ytoolkamajlgcbaa
