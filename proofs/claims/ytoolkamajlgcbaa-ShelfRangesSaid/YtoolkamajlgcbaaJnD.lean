/- JnD: the walk of the journal's check (written by gen_check.py). -/
import Derived.Test.YtoolkamajlgcbaaJnC
import Derived.Deep.WholeRow
set_option linter.unusedVariables false
set_option linter.unusedSimpArgs false
namespace Go.Proofs.Ytoolkamajlgcbaa
open Go.RowKit

def blv (l : List Bool) : Array Value := (l.map Value.bool).toArray
theorem zeros128 : Try.zeroCells116 = blv (List.replicate 128 false) := by kernel_rfl
theorem blv_get (l : List Bool) (i : Nat) (h : i < l.length) : (blv l)[i]? = some (.bool (l.getD i false)) := by simp [blv, h]
theorem blv_set (l : List Bool) (i : Nat) (b : Bool) : (blv l).setIfInBounds i (.bool b) = blv (l.set i b) := by simp [blv, List.map_set]
/-- Which pages were seen. -/
def seenK (l : List (Int × ByteArray)) : Nat → List Bool
  | 0 => List.replicate 128 false
  | k + 1 => (seenK l k).set (l.getD k (0, ByteArray.empty)).1.toNat true
theorem seenK_length (l : List (Int × ByteArray)) : ∀ k, (seenK l k).length = 128
  | 0 => by simp [seenK]
  | k + 1 => by rw [seenK, List.length_set, seenK_length l k]
theorem seenK_get {P : Nat} {l : List (Int × ByteArray)} (ho : outK P l = false) (hP : P ≤ 128) : ∀ k, k ≤ l.length → ∀ q : Nat, q < 128 → ((seenK l k).getD q false = true ↔ (l.take k).any (fun c => decide (c.1 = (q : Int))) = true)
  | 0, _, q, hq => by
    have : (List.replicate 128 false).getD q false = false := by
      rw [List.getD_eq_getElem?_getD]
      by_cases h : q < 128
      · rw [List.getElem?_eq_getElem (by rw [List.length_replicate]; exact h), List.getElem_replicate]; rfl
      · omega
    rw [seenK, this]
    constructor
    · intro h; cases h
    · intro h; cases h
  | k + 1, hk, q, hq => by
    have ih := seenK_get ho hP k (by omega) q hq
    have hin : 0 ≤ l[k].1 ∧ l[k].1 < (P : Int) := by
      have h := ho
      unfold outK at h
      rw [List.any_eq_false] at h
      have := h l[k] (List.getElem_mem (by omega))
      simp at this
      omega
    rw [List.take_succ_eq_append_getElem (by omega), List.any_append, seenK]
    have hg : l.getD k (0, ByteArray.empty) = l[k] := by rw [List.getD_eq_getElem?_getD, List.getElem?_eq_getElem (by omega)]; rfl
    rw [hg]
    simp only [List.getD_eq_getElem?_getD, List.getElem?_set, List.any_cons, List.any_nil, Bool.or_false, Bool.or_eq_true, decide_eq_true_eq] at ih ⊢
    by_cases e : l[k].1.toNat = q
    · rw [if_pos e, if_pos (by rw [seenK_length]; omega)]
      simp
      exact .inr (by omega)
    · rw [if_neg e, ih]
      constructor
      · exact fun h => .inl h
      · rintro (h | h)
        · exact h
        · omega
theorem out_at {P : Nat} {l : List (Int × ByteArray)} {k : Nat} (hk : k < l.length) (h : l[k].1 < 0 ∨ (P : Int) ≤ l[k].1) : outK P l = true := by
  unfold outK
  rw [List.any_eq_true]
  exact ⟨l[k], List.getElem_mem hk, by simpa using h⟩
theorem out_no {P : Nat} {l : List (Int × ByteArray)} (h : ∀ j (hj : j < l.length), 0 ≤ l[j].1 ∧ l[j].1 < (P : Int)) : outK P l = false := by
  unfold outK
  rw [List.any_eq_false]
  intro x hx
  obtain ⟨j, hj, rfl⟩ := List.getElem_of_mem hx
  have := h j hj
  simp
  omega
theorem dupK_mono {l : List (Int × ByteArray)} : ∀ {n k : Nat}, k ≤ n → dupK l k = true → dupK l n = true
  | 0, k, h, hd => by obtain rfl : k = 0 := by omega
                      exact hd
  | n + 1, k, h, hd => by
    by_cases e : k = n + 1
    · subst e; exact hd
    · rw [dupK, dupK_mono (n := n) (by omega) hd]; rfl
theorem long_at {l : List (Int × ByteArray)} {k : Nat} (hk : k < l.length) (h : ¬ l[k].2.size = 1024) : longK l = true := by
  unfold longK
  rw [List.any_eq_true]
  exact ⟨l[k], List.getElem_mem hk, by simpa using h⟩
theorem long_no {l : List (Int × ByteArray)} (h : ∀ j (hj : j < l.length), l[j].2.size = 1024) : longK l = false := by
  unfold longK
  rw [List.any_eq_false]
  intro x hx
  obtain ⟨j, hj, rfl⟩ := List.getElem_of_mem hx
  simp [h j hj]
set_option maxHeartbeats 3200000 in
set_option maxRecDepth 100000 in
theorem check_any (w : World) (gj g P : Nat) (hj : Jb w gj g P) (hP : P ≤ 128) (A : Option Addr) (c : Nat) (l : List (Int × ByteArray)) (hl : RdC w A l) (hn : l.length ≤ 1000000) (hs : ∀ x ∈ l, x.2.size ≤ 9223372036854775807) :
    Calls Try.prog 44 #[.pointer (some ⟨gj, 0, none⟩), .slice A l.length c] w fun e w' => e = .returned (.int .i64 (whyE P l)) ∧ Below w.heap.size w w' := by
  have HJ := Lib.hid hj
  have HL := Lib.hid hl
  have HS := Lib.hid hs
  have hst := run_storeCells_new (P := Try.prog) w 116 Try.zeroCells116 Try.zeroCells116 (by kernel_rfl) rfl (by kernel_rfl)
  have BA : Hid (Below w.heap.size w (w.alloc (.cells Try.zeroCells116 116))) := (Below.refl _ w).alloc (Nat.le_refl _) _
  have GS : Hid ((w.alloc (.cells Try.zeroCells116 116)).heap[w.heap.size]? = some (.cells (blv (seenK l 0)) 116 (0, 0))) := by unfold Hid seenK; rw [← zeros128]; exact blk_new w _
  clear hj hl hs
  go_enter Try.func44, Try.ntmps44
  go_wp2_with fail
  clear hst
  obtain ⟨W1, hW1⟩ : ∃ W1, W1 = w.alloc (.cells Try.zeroCells116 116) := ⟨_, rfl⟩
  rw [← hW1] at BA GS ⊢
  have GS2 := GS
  clear hW1 GS
  go_loopw [15] (fun i wr => ∃ k : Nat, k ≤ l.length ∧ i = .int .i64 k ∧ Hid (Below W1.heap.size W1 wr) ∧ Hid (∀ j (hj : j < l.length), j < k → 0 ≤ l[j].1 ∧ l[j].1 < (P : Int))) (fun i _ => l.length - (intOf i).toNat)
  case atStart => exact ⟨0, Nat.zero_le _, rfl, Below.refl _ _, fun j _ h => absurd h (Nat.not_lt_zero _)⟩
  case round =>
    obtain ⟨k, hk, rfl, hb, hin⟩ := hrel
    by_cases hlt : k < l.length
    · obtain ⟨b, off, hA, hcs⟩ := HL.out (by omega)
      subst hA
      obtain ⟨z0, z1⟩ := hcs k hlt
      replace z0 := cell_below (BA.out.trans (hb.out.mono BA.out.size)) z0
      replace z1 := cell_below (BA.out.trans (hb.out.mono BA.out.size)) z1
      have OUT := fun h => Lib.hid (out_at (P := P) hlt h)
      have INX : Hid (0 ≤ l[k].1 ∧ l[k].1 < (P : Int) → ∀ j (hj : j < l.length), j < k + 1 → 0 ≤ l[j].1 ∧ l[j].1 < (P : Int)) := fun h j hj hjk => by
        by_cases e : j = k
        · subst e; exact h
        · exact hin.out j hj (by omega)
      generalize l[k] = x at z0 z1 OUT INX
      have BX : Hid (Below W1.heap.size W1 (wr.alloc (.cells #[.int .i64 x.1, .string x.2] 53)).drew) := (hb.out.alloc hb.out.size _).drew
      have g2 := blk_new wr (.cells #[.int .i64 x.1, .string x.2] 53)
      have y0 : (wr.alloc (.cells #[.int .i64 x.1, .string x.2] 53)).drew.cell? ⟨wr.heap.size, 0, none⟩ = some (.int .i64 x.1) := blk_cell g2 0
      have c1 := ((HJ.out.below (BA.out.trans (BX.out.mono BA.out.size)))).cells.2
      clear hcs g2
      by_cases h0 : x.1 < 0
      · have E := OUT (.inl h0)
        have d1 : decide (x.1 < 0) = true := by simpa using h0
        clear OUT INX h0
        go_wp2_with fail
        refine wp_region_flag (fun w' => w'.cell? ⟨wr.heap.size, 0, none⟩ = some (.int .i64 x.1) ∧ w'.cell? ⟨gj, 1, none⟩ = some (.int .i64 (P : Int))) [(0, 1), (1, 0), (2, 1), (3, 1), (4, 1), (6, 1), (7, 1), (8, 1), (5, 2), (9, 0), (10, 1), (11, 1)] (by kernel_rfl) (by kernel_rfl) ⟨y0, c1⟩ ?_
        simp only [ordered, List.map_cons, List.map_nil, List.getD_cons_zero, List.getD_cons_succ]
        repeat (refine wpF_dry (fun K hK => ?_); go_simp; refine hK _ ?_; clear hK K)
        refine wpF_do ?_
        go_wp2_with fail
        refine ⟨⟨y0, c1⟩, ?_⟩
        repeat (refine wpF_dry (fun K hK => ?_); go_simp; refine hK _ ?_; clear hK K)
        refine wpF_skip (fun K hK => ?_)
        go_simp
        first | refine hK _ ?_ | refine ⟨(fun hh => by cases hh), hK _ ?_⟩
        clear hK K
        refine wpF_do ?_
        go_wp2_with fail
        refine ⟨⟨y0, c1⟩, ?_⟩
        repeat (refine wpF_dry (fun K hK => ?_); go_simp; refine hK _ ?_; clear hK K)
        refine wpF_nil ?_
        go_wp2
        go_ret
        exact ⟨by unfold whyE; rw [E.out]; rfl, (BA.out.trans (BX.out.mono BA.out.size))⟩
      · by_cases h1 : (P : Int) ≤ x.1
        · have E := OUT (.inr h1)
          have d1 : decide (x.1 < 0) = false := by simpa using h0
          have d2 : decide ((P : Int) ≤ x.1) = true := by simpa using h1
          clear OUT INX h0 h1
          go_wp2_with fail
          refine wp_region_flag (fun w' => w'.cell? ⟨wr.heap.size, 0, none⟩ = some (.int .i64 x.1) ∧ w'.cell? ⟨gj, 1, none⟩ = some (.int .i64 (P : Int))) [(0, 1), (1, 0), (2, 1), (3, 1), (4, 1), (6, 1), (7, 1), (8, 1), (5, 2), (9, 0), (10, 1), (11, 1)] (by kernel_rfl) (by kernel_rfl) ⟨y0, c1⟩ ?_
          simp only [ordered, List.map_cons, List.map_nil, List.getD_cons_zero, List.getD_cons_succ]
          repeat (refine wpF_dry (fun K hK => ?_); go_simp; refine hK _ ?_; clear hK K)
          refine wpF_do ?_
          go_wp2_with fail
          refine ⟨⟨y0, c1⟩, ?_⟩
          repeat (refine wpF_dry (fun K hK => ?_); go_simp; refine hK _ ?_; clear hK K)
          refine wpF_read (.int .i64 x.1) rfl (fun w' hS => by obtain ⟨s1, s2⟩ := hS; go_simp) (fun K hK => ?_)
          go_simp
          refine hK _ ?_
          clear hK K
          refine wpF_do ?_
          go_wp2_with fail
          refine ⟨⟨y0, c1⟩, ?_⟩
          repeat (refine wpF_dry (fun K hK => ?_); go_simp; refine hK _ ?_; clear hK K)
          refine wpF_nil ?_
          go_wp2
          go_ret
          exact ⟨by unfold whyE; rw [E.out]; rfl, (BA.out.trans (BX.out.mono BA.out.size))⟩
        · have INX2 := Lib.hid (INX.out ⟨by omega, by omega⟩)
          have d1 : decide (x.1 < 0) = false := by simpa using h0
          have d2 : decide ((P : Int) ≤ x.1) = false := by simpa using h1
          clear OUT INX h0 h1
          go_wp2_with fail
          refine wp_region_flag (fun w' => w'.cell? ⟨wr.heap.size, 0, none⟩ = some (.int .i64 x.1) ∧ w'.cell? ⟨gj, 1, none⟩ = some (.int .i64 (P : Int))) [(0, 1), (1, 0), (2, 1), (3, 1), (4, 1), (6, 1), (7, 1), (8, 1), (5, 2), (9, 0), (10, 1), (11, 1)] (by kernel_rfl) (by kernel_rfl) ⟨y0, c1⟩ ?_
          simp only [ordered, List.map_cons, List.map_nil, List.getD_cons_zero, List.getD_cons_succ]
          repeat (refine wpF_dry (fun K hK => ?_); go_simp; refine hK _ ?_; clear hK K)
          refine wpF_do ?_
          go_wp2_with fail
          refine ⟨⟨y0, c1⟩, ?_⟩
          repeat (refine wpF_dry (fun K hK => ?_); go_simp; refine hK _ ?_; clear hK K)
          refine wpF_read (.int .i64 x.1) rfl (fun w' hS => by obtain ⟨s1, s2⟩ := hS; go_simp) (fun K hK => ?_)
          go_simp
          refine hK _ ?_
          clear hK K
          refine wpF_do ?_
          go_wp2_with fail
          refine ⟨⟨y0, c1⟩, ?_⟩
          repeat (refine wpF_dry (fun K hK => ?_); go_simp; refine hK _ ?_; clear hK K)
          refine wpF_nil ?_
          go_wp2
          go_roundw
          case rel => first | exact ⟨k + 1, hlt, by go_num, BX, INX2⟩ | ((repeat apply Exists.intro); refine ⟨?_, rfl⟩; exact ⟨k + 1, hlt, by go_num, BX, INX2⟩)
          case measure => simp [intOf]; omega
    · obtain rfl : k = l.length := by omega
      have OK := Lib.hid (out_no (P := P) (l := l) (fun j hj => hin.out j hj hj))
      have INA : Hid (∀ j (hj : j < l.length), 0 ≤ l[j].1 ∧ l[j].1 < (P : Int)) := fun j hj => hin.out j hj hj
      have GK : Hid (wr.heap[w.heap.size]? = some (.cells (blv (seenK l 0)) 116 (0, 0))) := (hb.out.block w.heap.size (lt_of_block GS2.out)).trans GS2.out
      have BK := Lib.hid (BA.out.trans (hb.out.mono BA.out.size))
      clear hk hlt hin hb GS2
      go_wp2_with fail
      go_loopw [34] (fun i wz => ∃ k : Nat, k ≤ l.length ∧ i = .int .i64 k ∧ Hid (dupK l k = false) ∧ Hid (wz.heap[w.heap.size]? = some (.cells (blv (seenK l k)) 116 (0, 0))) ∧ Hid (Below w.heap.size w wz)) (fun i _ => l.length - (intOf i).toNat)
      case atStart => exact ⟨0, Nat.zero_le _, rfl, rfl, GK, BK⟩
      case round =>
        obtain ⟨k, hk, rfl, hd, GZ, BZ⟩ := hrel
        clear GK BK
        by_cases hlt : k < l.length
        · obtain ⟨b, off, hA, hcs⟩ := HL.out (by omega)
          subst hA
          obtain ⟨z0, z1⟩ := hcs k hlt
          replace z0 := cell_below BZ.out z0
          replace z1 := cell_below BZ.out z1
          have hin := INA.out k hlt
          have hg : l.getD k (0, ByteArray.empty) = l[k] := by rw [List.getD_eq_getElem?_getD, List.getElem?_eq_getElem hlt]; rfl
          have SG := seenK_get OK.out hP k (by omega) l[k].1.toNat (by omega)
          rw [show ((l[k].1.toNat : Nat) : Int) = l[k].1 by omega] at SG
          have DS : Hid (dupK l (k + 1) = (l.take k).any (fun c => decide (c.1 = l[k].1))) := by unfold Hid; rw [dupK, hd.out, hg]; rfl
          have SS : Hid (seenK l (k + 1) = (seenK l k).set l[k].1.toNat true) := by unfold Hid; rw [seenK, hg]
          have SL := seenK_length l k
          generalize l[k] = x at z0 z1 hin SG DS SS
          obtain ⟨q, hq⟩ := Int.eq_ofNat_of_zero_le hin.1
          obtain ⟨x1, x2⟩ := x
          simp only at hq
          subst hq
          simp only [Int.toNat_natCast] at SG SS
          have hq128 : q < 128 := by omega
          have s0 := blk_cell (blk_alloc GZ.out (.cells #[.int .i64 (q : Int), .string x2] 53)) q
          have sf := blk_free (blk_alloc GZ.out (.cells #[.int .i64 (q : Int), .string x2] 53)) q
          rw [blv_get _ _ (by rw [SL]; exact hq128)] at s0
          have BX : Hid (Below w.heap.size w (wr.alloc (.cells #[.int .i64 (q : Int), .string x2] 53))) := BZ.out.alloc BZ.out.size _
          have GX : Hid ((wr.alloc (.cells #[.int .i64 (q : Int), .string x2] 53)).heap[w.heap.size]? = some (.cells (blv (seenK l k)) 116 (0, 0))) := blk_alloc GZ.out _
          have gne : ¬ w.heap.size = wr.heap.size := by have := lt_of_block GZ.out; omega
          have gne2 : ¬ wr.heap.size = w.heap.size := fun e => gne e.symm
          clear hcs hg hin
          cases hs0 : (seenK l k).getD q false with
          | true =>
            have E : Hid (dupK l l.length = true) := dupK_mono hlt (by rw [DS.out]; exact SG.1 hs0)
            rw [hs0] at s0
            clear hs0 SG
            go_wp2
            go_ret
            exact ⟨by unfold whyE; rw [OK.out, E.out]; rfl, BX.out⟩
          | false =>
            have E : Hid (dupK l (k + 1) = false) := by
              unfold Hid
              rw [DS.out]
              cases hh : (l.take k).any (fun c => decide (c.1 = (q : Int))) with
              | false => rfl
              | true => rw [SG.2 hh] at hs0; cases hs0
            rw [hs0] at s0
            have G2 : Hid (((wr.alloc (.cells #[.int .i64 (q : Int), .string x2] 53)).setCell ⟨w.heap.size, q, none⟩ (.bool true)).heap[w.heap.size]? = some (.cells (blv (seenK l (k + 1))) 116 (0, 0))) := by unfold Hid; rw [SS.out, ← blv_set]; exact blk_set GX.out q _
            have B2 : Hid (Below w.heap.size w ((wr.alloc (.cells #[.int .i64 (q : Int), .string x2] 53)).setCell ⟨w.heap.size, q, none⟩ (.bool true))) := BX.out.setCell (p := ⟨w.heap.size, q, none⟩) (Nat.le_refl _) _
            clear hs0 SG GX
            go_wp2
            go_roundw
            case rel => first | exact ⟨k + 1, hlt, by go_num, E, G2, B2⟩ | ((repeat apply Exists.intro); refine ⟨?_, rfl⟩; exact ⟨k + 1, hlt, by go_num, E, G2, B2⟩)
            case measure => simp [intOf]; omega
        · obtain rfl : k = l.length := by omega
          clear hk hlt GZ
          go_wp2_with fail
          go_loopw [48] (fun i wz => ∃ k : Nat, k ≤ l.length ∧ i = .int .i64 k ∧ Hid (∀ j (hj : j < l.length), j < k → l[j].2.size = 1024) ∧ Hid (Below w.heap.size w wz)) (fun i _ => l.length - (intOf i).toNat)
          case atStart => exact ⟨0, Nat.zero_le _, rfl, fun j _ h => absurd h (Nat.not_lt_zero _), BZ⟩
          case round =>
            obtain ⟨k, hk, rfl, hz, BQ⟩ := hrel
            clear BZ
            by_cases hlt : k < l.length
            · obtain ⟨b, off, hA, hcs⟩ := HL.out (by omega)
              subst hA
              obtain ⟨z0, z1⟩ := hcs k hlt
              replace z0 := cell_below BQ.out z0
              replace z1 := cell_below BQ.out z1
              have LG := fun h => Lib.hid (long_at hlt h)
              have LN : Hid (l[k].2.size = 1024 → ∀ j (hj : j < l.length), j < k + 1 → l[j].2.size = 1024) := fun h j hj hjk => by
                by_cases e : j = k
                · subst e; exact h
                · exact hz.out j hj (by omega)
              have hsz := HS.out l[k] (List.getElem_mem hlt)
              generalize l[k] = x at z0 z1 LG LN hsz
              have BX : Hid (Below w.heap.size w (wr.alloc (.cells #[.int .i64 x.1, .string x.2] 53))) := BQ.out.alloc BQ.out.size _
              clear hcs
              by_cases h4 : x.2.size = 1024
              · have LN2 := Lib.hid (LN.out h4)
                have d1 : (x.2.size != 1024) = false := by simp [h4]
                have d1' : ((x.2.size : Int) != 1024) = false := by simp; omega
                clear LG LN h4
                go_wp2
                go_roundw
                case rel => first | exact ⟨k + 1, hlt, by go_num, LN2, BX⟩ | ((repeat apply Exists.intro); refine ⟨?_, rfl⟩; exact ⟨k + 1, hlt, by go_num, LN2, BX⟩)
                case measure => simp [intOf]; omega
              · have E := LG h4
                have d1 : (x.2.size != 1024) = true := by simp [h4]
                have d1' : ((x.2.size : Int) != 1024) = true := by simp; omega
                clear LG LN h4
                go_wp2
                go_ret
                exact ⟨by unfold whyE; rw [OK.out, hd.out, E.out]; rfl, BX.out⟩
            · obtain rfl : k = l.length := by omega
              have E := Lib.hid (long_no (fun j hj => hz.out j hj hj))
              go_wp2
              go_ret
              exact ⟨by unfold whyE; rw [OK.out, hd.out, E.out]; rfl, BQ.out⟩
end Go.Proofs.Ytoolkamajlgcbaa
