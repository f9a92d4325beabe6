/- JnT: the walk of changes (written by gen_chg.py). -/
import Derived.Test.YtpaabfadniakoaaJnR
set_option linter.unusedVariables false
set_option linter.unusedSimpArgs false
namespace Go.Proofs.Ytpaabfadniakoaa
open Go.RowKit

abbrev PutM := Int × Int × UInt8
/-- Puts that are read. -/
def PutAt (w : World) (b off : Nat) (l : List PutM) : Prop := ∀ j (h : j < l.length), w.cell? ⟨b, off + j * 3, none⟩ = some (.int .i64 l[j].1) ∧ w.cell? ⟨b, off + j * 3 + 1, none⟩ = some (.int .i64 l[j].2.1) ∧ w.cell? ⟨b, off + j * 3 + 2, none⟩ = some (.int .u8 (l[j].2.2.toNat : Int))
def RdPut (w : World) (A : Option Addr) (l : List PutM) : Prop := 0 < l.length → ∃ b off, A = some ⟨b, off, none⟩ ∧ PutAt w b off l
theorem PutAt.below {B : Nat} {w w' : World} {b off : Nat} {l : List PutM} (h : PutAt w b off l) (hb : Below w.heap.size w w') : PutAt w' b off l := fun j hj => ⟨cell_below hb (h j hj).1, cell_below hb (h j hj).2.1, cell_below hb (h j hj).2.2⟩
def chP (x : PutM) : Int × ByteArray := (x.1, Dk.rep (filledN x.2.1) x.2.2)
def chK (l : List PutM) (k : Nat) : List (Int × ByteArray) := (l.take k).map chP
theorem chK_succ {l : List PutM} {k : Nat} (h : k < l.length) : chK l (k + 1) = chK l k ++ [chP l[k]] := by unfold chK; rw [List.take_succ_eq_append_getElem h, List.map_append]; rfl
theorem chK_len {l : List PutM} {k : Nat} (h : k ≤ l.length) : (chK l k).length = k := by unfold chK; rw [List.length_map, List.length_take]; omega
def civ : List (Int × ByteArray) → List Value
  | [] => []
  | h :: l => .int .i64 h.1 :: .string h.2 :: civ l
theorem civ_length : ∀ l, (civ l).length = l.length * 2
  | [] => rfl
  | h :: l => by simp [civ, civ_length l]; omega
theorem civ_append : ∀ a b, civ (a ++ b) = civ a ++ civ b
  | [], b => rfl
  | h :: a, b => by simp [civ, civ_append a b]
theorem civ_get : ∀ (l : List (Int × ByteArray)) (k : Nat) (h : k < l.length), (civ l)[k * 2]? = some (.int .i64 l[k].1) ∧ (civ l)[k * 2 + 1]? = some (.string l[k].2)
  | x :: l, 0, h => ⟨rfl, rfl⟩
  | x :: l, k + 1, h => by
    have := civ_get l k (by simpa using h)
    rw [show (k + 1) * 2 = k * 2 + 2 by omega, show k * 2 + 2 + 1 = k * 2 + 1 + 2 by omega]
    simpa [civ] using this
theorem infoRC : (Try.prog.info? 76).map (fun i => (i.zero, i.size, i.bytes)) = some (some (.agg #[.int .i64 0, .string ByteArray.empty]), 2, 24) := by kernel_rfl
theorem row_apart {W : World} {b1 b2 : Nat} {e1 e2 : TypeId} {s1 s2 n1 n2 : Nat} {v1 v2 : Value} {x1 x2 : List Value} (h1 : W.ownsRow b1 e1 s1 v1 n1 x1) (h2 : W.ownsRow b2 e2 s2 v2 n2 x2) (he : e1 ≠ e2) : v1.ownBlock = none ∨ v1.ownBlock ≠ v2.ownBlock := by
  rcases h1.2 with ⟨rfl, _⟩ | ⟨g1, c1, u1, rfl, _, k1, _⟩
  · exact .inl rfl
  · refine .inr fun e => ?_
    rcases h2.2 with ⟨rfl, _⟩ | ⟨g2, c2, u2, rfl, _, k2, _⟩
    · simp [Value.ownBlock] at e
    · simp [Value.ownBlock] at e
      subst e
      rw [k1] at k2
      injection k2 with k2
      injection k2 with _ k2 _
      exact he k2
/-- Changes in a row of one's own are read. -/
theorem rdC_own {w : World} {base : Nat} {A : Option Addr} {c : Nat} {l : List (Int × ByteArray)} (h : w.ownsRow base 44 2 (.slice A l.length c) l.length (civ l)) : RdC w A l := fun hp => by
  rcases h.2 with ⟨_, h0⟩ | ⟨g, cap, cur, e, _, hk, h1, _, h3, h4⟩
  · omega
  · injection e with e _ _
    subst e
    refine ⟨g, 0, rfl, fun j hj => ?_⟩
    obtain ⟨g1, g2⟩ := civ_get l j hj
    rw [← h4, List.getElem?_take_of_lt (by omega), Array.getElem?_toList] at g1
    rw [← h4, List.getElem?_take_of_lt (by omega), Array.getElem?_toList] at g2
    rw [Nat.zero_add, blk_cell hk, blk_cell hk]
    exact ⟨g1, g2⟩
set_option maxHeartbeats 3200000 in
set_option maxRecDepth 100000 in
theorem changes_any (w : World) (A : Option Addr) (c : Nat) (l : List PutM) (hl : RdPut w A l) (hn : l.length ≤ 9223372036854775807) :
    Calls Try.prog 18 #[.slice A l.length c] w fun e w' => ∃ va vb, e = .returned (.tuple #[va, vb]) ∧ w'.ownsRow w.heap.size 44 2 va (chK l 12).length (civ (chK l 12)) ∧ w'.ownsRow w.heap.size 76 2 vb (chK l 12).length (civ (chK l 12)) ∧ Below w.heap.size w w' := by
  obtain ⟨i0, hi, hz0, hz1, hz2⟩ := info_parts infoCh
  obtain ⟨j0, hj, hy0, hy1, hy2⟩ := info_parts infoRC
  have HL := Lib.hid hl
  clear hl
  go_enter Try.func18, Try.ntmps18
  go_wp2_with fail
  go_loopw [4, 5, 6] (fun va vb i wr => ∃ k : Nat, k ≤ 12 ∧ k ≤ l.length ∧ i = .int .i64 k ∧ Hid (wr.ownsRow w.heap.size 44 2 va k (civ (chK l k))) ∧ Hid (wr.ownsRow w.heap.size 76 2 vb k (civ (chK l k))) ∧ Hid (Below w.heap.size w wr)) (fun _ _ i _ => 12 - (intOf i).toNat)
  case atStart => exact ⟨0, by decide, Nat.zero_le _, rfl, World.ownsRow_nil _ _ _ _, World.ownsRow_nil _ _ _ _, Below.refl _ _⟩
  case round =>
    obtain ⟨k, hk, hkl, rfl, ha, hb, hB⟩ := hrel
    by_cases hlt : k < l.length
    · by_cases h12 : k < 12
      · obtain ⟨b, off, hA, hcs⟩ := HL.out (by omega)
        subst hA
        obtain ⟨z0, z1, z2⟩ := hcs k hlt
        have CS := Lib.hid (chK_succ hlt)
        generalize l[k] = x at z0 z1 z2 CS
        obtain ⟨t, ht⟩ : ∃ t, t = Dk.rep (filledN x.2.1) x.2.2 := ⟨_, rfl⟩
        have FI := fun W => Lib.hid (filled_any W x.1 x.2.1 x.2.2)
        rw [← ht] at FI
        rw [show chP x = (x.1, t) by rw [ht]; rfl] at CS
        have y0 := Lib.hid z0; have y1 := Lib.hid z1; have y2 := Lib.hid z2
        clear hcs z0 z1 z2 ht
        skip
        have d12 : decide ((k : Int) < 12) = true := by simp; omega
        have B0d1 : Hid (Below w.heap.size w wr.drew) := hB.out.drew
        have a1 := cell_below B0d1.out y0.out; have b1 := cell_below B0d1.out y1.out; have c1 := cell_below B0d1.out y2.out
        go_wp2_with fail
        refine wp_region_flag (fun w' => w'.cell? ⟨b, off + k * 3, none⟩ = some (.int .i64 x.1) ∧ w'.cell? ⟨b, off + k * 3 + 1, none⟩ = some (.int .i64 x.2.1) ∧ w'.cell? ⟨b, off + k * 3 + 2, none⟩ = some (.int .u8 (x.2.2.toNat : Int))) [(0, 1), (1, 1), (2, 1), (3, 1), (4, 1), (6, 1), (7, 1), (8, 1), (5, 2), (9, 0), (10, 0), (11, 1), (12, 0), (13, 0), (14, 1)] (by kernel_rfl) (by kernel_rfl) ⟨a1, b1, c1⟩ ?_
        simp only [ordered, List.map_cons, List.map_nil, List.getD_cons_zero, List.getD_cons_succ]
        repeat (refine wpF_dry (fun K hK => ?_); go_simp; refine hK _ ?_; clear hK K)
        refine wpF_read (.int .i64 x.1) rfl (fun w' hS => by obtain ⟨s1, s2, s3⟩ := hS; go_simp) (fun K hK => ?_)
        go_simp
        refine hK _ ?_
        clear hK K
        refine wpF_do ?_
        go_wp2_with fail
        refine ⟨⟨a1, b1, c1⟩, ?_⟩
        refine wpF_do ?_
        go_wp2_with fail
        refine (FI _).out.mono ?_
        rintro e w1 ⟨rfl, bx⟩
        have B11 : Hid (Below w.heap.size w w1) := B0d1.out.trans (bx.mono B0d1.out.size)
        have a51 := cell_below B11.out y0.out; have b51 := cell_below B11.out y1.out; have c51 := cell_below B11.out y2.out
        have O11 : Hid (w1.ownsRow w.heap.size 44 2 u4 k (civ (chK l k))) := own_touch ha.out.drew (Touch.of_below bx : Touch (fun _ => False) _ w1) (fun _ _ x => x)
        have P11 : Hid (w1.ownsRow w.heap.size 76 2 u5 k (civ (chK l k))) := own_touch hb.out.drew (Touch.of_below bx : Touch (fun _ => False) _ w1) (fun _ _ x => x)
        clear bx
        go_wp2_with fail
        refine ⟨⟨a51, b51, c51⟩, ?_⟩
        repeat (refine wpF_dry (fun K hK => ?_); go_simp; refine hK _ ?_; clear hK K)
        refine wpF_do ?_
        go_wp2_with fail
        have B21 : Hid (Below w.heap.size w (w1.alloc (.cells #[.int .i64 x.1, .string t] 44))) := B11.out.alloc B11.out.size _
        have a61 := cell_below B21.out y0.out; have b61 := cell_below B21.out y1.out; have c61 := cell_below B21.out y2.out
        refine ⟨⟨a61, b61, c61⟩, ?_⟩
        refine wpF_do ?_
        go_wp2_with (at_builtin; refine wpList_append_own_at _ rfl (.tmp 17) (.tmp 29) 39 rfl w.heap.size 44 i0 _ 2 24 Try.underlying39 hi hz0 hz1 hz2 rfl (by decide) _ k (civ (chK l k)) rfl (O11.out.alloc _) ⟨w1.heap.size, 0, none⟩ 1 1 [.int .i64 x.1, .string t] rfl rfl (two_new _ _ _ _) (by simp [Value.oneCell']) (by unfold maxLen; omega) (by omega) (by have := B11.out.size; simp; omega) ?_)
        intro n1 w3 ho2 hg2 _ _
        have O31 : Hid (w3.ownsRow w.heap.size 44 2 n1 (k + 1) (civ (chK l (k + 1)))) := by unfold Hid; rw [CS.out, civ_append]; exact ho2
        have P31 := Lib.hid ((P11.out.alloc (.cells #[.int .i64 x.1, .string t] 44)).kept hg2 (row_apart (P11.out.alloc (.cells #[.int .i64 x.1, .string t] 44)) (O11.out.alloc (.cells #[.int .i64 x.1, .string t] 44)) (by decide)))
        have B3 : Hid (Below w.heap.size w w3) := B21.out.grown hg2 B21.out.size (fun j hj => ((O11.out.alloc (.cells #[.int .i64 x.1, .string t] 44)).lt j hj).1)
        have a71 := cell_below B3.out y0.out; have b71 := cell_below B3.out y1.out; have c71 := cell_below B3.out y2.out
        clear ho2 hg2
        go_wp2_with fail
        refine ⟨⟨a71, b71, c71⟩, ?_⟩
        repeat (refine wpF_dry (fun K hK => ?_); go_simp; refine hK _ ?_; clear hK K)
        refine wpF_nil ?_
        clear a1 b1 c1 a51 b51 c51 a61 b61 c61 a71 b71 c71
        have B0d2 : Hid (Below w.heap.size w w3.drew) := B3.out.drew
        have a2 := cell_below B0d2.out y0.out; have b2 := cell_below B0d2.out y1.out; have c2 := cell_below B0d2.out y2.out
        go_wp2_with fail
        refine wp_region_flag (fun w' => w'.cell? ⟨b, off + k * 3, none⟩ = some (.int .i64 x.1) ∧ w'.cell? ⟨b, off + k * 3 + 1, none⟩ = some (.int .i64 x.2.1) ∧ w'.cell? ⟨b, off + k * 3 + 2, none⟩ = some (.int .u8 (x.2.2.toNat : Int))) [(0, 1), (1, 1), (2, 1), (3, 1), (4, 1), (6, 1), (7, 1), (8, 1), (5, 2), (9, 0), (10, 0), (11, 1), (12, 0), (13, 0), (14, 1)] (by kernel_rfl) (by kernel_rfl) ⟨a2, b2, c2⟩ ?_
        simp only [ordered, List.map_cons, List.map_nil, List.getD_cons_zero, List.getD_cons_succ]
        repeat (refine wpF_dry (fun K hK => ?_); go_simp; refine hK _ ?_; clear hK K)
        refine wpF_read (.int .i64 x.1) rfl (fun w' hS => by obtain ⟨s1, s2, s3⟩ := hS; go_simp) (fun K hK => ?_)
        go_simp
        refine hK _ ?_
        clear hK K
        refine wpF_do ?_
        go_wp2_with fail
        refine ⟨⟨a2, b2, c2⟩, ?_⟩
        refine wpF_do ?_
        go_wp2_with fail
        refine (FI _).out.mono ?_
        rintro e w4 ⟨rfl, bx⟩
        have B12 : Hid (Below w.heap.size w w4) := B0d2.out.trans (bx.mono B0d2.out.size)
        have a52 := cell_below B12.out y0.out; have b52 := cell_below B12.out y1.out; have c52 := cell_below B12.out y2.out
        have O12 : Hid (w4.ownsRow w.heap.size 76 2 u5 k (civ (chK l k))) := own_touch P31.out.drew (Touch.of_below bx : Touch (fun _ => False) _ w4) (fun _ _ x => x)
        have P12 : Hid (w4.ownsRow w.heap.size 44 2 n1 (k + 1) (civ (chK l (k + 1)))) := own_touch O31.out.drew (Touch.of_below bx : Touch (fun _ => False) _ w4) (fun _ _ x => x)
        clear bx
        go_wp2_with fail
        refine ⟨⟨a52, b52, c52⟩, ?_⟩
        repeat (refine wpF_dry (fun K hK => ?_); go_simp; refine hK _ ?_; clear hK K)
        refine wpF_do ?_
        go_wp2_with fail
        have B22 : Hid (Below w.heap.size w (w4.alloc (.cells #[.int .i64 x.1, .string t] 76))) := B12.out.alloc B12.out.size _
        have a62 := cell_below B22.out y0.out; have b62 := cell_below B22.out y1.out; have c62 := cell_below B22.out y2.out
        refine ⟨⟨a62, b62, c62⟩, ?_⟩
        refine wpF_do ?_
        go_wp2_with (at_builtin; refine wpList_append_own_at _ rfl (.tmp 31) (.tmp 43) 40 rfl w.heap.size 76 j0 _ 2 24 Try.underlying40 hj hy0 hy1 hy2 rfl (by decide) _ k (civ (chK l k)) rfl (O12.out.alloc _) ⟨w4.heap.size, 0, none⟩ 1 1 [.int .i64 x.1, .string t] rfl rfl (two_new _ _ _ _) (by simp [Value.oneCell']) (by unfold maxLen; omega) (by omega) (by have := B12.out.size; simp; omega) ?_)
        intro n2 w6 ho2 hg2 _ _
        have O32 : Hid (w6.ownsRow w.heap.size 76 2 n2 (k + 1) (civ (chK l (k + 1)))) := by unfold Hid; rw [CS.out, civ_append]; exact ho2
        have P32 := Lib.hid ((P12.out.alloc (.cells #[.int .i64 x.1, .string t] 76)).kept hg2 (row_apart (P12.out.alloc (.cells #[.int .i64 x.1, .string t] 76)) (O12.out.alloc (.cells #[.int .i64 x.1, .string t] 76)) (by decide)))
        have B3b : Hid (Below w.heap.size w w6) := B22.out.grown hg2 B22.out.size (fun j hj => ((O12.out.alloc (.cells #[.int .i64 x.1, .string t] 76)).lt j hj).1)
        have a72 := cell_below B3b.out y0.out; have b72 := cell_below B3b.out y1.out; have c72 := cell_below B3b.out y2.out
        clear ho2 hg2
        go_wp2_with fail
        refine ⟨⟨a72, b72, c72⟩, ?_⟩
        repeat (refine wpF_dry (fun K hK => ?_); go_simp; refine hK _ ?_; clear hK K)
        refine wpF_nil ?_
        clear a2 b2 c2 a52 b52 c52 a62 b62 c62 a72 b72 c72
        go_wp2
        go_roundw
        case rel => first | exact ⟨k + 1, h12, hlt, by go_num, P32, O32, B3b⟩ | ((repeat apply Exists.intro); refine ⟨?_, rfl⟩; exact ⟨k + 1, h12, hlt, by go_num, P32, O32, B3b⟩)
        case measure => simp [intOf]; omega
      · have hk12 : k = 12 := by omega
        subst hk12
        have EL := chK_len hkl
        go_wp2
        go_ret2
        refine ⟨_, _, rfl, ?_, ?_, hB.out⟩
        · rw [EL]; exact ha.out
        · rw [EL]; exact hb.out
    · have hkl2 : k = l.length := by omega
      subst hkl2
      have ES : Hid (chK l 12 = chK l l.length) := by
        unfold Hid chK
        first | rfl | rw [List.take_of_length_le (by omega), List.take_of_length_le (by omega)]
      have EL := chK_len hkl
      go_wp2
      go_ret2
      refine ⟨_, _, rfl, ?_, ?_, hB.out⟩
      · rw [ES.out, EL]; exact ha.out
      · rw [ES.out, EL]; exact hb.out
end Go.Proofs.Ytpaabfadniakoaa
