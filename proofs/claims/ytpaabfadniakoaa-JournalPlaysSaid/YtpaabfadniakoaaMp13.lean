/- JnR: the walk of lives. -/
import Derived.Test.YtpaabfadniakoaaMp12
set_option linter.unusedVariables false
set_option linter.unusedSimpArgs false
namespace Go.Proofs.Ytpaabfadniakoaa
open Go.RowKit

theorem Sto.calm {P : Nat} {d : Dk} (h : Calm d) (hz : Sz d) (hb : 8 * P + 1 ≤ d.l.length) : Sto P d := ⟨h.ok, hz, hb, h.up⟩
theorem why_one (f : UInt8) : whyE 1 [(0, Dk.rep 1024 f)] = 0 := by
  unfold whyE outK longK
  have h : (Dk.rep 1024 f).size = 1024 := Dk.rep_size 1024 f
  simp [dupK, h]
set_option maxHeartbeats 1600000 in
set_option maxRecDepth 100000 in
theorem jlives_any (w : World) : Calls Try.prog 15 #[] w fun e w' => e = .returned (.bool true) ∧ Below w.heap.size w w' := by
  have NEW := Lib.hid (new_h w 9 (by decide) (by decide))
  have C9 := Lib.hid (calm_new (n := 9) (by decide) (by decide))
  have S9 := Lib.hid (sto_new (P := 1) (n := 9) (by decide) (by decide) (by decide))
  have F9 : Hid (Fw 600 (Dk.new 9)) := ⟨by simp [Dk.new], by simp [Dk.new]⟩
  have OK : Hid (run (Dk.new 9) (openK 1 (Dk.new 9) ((Dk.new 9).read 0).1) = (Dk.new 9, 0)) := by unfold Hid; rw [read_new (by decide) (by decide), openK_zero]; rfl
  go_enter Try.func15, Try.ntmps15
  go_wp2_with fail
  refine NEW.out.mono ?_
  rintro e w1 ⟨g, F, rfl, hd, hF, b1⟩
  have OP := Lib.hid (open_any w1 F g 1 (Dk.new 9) hd S9.out (by decide) (by decide) F9.out)
  unfold OpenTo at OP
  rw [OK.out] at OP
  have HF := Lib.hid hF; have B1 := Lib.hid b1
  clear hd hF b1 NEW
  go_wp2_with fail
  refine OP.out.mono ?_
  rintro e w2 ⟨v, F2, rfl, ht, hv⟩
  rw [if_pos (by trivial)] at hv
  obtain ⟨gj, rfl, hj, hnj, hgj⟩ := hv
  have HT := Lib.hid ht; have HJ := Lib.hid hj; have NJ := Lib.hid hnj
  have B2 : Hid (Below w.heap.size w w2) := B1.out.trans (HT.out.touch.below B1.out.size HF.out)
  have HF2 : Hid (∀ k, F2 k → w.heap.size ≤ k) := fun k hk => (HT.out.new k hk).elim (HF.out k) (fun h => Nat.le_trans B1.out.size h)
  clear ht hj hnj OP
  have N1 := Lib.hid (need_any w2 1)
  rw [show needN 1 = 9 from rfl] at N1
  have PG : Hid (jrd (Dk.new 9) 1 0 = (Dk.rep 1024 0, 0)) := by
    unfold Hid jrd
    rw [if_neg (by decide), if_neg (fun h => by cases h), show (1 + 4 * (((1 : Nat) : Int) + 0)) = ((5 : Nat) : Int) by decide, page_new (by decide)]
  have RD := Lib.hid (jread_any w2 F2 gj g 1 (Dk.new 9) HT.out.has HJ.out S9.out.sz (by simp [Dk.new]) (by decide) (by simp [Dk.new]) 0)
  rw [PG.out] at RD
  go_wp2_with fail
  refine N1.out.mono ?_
  rintro e w3 ⟨rfl, rfl⟩
  go_wp2_with fail
  refine RD.out.mono ?_
  rintro e w3 ⟨rfl, b3⟩
  have B3 : Hid (Below w.heap.size w w3) := B2.out.trans (b3.mono B2.out.size)
  have T3 := Lib.hid (HT.out.post b3)
  have J3 : Hid (Jb w3 gj g 1) := HJ.out.below b3
  clear b3 RD N1 PG
  have Z1 : (Dk.rep 1024 0).size = 1024 := Dk.rep_size 1024 0
  have Z0 : (0 : Nat) < (Dk.rep 1024 0).size := by rw [Z1]; decide
  have ZV : (Dk.rep 1024 0)[0] = 0 := rfl
  obtain ⟨z, hz⟩ : ∃ z, z = Dk.rep 1024 0 := ⟨_, rfl⟩
  have FI := fun W => Lib.hid (filled_any W 0 0 3)
  rw [show Dk.rep (filledN 0) 3 = Dk.rep 1024 3 from rfl] at FI
  obtain ⟨s, hs⟩ : ∃ s, s = Dk.rep 1024 3 := ⟨_, rfl⟩
  rw [← hs] at FI
  have HS := Lib.hid hs
  clear hs
  have hz1 : z.size = 1024 := by rw [hz]; exact Z1
  have hz0 : z[0]'(by omega) = 0 := by subst hz; rfl
  rw [← hz]
  clear hz Z1 Z0 ZV
  go_wp2_with fail
  refine (FI w3).out.mono ?_
  rintro e w4 ⟨rfl, b4⟩
  have B4 : Hid (Below w.heap.size w w4) := B3.out.trans (b4.mono B3.out.size)
  have g2 := blk_new w4 (.cells #[.int .i64 0, .string s] 44)
  have b5 : Below w4.heap.size w4 (w4.alloc (.cells #[.int .i64 0, .string s] 44)) := (Below.refl _ w4).alloc (Nat.le_refl _) _
  have T5 := Lib.hid ((T3.out.post b4).post b5)
  have J5 : Hid (Jb (w4.alloc (.cells #[.int .i64 0, .string s] 44)) gj g 1) := (J3.out.below b4).below b5
  have RC : RdC (w4.alloc (.cells #[.int .i64 0, .string s] 44)) (some ⟨w4.heap.size, 0, none⟩) [(0, s)] := fun _ => ⟨w4.heap.size, 0, rfl, fun j hj => by
    obtain rfl : j = 0 := by simpa using hj
    have c0 := blk_cell g2 0; have c1 := blk_cell g2 1
    simp only [List.getElem?_toArray, List.getElem?_cons_zero, List.getElem?_cons_succ] at c0 c1
    exact ⟨c0, c1⟩⟩
  have CO := Lib.hid (commit_any _ F2 gj g 1 (Dk.new 9) T5.out.has J5.out NJ.out (by decide) (some ⟨w4.heap.size, 0, none⟩) 1 [(0, s)] RC (by simp) (fun x hx => by
    obtain rfl : x = (0, s) := by simpa using hx
    rw [HS.out, Dk.rep_size]; decide) (F9.out.mono (by simp)))
  have HB4 := Lib.hid B4.out; have SZ5 : Hid (w.heap.size ≤ (w4.alloc (.cells #[.int .i64 0, .string s] 44)).heap.size) := (B4.out.alloc B4.out.size _).size
  have B5 : Hid (Below w.heap.size w (w4.alloc (.cells #[.int .i64 0, .string s] 44))) := B4.out.alloc B4.out.size _
  clear b4 b5 g2 RC
  go_wp2_with fail
  refine CO.out.mono ?_
  rintro e w6 ⟨x, d6, F6, rfl, hc, ht⟩
  have B6 : Hid (Below w.heap.size w w6) := B5.out.trans (ht.touch.below SZ5.out HF2.out)
  rcases coto_calm hc C9.out (by decide) with ⟨h, _⟩ | ⟨_, _, h, _⟩ | ⟨_, rfl, _, hcm, hw, _, _⟩
  · exact absurd (by rw [HS.out]; exact why_one 3) h
  · cases h
  have WR := Lib.hid (writes_h ht.has)
  rw [hw] at WR
  clear hc ht hw CO hcm
  go_wp2_with fail
  refine WR.out.mono ?_
  rintro e w7 ⟨rfl, rfl⟩
  go_wp2
  go_ret
  exact ⟨rfl, B6.out⟩
end Go.Proofs.Ytpaabfadniakoaa
/- JnT: the walk of changes (written by gen_chg.py). -/
set_option linter.unusedVariables false
set_option linter.unusedSimpArgs false
namespace Go.Proofs.Ytpaabfadniakoaa
open Go.RowKit

abbrev PutM := Int × Int × UInt8
/-- Puts that are read. -/
def PutAt (w : World) (b off : Nat) (l : List PutM) : Prop := ∀ j (h : j < l.length), w.cell? ⟨b, off + j * 3, none⟩ = some (.int .i64 l[j].1) ∧ w.cell? ⟨b, off + j * 3 + 1, none⟩ = some (.int .i64 l[j].2.1) ∧ w.cell? ⟨b, off + j * 3 + 2, none⟩ = some (.int .u8 (l[j].2.2.toNat : Int))
def RdPut (w : World) (A : Option Addr) (l : List PutM) : Prop := 0 < l.length → ∃ b off, A = some ⟨b, off, none⟩ ∧ PutAt w b off l
theorem PutAt.below {B : Nat} {w w' : World} {b off : Nat} {l : List PutM} (h : PutAt w b off l) (hb : Below w.heap.size w w') : PutAt w' b off l := fun j hj => ⟨cell_below hb (h j hj).1, cell_below hb (h j hj).2.1, cell_below hb (h j hj).2.2⟩
def chP (x : PutM) : Int × ByteArray := (x.1, Dk.rep (filledN x.2.1) x.2.2)
def chK (l : List PutM) (k : Nat) : List (Int × ByteArray) := (l.take k).map chP
theorem chK_succ {l : List PutM} {k : Nat} (h : k < l.length) : chK l (k + 1) = chK l k ++ [chP l[k]] := by unfold chK; rw [List.take_succ_eq_append_getElem h, List.map_append]; rfl
theorem chK_len {l : List PutM} {k : Nat} (h : k ≤ l.length) : (chK l k).length = k := by unfold chK; rw [List.length_map, List.length_take]; omega
def civ : List (Int × ByteArray) → List Value
  | [] => []
  | h :: l => .int .i64 h.1 :: .string h.2 :: civ l
theorem civ_length : ∀ l, (civ l).length = l.length * 2
  | [] => rfl
  | h :: l => by simp [civ, civ_length l]; omega
theorem civ_append : ∀ a b, civ (a ++ b) = civ a ++ civ b
  | [], b => rfl
  | h :: a, b => by simp [civ, civ_append a b]
theorem civ_get : ∀ (l : List (Int × ByteArray)) (k : Nat) (h : k < l.length), (civ l)[k * 2]? = some (.int .i64 l[k].1) ∧ (civ l)[k * 2 + 1]? = some (.string l[k].2)
  | x :: l, 0, h => ⟨rfl, rfl⟩
  | x :: l, k + 1, h => by
    have := civ_get l k (by simpa using h)
    rw [show (k + 1) * 2 = k * 2 + 2 by omega, show k * 2 + 2 + 1 = k * 2 + 1 + 2 by omega]
    simpa [civ] using this
theorem infoRC : (Try.prog.info? 76).map (fun i => (i.zero, i.size, i.bytes)) = some (some (.agg #[.int .i64 0, .string ByteArray.empty]), 2, 24) := by kernel_rfl
theorem row_apart {W : World} {b1 b2 : Nat} {e1 e2 : TypeId} {s1 s2 n1 n2 : Nat} {v1 v2 : Value} {x1 x2 : List Value} (h1 : W.ownsRow b1 e1 s1 v1 n1 x1) (h2 : W.ownsRow b2 e2 s2 v2 n2 x2) (he : e1 ≠ e2) : v1.ownBlock = none ∨ v1.ownBlock ≠ v2.ownBlock := by
  rcases h1.2 with ⟨rfl, _⟩ | ⟨g1, c1, u1, rfl, _, k1, _⟩
  · exact .inl rfl
  · refine .inr fun e => ?_
    rcases h2.2 with ⟨rfl, _⟩ | ⟨g2, c2, u2, rfl, _, k2, _⟩
    · simp [Value.ownBlock] at e
    · simp [Value.ownBlock] at e
      subst e
      rw [k1] at k2
      injection k2 with k2
      injection k2 with _ k2 _
      exact he k2
/-- Changes in a row of one's own are read. -/
theorem rdC_own {w : World} {base : Nat} {A : Option Addr} {c : Nat} {l : List (Int × ByteArray)} (h : w.ownsRow base 44 2 (.slice A l.length c) l.length (civ l)) : RdC w A l := fun hp => by
  rcases h.2 with ⟨_, h0⟩ | ⟨g, cap, cur, e, _, hk, h1, _, h3, h4⟩
  · omega
  · injection e with e _ _
    subst e
    refine ⟨g, 0, rfl, fun j hj => ?_⟩
    obtain ⟨g1, g2⟩ := civ_get l j hj
    rw [← h4, List.getElem?_take_of_lt (by omega), Array.getElem?_toList] at g1
    rw [← h4, List.getElem?_take_of_lt (by omega), Array.getElem?_toList] at g2
    rw [Nat.zero_add, blk_cell hk, blk_cell hk]
    exact ⟨g1, g2⟩
set_option maxHeartbeats 3200000 in
set_option maxRecDepth 100000 in
theorem changes_any (w : World) (A : Option Addr) (c : Nat) (l : List PutM) (hl : RdPut w A l) (hn : l.length ≤ 9223372036854775807) :
    Calls Try.prog 18 #[.slice A l.length c] w fun e w' => ∃ va vb, e = .returned (.tuple #[va, vb]) ∧ w'.ownsRow w.heap.size 44 2 va (chK l 12).length (civ (chK l 12)) ∧ w'.ownsRow w.heap.size 76 2 vb (chK l 12).length (civ (chK l 12)) ∧ Below w.heap.size w w' := by
  obtain ⟨i0, hi, hz0, hz1, hz2⟩ := info_parts infoCh
  obtain ⟨j0, hj, hy0, hy1, hy2⟩ := info_parts infoRC
  have HL := Lib.hid hl
  clear hl
  go_enter Try.func18, Try.ntmps18
  go_wp2_with fail
  go_loopw [4, 5, 6] (fun va vb i wr => ∃ k : Nat, k ≤ 12 ∧ k ≤ l.length ∧ i = .int .i64 k ∧ Hid (wr.ownsRow w.heap.size 44 2 va k (civ (chK l k))) ∧ Hid (wr.ownsRow w.heap.size 76 2 vb k (civ (chK l k))) ∧ Hid (Below w.heap.size w wr)) (fun _ _ i _ => 12 - (intOf i).toNat)
  case atStart => exact ⟨0, by decide, Nat.zero_le _, rfl, World.ownsRow_nil _ _ _ _, World.ownsRow_nil _ _ _ _, Below.refl _ _⟩
  case round =>
    obtain ⟨k, hk, hkl, rfl, ha, hb, hB⟩ := hrel
    by_cases hlt : k < l.length
    · by_cases h12 : k < 12
      · obtain ⟨b, off, hA, hcs⟩ := HL.out (by omega)
        subst hA
        obtain ⟨z0, z1, z2⟩ := hcs k hlt
        have CS := Lib.hid (chK_succ hlt)
        generalize l[k] = x at z0 z1 z2 CS
        obtain ⟨t, ht⟩ : ∃ t, t = Dk.rep (filledN x.2.1) x.2.2 := ⟨_, rfl⟩
        have FI := fun W => Lib.hid (filled_any W x.1 x.2.1 x.2.2)
        rw [← ht] at FI
        rw [show chP x = (x.1, t) by rw [ht]; rfl] at CS
        have y0 := Lib.hid z0; have y1 := Lib.hid z1; have y2 := Lib.hid z2
        clear hcs z0 z1 z2 ht
        skip
        have d12 : decide ((k : Int) < 12) = true := by simp; omega
        have B0d1 : Hid (Below w.heap.size w wr.drew) := hB.out.drew
        have a1 := cell_below B0d1.out y0.out; have b1 := cell_below B0d1.out y1.out; have c1 := cell_below B0d1.out y2.out
        go_wp2_with fail
        refine wp_region_flag (fun w' => w'.cell? ⟨b, off + k * 3, none⟩ = some (.int .i64 x.1) ∧ w'.cell? ⟨b, off + k * 3 + 1, none⟩ = some (.int .i64 x.2.1) ∧ w'.cell? ⟨b, off + k * 3 + 2, none⟩ = some (.int .u8 (x.2.2.toNat : Int))) [(0, 1), (1, 1), (2, 1), (3, 1), (4, 1), (6, 1), (7, 1), (8, 1), (5, 2), (9, 0), (10, 0), (11, 1), (12, 0), (13, 0), (14, 1)] (by kernel_rfl) (by kernel_rfl) ⟨a1, b1, c1⟩ ?_
        simp only [ordered, List.map_cons, List.map_nil, List.getD_cons_zero, List.getD_cons_succ]
        repeat (refine wpF_dry (fun K hK => ?_); go_simp; refine hK _ ?_; clear hK K)
        refine wpF_read (.int .i64 x.1) rfl (fun w' hS => by obtain ⟨s1, s2, s3⟩ := hS; go_simp) (fun K hK => ?_)
        go_simp
        refine hK _ ?_
        clear hK K
        refine wpF_do ?_
        go_wp2_with fail
        refine ⟨⟨a1, b1, c1⟩, ?_⟩
        refine wpF_do ?_
        go_wp2_with fail
        refine (FI _).out.mono ?_
        rintro e w1 ⟨rfl, bx⟩
        have B11 : Hid (Below w.heap.size w w1) := B0d1.out.trans (bx.mono B0d1.out.size)
        have a51 := cell_below B11.out y0.out; have b51 := cell_below B11.out y1.out; have c51 := cell_below B11.out y2.out
        have O11 : Hid (w1.ownsRow w.heap.size 44 2 u4 k (civ (chK l k))) := own_touch ha.out.drew (Touch.of_below bx : Touch (fun _ => False) _ w1) (fun _ _ x => x)
        have P11 : Hid (w1.ownsRow w.heap.size 76 2 u5 k (civ (chK l k))) := own_touch hb.out.drew (Touch.of_below bx : Touch (fun _ => False) _ w1) (fun _ _ x => x)
        clear bx
        go_wp2_with fail
        refine ⟨⟨a51, b51, c51⟩, ?_⟩
        repeat (refine wpF_dry (fun K hK => ?_); go_simp; refine hK _ ?_; clear hK K)
        refine wpF_do ?_
        go_wp2_with fail
        have B21 : Hid (Below w.heap.size w (w1.alloc (.cells #[.int .i64 x.1, .string t] 44))) := B11.out.alloc B11.out.size _
        have a61 := cell_below B21.out y0.out; have b61 := cell_below B21.out y1.out; have c61 := cell_below B21.out y2.out
        refine ⟨⟨a61, b61, c61⟩, ?_⟩
        refine wpF_do ?_
        go_wp2_with (at_builtin; refine wpList_append_own_at _ rfl (.tmp 17) (.tmp 29) 39 rfl w.heap.size 44 i0 _ 2 24 Try.underlying39 hi hz0 hz1 hz2 rfl (by decide) _ k (civ (chK l k)) rfl (O11.out.alloc _) ⟨w1.heap.size, 0, none⟩ 1 1 [.int .i64 x.1, .string t] rfl rfl (two_new _ _ _ _) (by simp [Value.oneCell']) (by unfold maxLen; omega) (by omega) (by have := B11.out.size; simp; omega) ?_)
        intro n1 w3 ho2 hg2 _ _
        have O31 : Hid (w3.ownsRow w.heap.size 44 2 n1 (k + 1) (civ (chK l (k + 1)))) := by unfold Hid; rw [CS.out, civ_append]; exact ho2
        have P31 := Lib.hid ((P11.out.alloc (.cells #[.int .i64 x.1, .string t] 44)).kept hg2 (row_apart (P11.out.alloc (.cells #[.int .i64 x.1, .string t] 44)) (O11.out.alloc (.cells #[.int .i64 x.1, .string t] 44)) (by decide)))
        have B3 : Hid (Below w.heap.size w w3) := B21.out.grown hg2 B21.out.size (fun j hj => ((O11.out.alloc (.cells #[.int .i64 x.1, .string t] 44)).lt j hj).1)
        have a71 := cell_below B3.out y0.out; have b71 := cell_below B3.out y1.out; have c71 := cell_below B3.out y2.out
        clear ho2 hg2
        go_wp2_with fail
        refine ⟨⟨a71, b71, c71⟩, ?_⟩
        repeat (refine wpF_dry (fun K hK => ?_); go_simp; refine hK _ ?_; clear hK K)
        refine wpF_nil ?_
        clear a1 b1 c1 a51 b51 c51 a61 b61 c61 a71 b71 c71
        have B0d2 : Hid (Below w.heap.size w w3.drew) := B3.out.drew
        have a2 := cell_below B0d2.out y0.out; have b2 := cell_below B0d2.out y1.out; have c2 := cell_below B0d2.out y2.out
        go_wp2_with fail
        refine wp_region_flag (fun w' => w'.cell? ⟨b, off + k * 3, none⟩ = some (.int .i64 x.1) ∧ w'.cell? ⟨b, off + k * 3 + 1, none⟩ = some (.int .i64 x.2.1) ∧ w'.cell? ⟨b, off + k * 3 + 2, none⟩ = some (.int .u8 (x.2.2.toNat : Int))) [(0, 1), (1, 1), (2, 1), (3, 1), (4, 1), (6, 1), (7, 1), (8, 1), (5, 2), (9, 0), (10, 0), (11, 1), (12, 0), (13, 0), (14, 1)] (by kernel_rfl) (by kernel_rfl) ⟨a2, b2, c2⟩ ?_
        simp only [ordered, List.map_cons, List.map_nil, List.getD_cons_zero, List.getD_cons_succ]
        repeat (refine wpF_dry (fun K hK => ?_); go_simp; refine hK _ ?_; clear hK K)
        refine wpF_read (.int .i64 x.1) rfl (fun w' hS => by obtain ⟨s1, s2, s3⟩ := hS; go_simp) (fun K hK => ?_)
        go_simp
        refine hK _ ?_
        clear hK K
        refine wpF_do ?_
        go_wp2_with fail
        refine ⟨⟨a2, b2, c2⟩, ?_⟩
        refine wpF_do ?_
        go_wp2_with fail
        refine (FI _).out.mono ?_
        rintro e w4 ⟨rfl, bx⟩
        have B12 : Hid (Below w.heap.size w w4) := B0d2.out.trans (bx.mono B0d2.out.size)
        have a52 := cell_below B12.out y0.out; have b52 := cell_below B12.out y1.out; have c52 := cell_below B12.out y2.out
        have O12 : Hid (w4.ownsRow w.heap.size 76 2 u5 k (civ (chK l k))) := own_touch P31.out.drew (Touch.of_below bx : Touch (fun _ => False) _ w4) (fun _ _ x => x)
        have P12 : Hid (w4.ownsRow w.heap.size 44 2 n1 (k + 1) (civ (chK l (k + 1)))) := own_touch O31.out.drew (Touch.of_below bx : Touch (fun _ => False) _ w4) (fun _ _ x => x)
        clear bx
        go_wp2_with fail
        refine ⟨⟨a52, b52, c52⟩, ?_⟩
        repeat (refine wpF_dry (fun K hK => ?_); go_simp; refine hK _ ?_; clear hK K)
        refine wpF_do ?_
        go_wp2_with fail
        have B22 : Hid (Below w.heap.size w (w4.alloc (.cells #[.int .i64 x.1, .string t] 76))) := B12.out.alloc B12.out.size _
        have a62 := cell_below B22.out y0.out; have b62 := cell_below B22.out y1.out; have c62 := cell_below B22.out y2.out
        refine ⟨⟨a62, b62, c62⟩, ?_⟩
        refine wpF_do ?_
        go_wp2_with (at_builtin; refine wpList_append_own_at _ rfl (.tmp 31) (.tmp 43) 40 rfl w.heap.size 76 j0 _ 2 24 Try.underlying40 hj hy0 hy1 hy2 rfl (by decide) _ k (civ (chK l k)) rfl (O12.out.alloc _) ⟨w4.heap.size, 0, none⟩ 1 1 [.int .i64 x.1, .string t] rfl rfl (two_new _ _ _ _) (by simp [Value.oneCell']) (by unfold maxLen; omega) (by omega) (by have := B12.out.size; simp; omega) ?_)
        intro n2 w6 ho2 hg2 _ _
        have O32 : Hid (w6.ownsRow w.heap.size 76 2 n2 (k + 1) (civ (chK l (k + 1)))) := by unfold Hid; rw [CS.out, civ_append]; exact ho2
        have P32 := Lib.hid ((P12.out.alloc (.cells #[.int .i64 x.1, .string t] 76)).kept hg2 (row_apart (P12.out.alloc (.cells #[.int .i64 x.1, .string t] 76)) (O12.out.alloc (.cells #[.int .i64 x.1, .string t] 76)) (by decide)))
        have B3b : Hid (Below w.heap.size w w6) := B22.out.grown hg2 B22.out.size (fun j hj => ((O12.out.alloc (.cells #[.int .i64 x.1, .string t] 76)).lt j hj).1)
        have a72 := cell_below B3b.out y0.out; have b72 := cell_below B3b.out y1.out; have c72 := cell_below B3b.out y2.out
        clear ho2 hg2
        go_wp2_with fail
        refine ⟨⟨a72, b72, c72⟩, ?_⟩
        repeat (refine wpF_dry (fun K hK => ?_); go_simp; refine hK _ ?_; clear hK K)
        refine wpF_nil ?_
        clear a2 b2 c2 a52 b52 c52 a62 b62 c62 a72 b72 c72
        go_wp2
        go_roundw
        case rel => first | exact ⟨k + 1, h12, hlt, by go_num, P32, O32, B3b⟩ | ((repeat apply Exists.intro); refine ⟨?_, rfl⟩; exact ⟨k + 1, h12, hlt, by go_num, P32, O32, B3b⟩)
        case measure => simp [intOf]; omega
      · have hk12 : k = 12 := by omega
        subst hk12
        have EL := chK_len hkl
        go_wp2
        go_ret2
        refine ⟨_, _, rfl, ?_, ?_, hB.out⟩
        · rw [EL]; exact ha.out
        · rw [EL]; exact hb.out
    · have hkl2 : k = l.length := by omega
      subst hkl2
      have ES : Hid (chK l 12 = chK l l.length) := by
        unfold Hid chK
        first | rfl | rw [List.take_of_length_le (by omega), List.take_of_length_le (by omega)]
      have EL := chK_len hkl
      go_wp2
      go_ret2
      refine ⟨_, _, rfl, ?_, ?_, hB.out⟩
      · rw [ES.out, EL]; exact ha.out
      · rw [ES.out, EL]; exact hb.out
end Go.Proofs.Ytpaabfadniakoaa
/- JnU: a store at rest, and what commits leave of it. -/
set_option linter.unusedVariables false
set_option linter.unusedSimpArgs false
namespace Go.Proofs.Ytpaabfadniakoaa
open Go.RowKit

/-- A store at rest: no fuse, nothing waits, the mark tells nothing. -/
structure Rest (P : Nat) (d : Dk) : Prop where
  calm : Calm d
  sz : Sz d
  len : d.l.length = 8 * P + 1
  waits : d.waits = []
  mark : d.l[0]? = some Dk.sector0
theorem Rest.sto {P : Nat} {d : Dk} (h : Rest P d) : Sto P d := ⟨h.calm.ok, h.sz, by rw [h.len]; exact Nat.le_refl _, h.calm.up⟩
theorem rest_new {P : Nat} (hP : P ≤ 128) : Rest P (Dk.new (8 * P + 1)) := ⟨calm_new (by omega) (by omega), sz_new _, by simp [Dk.new], rfl, by simp [Dk.new]⟩
theorem exs_ends (s : List ByteArray × List Stp) (a : List Stp) : (exs s (a ++ [flushS])).2 = [] := by rw [exs_append, exs_flush]
theorem exs_mark (l : List ByteArray) (z : ByteArray) : exs (l, []) ([(0, z)] ++ [flushS]) = (l.set 0 z, []) := by
  have h0 : ∀ x ∈ ([(0, z)] : List Stp), 0 ≤ x.1 := fun x hx => by
    obtain rfl : x = (0, z) := by simpa using hx
    exact Int.le_refl _
  rw [exs_append, exs_writes l [(0, z)] [] h0, exs_flush]
  rfl
theorem exs_commit (P : Nat) (M : List Chg) (s : List ByteArray × List Stp) : ∃ l' : List ByteArray, exs s (commitK P M) = (l'.set 0 Dk.sector0, []) := by
  unfold commitK
  rw [exs_append]
  have h2 : (exs s (stepsA M ++ [flushS] ++ ([(0, mkB M)] ++ [flushS]) ++ (stepsB P M ++ [flushS]))).2 = [] := by
    rw [← List.append_assoc _ (stepsB P M) [flushS]]
    exact exs_ends _ _
  generalize exs s (stepsA M ++ [flushS] ++ ([(0, mkB M)] ++ [flushS]) ++ (stepsB P M ++ [flushS])) = t at h2
  obtain ⟨l', w'⟩ := t
  obtain rfl : w' = [] := h2
  exact ⟨l', exs_mark l' _⟩
theorem commit_mem {P : Nat} {l : List (Int × ByteArray)} (h : whyE P l = 0) {M : List Chg} (hp : (M.map upc).Perm l) : ∀ c ∈ M, c.1 < P ∧ c.2.size = 1024 := fun c hc => by
  have := why_each h (upc c) (hp.mem_iff.1 (List.mem_map_of_mem hc))
  unfold upc at this
  simp only at this
  omega
theorem rest_run {P : Nat} {d : Dk} (hr : Rest P d) {M : List Chg} (hM : ∀ c ∈ M, c.1 < P ∧ c.2.size = 1024) : (run d (commitK P M)).2 = 0 ∧ Rest P (run d (commitK P M)).1 ∧ (run d (commitK P M)).1.writes = d.writes + (8 * M.length + 2 : Nat) := by
  have hc := commitK_can (P := P) hM (Nat.le_of_eq hr.len.symm)
  obtain ⟨k1, k2, k3, k4⟩ := run_calm (commitK P M) hr.calm hc
  rw [commitK_nwr] at k3
  obtain ⟨k, hk, he, hl, h⟩ := run_shape (commitK P M) hr.calm.ok hc
  rcases h with ⟨_, rfl⟩ | ⟨h, _⟩
  · rw [List.take_length] at he
    obtain ⟨l', hl'⟩ := exs_commit P M (d.l, d.waits)
    rw [hl'] at he
    injection he with e1 e2
    refine ⟨k1, ⟨k2, sz_run _ hr.sz, by rw [k4, hr.len], e2, ?_⟩, k3⟩
    have : (run d (commitK P M)).1.l.length = l'.length := by rw [e1, List.length_set]
    rw [k4, hr.len] at this
    rw [e1, List.getElem?_set_self (by omega)]
  · rw [k1] at h; exact absurd h (by decide)
theorem rest_coto {P : Nat} {d : Dk} (hr : Rest P d) {l : List (Int × ByteArray)} {x : Int} {d' : Dk} (h : CoTo P d l x d') : Rest P d' ∧ d'.writes ≤ d.writes + (8 * l.length + 2 : Nat) := by
  cases h with
  | why h => exact ⟨hr, by omega⟩
  | down h hd => exact ⟨hr, by omega⟩
  | none h hd hl => exact ⟨hr, by omega⟩
  | run h hd hl M hM hp =>
    obtain ⟨_, k2, k3⟩ := rest_run hr (commit_mem h hp)
    have hlen : M.length = l.length := by rw [← hp.length_eq, List.length_map]
    refine ⟨k2, ?_⟩
    rw [k3, hlen]
    omega
/-- Its mark is read as nothing told. -/
theorem rest_read0 {P : Nat} {d : Dk} (hr : Rest P d) : (d.read 0) = (Dk.sector0, 0) := by
  have hu : d.use 0 = 0 := by unfold Dk.use; rw [if_neg (by rw [hr.calm.up]; decide), if_neg (by have := hr.len; omega)]
  unfold Dk.read
  rw [if_pos hu, hr.waits, Dk.look, List.getD_eq_getElem?_getD, show (0 : Int).toNat = 0 from rfl, hr.mark]
  rfl
theorem rest_open {P : Nat} {d : Dk} (hr : Rest P d) : run d (openK P d (d.read 0).1) = (d, 0) := by rw [rest_read0 hr, openK_zero]; rfl
/-- It fails, and starts. -/
theorem rest_again {P : Nat} {d : Dk} (hr : Rest P d) (p : List Bool) : (d.fail p).startE = 0 ∧ Rest P (d.fail p).start ∧ (d.fail p).start.l = d.l := by
  have e : (d.fail p).l = d.l := by
    show Dk.settle _ 0 d.waits d.l = d.l
    rw [hr.waits]
    rfl
  have e0 : (d.fail p).startE = 0 := by unfold Dk.startE; rw [if_pos ⟨rfl, rfl⟩]
  have e1 : (d.fail p).start = { d.fail p with down := false } := by unfold Dk.start; rw [if_pos e0]
  refine ⟨e0, ?_, by rw [e1]; exact e⟩
  have ok := (hr.calm.ok.fail p).start
  have sz := sz_start (sz_fail hr.sz p)
  rw [e1] at ok sz ⊢
  exact ⟨⟨ok, rfl, rfl⟩, sz, by show (d.fail p).l.length = _; rw [e]; exact hr.len, rfl, by show (d.fail p).l[0]? = _; rw [e]; exact hr.mark⟩
theorem page_same {d e : Dk} (hl : d.l = e.l) (hw : d.waits = e.waits) (hd : d.down = e.down) (p : Int) : pageB d p = pageB e p := by
  have hu : ∀ i, d.use i = e.use i := fun i => by unfold Dk.use; rw [hl, hd]
  have : ∀ n, rdK d p n = rdK e p n := fun n => by
    induction n with
    | zero => rfl
    | succ n ih =>
      rw [rdK, rdK, ih]
      unfold Dk.read
      rw [hu, hl, hw]
  unfold pageB
  rw [this]
end Go.Proofs.Ytpaabfadniakoaa
