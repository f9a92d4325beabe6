/- ShN: tidy where nothing fits (written by gen_shn.py). -/
import Derived.Test.YtoolkamajlgcbaaMr13
import Derived.ArgAppend
set_option linter.unusedVariables false
set_option linter.unusedSimpArgs false
namespace Go.Proofs.Ytoolkamajlgcbaa
open Go.RowKit

/-- A leaf and the next one don't fit into one. -/
def NoFit (sh : List (Nat × PL)) (k : Int) : Prop := ∀ n : Nat, k = (n : Int) → n + 1 < sh.length → 1020 < szL (lfA sh n) + szL (lfA sh (n + 1))
set_option maxHeartbeats 6400000 in
set_option maxRecDepth 100000 in
theorem tidy_none (w : World) (gs : Nat) (sh : List (Nat × PL)) (hs : ShRd w gs sh) (hp : 0 < sh.length) (hn : sh.length ≤ 1000000) (hsm : ∀ i, i < sh.length → Small (lfA sh i)) (hb1 : ∀ i, i < sh.length → szL (lfA sh i) ≤ 1000000) (i : Nat) (hi : i ≤ sh.length) (h1 : NoFit sh (i : Int)) (h2 : NoFit sh ((i : Int) - 1)) :
    Calls Try.prog 39 #[.pointer (some ⟨gs, 0, none⟩), .int .i64 (i : Int)] w fun e w' => e = .returned (.tuple #[]) ∧ Below w.heap.size w w' := by
  have HS := Lib.hid hs; have HSM := Lib.hid hsm; have HB1 := Lib.hid hb1
  obtain ⟨A, c, g1, g2, g3⟩ := hs
  obtain ⟨b, o, rfl, hc⟩ := g3 hp
  obtain ⟨W1, hW1⟩ : ∃ W1, W1 = w.alloc (.cells #[.int .i64 (i : Int), .int .i64 ((i : Int) - 1)] 3) := ⟨_, rfl⟩
  have Q1 : Hid (Below w.heap.size w W1) := by rw [hW1]; exact (Below.refl _ w).alloc (Nat.le_refl _) _
  have hbk : W1.heap[w.heap.size]? = some (.cells #[.int .i64 (i : Int), .int .i64 ((i : Int) - 1)] 3 (0, 0)) := by rw [hW1]; exact blk_new w _
  have YY : Hid (∀ j, j < 2 → ∃ kk : Int, W1.cell? ⟨w.heap.size, j, none⟩ = some (.int .i64 kk) ∧ NoFit sh kk ∧ -1 ≤ kk ∧ kk ≤ sh.length) := fun j hj => by
    have y0 := blk_cell hbk 0; have y1 := blk_cell hbk 1
    simp at y0 y1
    match j, hj with
    | 0, _ => exact ⟨_, y0, h1, by omega, by omega⟩
    | 1, _ => exact ⟨_, y1, h2, by omega, by omega⟩
  have HC := Lib.hid hc
  have HG1 := Lib.hid g1
  clear hbk hsm hb1 h1 h2 hc g3 g1
  go_enter Try.func39, Try.ntmps39
  go_wp2_with fail
  rw [← hW1]
  clear hW1
  go_loopw [11] (fun iv wr => ∃ j : Nat, j ≤ 2 ∧ iv = .int .i64 j ∧ Hid (Below W1.heap.size W1 wr)) (fun iv _ => 2 - (intOf iv).toNat)
  case atStart => exact ⟨0, by decide, rfl, Below.refl _ _⟩
  case round =>
    obtain ⟨j, hj, rfl, hb⟩ := hrel
    have BW : Hid (Below w.heap.size w wr) := Q1.out.trans (hb.out.mono Q1.out.size)
    by_cases hj2 : j < 2
    · obtain ⟨kk, y0, hno, hk1, hk2⟩ := YY.out j hj2
      replace y0 := cell_below hb.out y0
      have c1 := cell_below BW.out HG1.out
      have c1d : wr.drew.cell? ⟨gs, 1, none⟩ = some (.slice (some ⟨b, o, none⟩) sh.length c) := c1
      have hjl : (j : Int) < 2 := by omega
      by_cases hneg : kk < 0
      · have dk : decide (0 ≤ kk) = false := by simp; omega
        have wr1 : IntKind.i64.wrap (kk + 1) = kk + 1 := by rw [IntKind.wrap_i64]; omega
        clear hno
        go_wp2_with fail
        refine wp_region_flag (fun w' => w'.cell? ⟨gs, 1, none⟩ = some (.slice (some ⟨b, o, none⟩) sh.length c)) [(0, 1), (1, 1), (2, 1), (3, 1), (4, 1), (5, 1), (6, 1), (7, 1), (8, 0), (9, 1), (10, 1), (11, 1), (12, 1), (13, 1), (14, 1), (15, 1), (17, 1), (22, 1), (23, 1), (24, 1), (26, 1), (27, 1), (16, 2), (18, 1), (19, 1), (20, 2), (25, 2), (28, 1), (29, 1), (30, 2), (21, 0), (31, 0), (32, 1), (33, 1), (34, 1)] (by kernel_rfl) (by kernel_rfl) c1d ?_
        simp only [ordered, List.map_cons, List.map_nil, List.getD_cons_zero, List.getD_cons_succ]
        repeat (refine wpF_dry (fun K hK => ?_); go_simp; refine hK _ ?_; clear hK K)
        refine wpF_do ?_
        go_wp2_with fail
        refine ⟨c1d, ?_⟩
        repeat (refine wpF_dry (fun K hK => ?_); go_simp; refine hK _ ?_; clear hK K)
        refine wpF_skip (fun K hK => ?_)
        go_simp
        refine hK _ ?_
        clear hK K
        repeat (refine wpF_dry (fun K hK => ?_); go_simp; refine hK _ ?_; clear hK K)
        refine wpF_skip (fun K hK => ?_)
        go_simp
        refine hK _ ?_
        clear hK K
        refine wpF_skip (fun K hK => ?_)
        go_simp
        refine hK _ ?_
        clear hK K
        repeat (refine wpF_dry (fun K hK => ?_); go_simp; refine hK _ ?_; clear hK K)
        refine wpF_skip (fun K hK => ?_)
        go_simp
        refine hK _ ?_
        clear hK K
        refine wpF_do ?_
        go_wp2_with fail
        refine ⟨c1d, ?_⟩
        refine wpF_do ?_
        go_wp2_with fail
        refine ⟨c1d, ?_⟩
        repeat (refine wpF_dry (fun K hK => ?_); go_simp; refine hK _ ?_; clear hK K)
        have B2 := Lib.hid hb.out.drew
        refine wpF_nil ?_
        go_wp2
        go_roundw
        case rel => first | exact ⟨j + 1, by omega, by go_num, B2⟩ | ((repeat apply Exists.intro); refine ⟨?_, rfl⟩; exact ⟨j + 1, by omega, by go_num, B2⟩)
        case measure => simp [intOf]; omega
      · obtain ⟨k, rfl⟩ := Int.eq_ofNat_of_zero_le (show 0 ≤ kk by omega)
        have dk : decide (0 ≤ (k : Int)) = true := by simp
        have wr1 : IntKind.i64.wrap ((k : Int) + 1) = (k : Int) + 1 := by rw [IntKind.wrap_i64]; omega
        by_cases hlast : k + 1 < sh.length
        · have hno2 := hno k rfl hlast
          obtain ⟨_, A1, c1, u1, _, r1⟩ := HC.out k (by omega)
          obtain ⟨_, A2, c2, u2, _, r2⟩ := HC.out (k + 1) hlast
          rw [← lfA_get (show k < sh.length by omega)] at u1 r1
          rw [← lfA_get hlast] at u2 r2
          have sm1 := HSM.out k (by omega); have sm2 := HSM.out (k + 1) hlast
          have sb1 := HB1.out k (by omega); have sb2 := HB1.out (k + 1) hlast
          have u1d : wr.drew.cell? ⟨b, o + k * 2 + 1, none⟩ = some (.slice A1 (lfA sh k).length c1) := cell_below BW.out u1
          have u2d : wr.drew.cell? ⟨b, o + (k + 1) * 2 + 1, none⟩ = some (.slice A2 (lfA sh (k + 1)).length c2) := cell_below BW.out u2
          have SZ1 := Lib.hid (sizes_any wr.drew A1 (lfA sh k).length c1 (lfA sh k) rfl ((r1.below BW.out).below (Below.refl _ wr).drew) sm1)
          have SZ2 := fun W (hW : Below wr.drew.heap.size wr.drew W) => Lib.hid (sizes_any W A2 (lfA sh (k + 1)).length c2 (lfA sh (k + 1)) rfl (((r2.below BW.out).below (Below.refl _ wr).drew).below hW) sm2)
          generalize lfA sh k = l1 at u1d SZ1 hno2 sb1
          generalize lfA sh (k + 1) = l2 at u2d SZ2 hno2 sb2
          generalize szL l1 = z1 at SZ1 hno2 sb1
          generalize szL l2 = z2 at SZ2 hno2 sb2
          have hkl : (k : Int) < (sh.length : Int) := by omega
          have hkl2 : (k : Int) + 1 < (sh.length : Int) := by omega
          have dkl : decide ((k : Int) + 1 < (sh.length : Int)) = true := by simp; omega
          have dz : decide ((z1 : Int) + (z2 : Int) ≤ 1020) = false := by simp; omega
          have wr2 : IntKind.i64.wrap ((z1 : Int) + (z2 : Int)) = (z1 : Int) + (z2 : Int) := by rw [IntKind.wrap_i64]; omega
          have hk0 : (0 : Int) ≤ (k : Int) + 1 := by omega
          have htn : ((k : Int) + 1).toNat = k + 1 := by omega
          clear hno r1 r2 u1 u2 sm1 sm2
          go_wp2_with fail
          refine wp_region_flag (fun w' => w'.cell? ⟨gs, 1, none⟩ = some (.slice (some ⟨b, o, none⟩) sh.length c) ∧ w'.cell? ⟨b, o + k * 2 + 1, none⟩ = some (.slice A1 l1.length c1) ∧ w'.cell? ⟨b, o + (k + 1) * 2 + 1, none⟩ = some (.slice A2 l2.length c2)) [(0, 1), (1, 1), (2, 1), (3, 1), (4, 1), (5, 1), (6, 1), (7, 1), (8, 0), (9, 1), (10, 1), (11, 1), (12, 1), (13, 1), (14, 1), (15, 1), (17, 1), (22, 1), (23, 1), (24, 1), (26, 1), (27, 1), (16, 2), (18, 1), (19, 1), (20, 2), (25, 2), (28, 1), (29, 1), (30, 2), (21, 0), (31, 0), (32, 1), (33, 1), (34, 1)] (by kernel_rfl) (by kernel_rfl) ⟨c1d, u1d, u2d⟩ ?_
          simp only [ordered, List.map_cons, List.map_nil, List.getD_cons_zero, List.getD_cons_succ]
          repeat (refine wpF_dry (fun K hK => ?_); go_simp; refine hK _ ?_; clear hK K)
          refine wpF_do ?_
          go_wp2_with fail
          refine ⟨⟨c1d, u1d, u2d⟩, ?_⟩
          repeat (refine wpF_dry (fun K hK => ?_); go_simp; refine hK _ ?_; clear hK K)
          refine wpF_read (.slice (some ⟨b, o, none⟩) sh.length c) rfl (fun w' hS => by obtain ⟨s1, s2, s3⟩ := hS; go_simp) (fun K hK => ?_)
          go_simp
          refine hK _ ?_
          clear hK K
          repeat (refine wpF_dry (fun K hK => ?_); go_simp; refine hK _ ?_; clear hK K)
          refine wpF_read (.slice A1 l1.length c1) rfl (fun w' hS => by obtain ⟨s1, s2, s3⟩ := hS; go_simp) (fun K hK => ?_)
          go_simp
          refine hK _ ?_
          clear hK K
          refine wpF_read (.slice (some ⟨b, o, none⟩) sh.length c) rfl (fun w' hS => by obtain ⟨s1, s2, s3⟩ := hS; go_simp) (fun K hK => ?_)
          go_simp
          refine hK _ ?_
          clear hK K
          repeat (refine wpF_dry (fun K hK => ?_); go_simp; refine hK _ ?_; clear hK K)
          refine wpF_read (.slice A2 l2.length c2) rfl (fun w' hS => by obtain ⟨s1, s2, s3⟩ := hS; go_simp) (fun K hK => ?_)
          go_simp
          refine hK _ ?_
          clear hK K
          refine wpF_do ?_
          go_wp2_with fail
          refine SZ1.out.mono ?_
          rintro e w3 ⟨rfl, q3⟩
          have SZ3 := SZ2 w3 q3
          have c1e := cell_below q3 c1d; have u1e := cell_below q3 u1d; have u2e := cell_below q3 u2d
          have B3 : Hid (Below W1.heap.size W1 w3) := hb.out.drew.trans (q3.mono hb.out.drew.size)
          clear q3 SZ1 SZ2 c1d u1d u2d
          go_wp2_with fail
          refine ⟨⟨c1e, u1e, u2e⟩, ?_⟩
          refine wpF_do ?_
          go_wp2_with fail
          refine SZ3.out.mono ?_
          rintro e w4 ⟨rfl, q4⟩
          have c1f := cell_below q4 c1e; have u1f := cell_below q4 u1e; have u2f := cell_below q4 u2e
          have B2 : Hid (Below W1.heap.size W1 w4) := B3.out.trans (q4.mono B3.out.size)
          clear q4 SZ3 c1e u1e u2e
          go_wp2_with fail
          refine ⟨⟨c1f, u1f, u2f⟩, ?_⟩
          repeat (refine wpF_dry (fun K hK => ?_); go_simp; refine hK _ ?_; clear hK K)
          refine wpF_nil ?_
          go_wp2
          go_roundw
          case rel => first | exact ⟨j + 1, by omega, by go_num, B2⟩ | ((repeat apply Exists.intro); refine ⟨?_, rfl⟩; exact ⟨j + 1, by omega, by go_num, B2⟩)
          case measure => simp [intOf]; omega
        · have dkl : decide ((k : Int) + 1 < (sh.length : Int)) = false := by simp; omega
          clear hno
          go_wp2_with fail
          refine wp_region_flag (fun w' => w'.cell? ⟨gs, 1, none⟩ = some (.slice (some ⟨b, o, none⟩) sh.length c)) [(0, 1), (1, 1), (2, 1), (3, 1), (4, 1), (5, 1), (6, 1), (7, 1), (8, 0), (9, 1), (10, 1), (11, 1), (12, 1), (13, 1), (14, 1), (15, 1), (17, 1), (22, 1), (23, 1), (24, 1), (26, 1), (27, 1), (16, 2), (18, 1), (19, 1), (20, 2), (25, 2), (28, 1), (29, 1), (30, 2), (21, 0), (31, 0), (32, 1), (33, 1), (34, 1)] (by kernel_rfl) (by kernel_rfl) c1d ?_
          simp only [ordered, List.map_cons, List.map_nil, List.getD_cons_zero, List.getD_cons_succ]
          repeat (refine wpF_dry (fun K hK => ?_); go_simp; refine hK _ ?_; clear hK K)
          refine wpF_do ?_
          go_wp2_with fail
          refine ⟨c1d, ?_⟩
          repeat (refine wpF_dry (fun K hK => ?_); go_simp; refine hK _ ?_; clear hK K)
          refine wpF_skip (fun K hK => ?_)
          go_simp
          refine hK _ ?_
          clear hK K
          repeat (refine wpF_dry (fun K hK => ?_); go_simp; refine hK _ ?_; clear hK K)
          refine wpF_skip (fun K hK => ?_)
          go_simp
          refine hK _ ?_
          clear hK K
          refine wpF_skip (fun K hK => ?_)
          go_simp
          refine hK _ ?_
          clear hK K
          repeat (refine wpF_dry (fun K hK => ?_); go_simp; refine hK _ ?_; clear hK K)
          refine wpF_skip (fun K hK => ?_)
          go_simp
          refine hK _ ?_
          clear hK K
          refine wpF_do ?_
          go_wp2_with fail
          refine ⟨c1d, ?_⟩
          refine wpF_do ?_
          go_wp2_with fail
          refine ⟨c1d, ?_⟩
          repeat (refine wpF_dry (fun K hK => ?_); go_simp; refine hK _ ?_; clear hK K)
          have B2 := Lib.hid hb.out.drew
          refine wpF_nil ?_
          go_wp2
          go_roundw
          case rel => first | exact ⟨j + 1, by omega, by go_num, B2⟩ | ((repeat apply Exists.intro); refine ⟨?_, rfl⟩; exact ⟨j + 1, by omega, by go_num, B2⟩)
          case measure => simp [intOf]; omega
    · have hj3 : j = 2 := by omega
      subst hj3
      go_wp2
      go_end0
      exact ⟨rfl, BW.out⟩
end Go.Proofs.Ytoolkamajlgcbaa
/- ShO: a shelf that is written: its leaves' row, the rows of entries (which are never written again). -/
set_option linter.unusedVariables false
set_option linter.unusedSimpArgs false
namespace Go.Proofs.Ytoolkamajlgcbaa
open Go.RowKit

structure Lf where
  id : Nat
  l : PL
  A : Option Addr
  c : Nat
def lvv : List Lf → List Value
  | [] => []
  | x :: r => .int .i64 (x.id : Int) :: .slice x.A x.l.length x.c :: lvv r
theorem lvv_len : ∀ L : List Lf, (lvv L).length = L.length * 2
  | [] => rfl
  | x :: r => by simp only [lvv, List.length_cons, lvv_len r]; omega
theorem lvv_get : ∀ (L : List Lf) (k : Nat) (h : k < L.length), (lvv L)[k * 2]? = some (.int .i64 (L[k].id : Int)) ∧ (lvv L)[k * 2 + 1]? = some (.slice L[k].A L[k].l.length L[k].c)
  | x :: r, 0, _ => ⟨rfl, rfl⟩
  | x :: r, k + 1, h => by
    have := lvv_get r k (by simpa using h)
    rw [show (k + 1) * 2 = k * 2 + 2 by omega]
    exact this
theorem lvv_append : ∀ a b : List Lf, lvv (a ++ b) = lvv a ++ lvv b
  | [], b => rfl
  | x :: a, b => by simp only [List.cons_append, lvv, lvv_append a b]
theorem lvv_set : ∀ (L : List Lf) (k : Nat) (x : Lf) (h : k < L.length), x.id = L[k].id → lvv (L.set k x) = (lvv L).set (k * 2 + 1) (.slice x.A x.l.length x.c)
  | y :: r, 0, x, _, e => by
    have e' : x.id = y.id := e
    simp only [List.set_cons_zero, lvv, Nat.zero_mul, Nat.zero_add, List.set_cons_succ, e']
  | y :: r, k + 1, x, h, e => by
    have := lvv_set r k x (by simpa using h) (by simpa using e)
    rw [show (k + 1) * 2 + 1 = k * 2 + 1 + 1 + 1 by omega]
    simp only [List.set_cons_succ, lvv, this]
def shP (L : List Lf) : List (Nat × PL) := L.map (fun x => (x.id, x.l))
theorem shP_len (L : List Lf) : (shP L).length = L.length := List.length_map ..
theorem lfA_shP {L : List Lf} {k : Nat} (h : k < L.length) : lfA (shP L) k = L[k].l := by
  rw [lfA_get (by rw [shP_len]; exact h)]
  simp [shP]
/-- A row of leaves; its block may be longer than the slice's capacity. -/
def LRow (w : World) (base : Nat) (v : Value) (L : List Lf) : Prop := (v = .slice none 0 0 ∧ L = []) ∨ ∃ g cap cur, v = .slice (some ⟨g, 0, none⟩) L.length cap ∧ base ≤ g ∧ w.heap[g]? = some (.cells cur 82 (0, 0)) ∧ L.length ≤ cap ∧ cap ≤ maxLen ∧ cap * 2 ≤ cur.size ∧ cur.toList.take (L.length * 2) = lvv L ∧ (L = [] → cap = 0)
/-- A block of entries. -/
def PBlk (w : World) (b : Nat) : Prop := ∃ cur, w.heap[b]? = some (.cells cur 47 (0, 0))
def LfRd (w : World) (x : Lf) : Prop := RdPr w x.A x.l ∧ x.l.length ≤ x.c ∧ ∀ b o, x.A = some ⟨b, o, none⟩ → PBlk w b
structure ShO (w : World) (base gs gj : Nat) (v : Value) (L : List Lf) : Prop where
  box : ShB w gs gj v
  row : LRow w base v L
  rd : ∀ x ∈ L, LfRd w x
theorem own_lrow {w : World} {base : Nat} {v : Value} {L : List Lf} (h : w.ownsRow base 82 2 v L.length (lvv L)) (hp : 0 < L.length) : LRow w base v L := by
  rcases h.2 with ⟨e, h0⟩ | ⟨g, cap, cur, e, hb, hk, h1, hm, h2, h3⟩
  · exact .inl ⟨e, List.eq_nil_of_length_eq_zero h0⟩
  · exact .inr ⟨g, cap, cur, e, hb, hk, h1, hm, by omega, h3, fun e => by rw [e] at hp; simp at hp⟩
theorem LfRd.touch {S : Nat → Prop} {w w' : World} {x : Lf} (h : LfRd w x) (ht : Touch S w w') (hS : ∀ b, PBlk w b → ¬ S b) : LfRd w' x := by
  obtain ⟨h1, h2, h3⟩ := h
  refine ⟨fun hp => ?_, h2, fun b o e => ?_⟩
  · obtain ⟨b, o, e, hc⟩ := h1 hp
    obtain ⟨cur, hb⟩ := h3 b o e
    have hb' := blk_touch ht hb (hS b ⟨cur, hb⟩)
    refine ⟨b, o, e, fun k hk => ?_⟩
    obtain ⟨c0, c1⟩ := hc k hk
    exact ⟨(World.cell?_of_block (show w'.heap[b]? = w.heap[b]? by rw [hb', hb])).trans c0, (World.cell?_of_block (show w'.heap[b]? = w.heap[b]? by rw [hb', hb])).trans c1⟩
  · obtain ⟨cur, hb⟩ := h3 b o e
    exact ⟨cur, blk_touch ht hb (hS b ⟨cur, hb⟩)⟩
theorem LRow.touch {S : Nat → Prop} {w w' : World} {base : Nat} {v : Value} {L : List Lf} (h : LRow w base v L) (ht : Touch S w w') (hS : ∀ k, v.ownBlock = some k → ¬ S k) : LRow w' base v L := by
  rcases h with h | ⟨g, cap, cur, rfl, hb, hk, h1, hm, h2, h3⟩
  · exact .inl h
  · exact .inr ⟨g, cap, cur, rfl, hb, blk_touch ht hk (hS g rfl), h1, hm, h2, h3⟩
theorem ShO.below {w w' : World} {base gs gj : Nat} {v : Value} {L : List Lf} (h : ShO w base gs gj v L) (hb : Below w.heap.size w w') : ShO w' base gs gj v L :=
  ⟨(hb.block _ (lt_of_block h.box)).trans h.box, h.row.touch (Touch.of_below hb : Touch (fun _ => False) w w') (fun _ _ x => x), fun x hx => (h.rd x hx).touch (Touch.of_below hb : Touch (fun _ => False) w w') (fun _ _ x => x)⟩
/-- What is read of it. -/
theorem ShO.read {w : World} {base gs gj : Nat} {v : Value} {L : List Lf} (h : ShO w base gs gj v L) : ShRd w gs (shP L) := by
  have c1 := blk_cell h.box 1
  simp at c1
  rcases h.row with ⟨rfl, rfl⟩ | ⟨g, cap, cur, rfl, hb, hk, h1, hm, h2, h3, _⟩
  · exact ⟨none, 0, c1, Nat.le_refl _, fun h => by simp [shP] at h⟩
  · refine ⟨some ⟨g, 0, none⟩, cap, by rw [shP_len]; exact c1, by rw [shP_len]; exact h1, fun _ => ⟨g, 0, rfl, fun i hi => ?_⟩⟩
    have hi2 : i < L.length := by rw [shP_len] at hi; exact hi
    obtain ⟨g0, g1⟩ := lvv_get L i hi2
    rw [← h3, List.getElem?_take_of_lt (by omega), Array.getElem?_toList] at g0
    rw [← h3, List.getElem?_take_of_lt (by omega), Array.getElem?_toList] at g1
    obtain ⟨r1, r2, _⟩ := h.rd L[i] (List.getElem_mem _)
    have e : (shP L)[i] = (L[i].id, L[i].l) := by simp [shP]
    rw [e]
    refine ⟨by rw [Nat.zero_add, blk_cell hk]; exact g0, L[i].A, L[i].c, by rw [Nat.zero_add, blk_cell hk]; exact g1, r2, r1⟩
/-- A leaf's entries are others. -/
theorem LRow.store {w : World} {base g cap : Nat} {L : List Lf} (h : LRow w base (.slice (some ⟨g, 0, none⟩) L.length cap) L) {k : Nat} (hk : k < L.length) (x : Lf) (hx : x.id = L[k].id) :
    LRow (w.setCell ⟨g, k * 2 + 1, none⟩ (.slice x.A x.l.length x.c)) base (.slice (some ⟨g, 0, none⟩) L.length cap) (L.set k x) := by
  rcases h with ⟨e, _⟩ | ⟨g', cap', cur, e, hb, hk', h1, hm, h2, h3, h4⟩
  · cases e
  · cases e
    refine .inr ⟨g, cap, _, by rw [List.length_set], hb, blk_set hk' (k * 2 + 1) _, by rw [List.length_set]; exact h1, hm, by simpa using h2, ?_, fun e => by simp at e; rw [e] at hk; simp at hk⟩
    rw [lvv_set L k x hk hx, List.length_set, ← h3, Array.toList_setIfInBounds, List.take_set]
theorem lrow_ne {w : World} {base g cap b : Nat} {L : List Lf} {n : Nat} (h : LRow w base (.slice (some ⟨g, 0, none⟩) n cap) L) (hb : PBlk w b) : b ≠ g := fun e => by
  subst e
  obtain ⟨cur, hb⟩ := hb
  rcases h with ⟨e, _⟩ | ⟨g', cap', cur', e, _, hk, _⟩
  · cases e
  · cases e
    rw [hb] at hk
    simp at hk
end Go.Proofs.Ytoolkamajlgcbaa
/- ShP: appending to slices that have no room (three-index slices), rows of pairs. -/
set_option linter.unusedVariables false
set_option linter.unusedSimpArgs false
namespace Go.Proofs.Ytoolkamajlgcbaa
open Go.RowKit

theorem prv_len : ∀ l : PL, (prv l).length = l.length * 2
  | [] => rfl
  | x :: r => by simp only [prv, List.length_cons, prv_len r]; omega
theorem prv_get : ∀ (l : PL) (k : Nat) (h : k < l.length), (prv l)[k * 2]? = some (.string l[k].1) ∧ (prv l)[k * 2 + 1]? = some (.string l[k].2)
  | x :: r, 0, _ => ⟨rfl, rfl⟩
  | x :: r, k + 1, h => by
    have := prv_get r k (by simpa using h)
    rw [show (k + 1) * 2 = k * 2 + 2 by omega]
    exact this
theorem prv_one : ∀ (l : PL), ∀ u ∈ prv l, u.oneCell' = true
  | [], u, h => by cases h
  | x :: r, u, h => by
    simp only [prv, List.mem_cons] at h
    rcases h with rfl | rfl | h
    · rfl
    · rfl
    · exact prv_one r u h
theorem lvv_one : ∀ (L : List Lf), ∀ u ∈ lvv L, u.oneCell' = true
  | [], u, h => by cases h
  | x :: r, u, h => by
    simp only [lvv, List.mem_cons] at h
    rcases h with rfl | rfl | h
    · rfl
    · rfl
    · exact lvv_one r u h
/-- The cells of entries that are read. -/
theorem rd_cells {w : World} {b o : Nat} {l : PL} (h : RdPr w (some ⟨b, o, none⟩) l) : ∀ j u, (prv l)[j]? = some u → w.cell? ((⟨b, o, none⟩ : Addr).add j) = some u := by
  intro j u hj
  have hjl := (List.getElem?_eq_some_iff.1 hj).1
  rw [prv_len] at hjl
  obtain ⟨b', o', e, hc⟩ := h (by omega)
  cases e
  obtain ⟨c0, c1⟩ := hc (j / 2) (by omega)
  obtain ⟨p0, p1⟩ := prv_get l (j / 2) (by omega)
  rw [Addr.add_lit]
  rcases Nat.mod_two_eq_zero_or_one j with hm | hm
  · rw [show j = j / 2 * 2 by omega] at hj ⊢
    rw [p0] at hj
    cases hj
    exact c0
  · rw [show j = j / 2 * 2 + 1 by omega] at hj ⊢
    rw [p1] at hj
    cases hj
    exact c1
/-- The leaves of a row from one on. -/
theorem lr_cells {w : World} {base g cap : Nat} {L : List Lf} (h : LRow w base (.slice (some ⟨g, 0, none⟩) L.length cap) L) (k : Nat) : ∀ j u, (lvv (L.drop k))[j]? = some u → w.cell? ((⟨g, k * 2, none⟩ : Addr).add j) = some u := by
  intro j u hj
  have hjl := (List.getElem?_eq_some_iff.1 hj).1
  rw [lvv_len, List.length_drop] at hjl
  rcases h with ⟨e, _⟩ | ⟨g', cap', cur, e, _, hk', _, _, _, h3, _⟩
  · cases e
  · cases e
    have q : (lvv L)[k * 2 + j]? = some u := by
      rw [show L = L.take k ++ L.drop k from (List.take_append_drop k L).symm, lvv_append, List.getElem?_append_right (by rw [lvv_len, List.length_take]; omega), lvv_len, List.length_take, show k * 2 + j - min k L.length * 2 = j by omega]
      exact hj
    rw [← h3, List.getElem?_take_of_lt (by omega), Array.getElem?_toList] at q
    rw [Addr.add_lit, blk_cell hk']
    exact q
theorem lr_cells0 {w : World} {base g cap : Nat} {L : List Lf} (h : LRow w base (.slice (some ⟨g, 0, none⟩) L.length cap) L) (n : Nat) : ∀ j u, (lvv (L.take n))[j]? = some u → w.cell? ((⟨g, 0, none⟩ : Addr).add j) = some u := by
  intro j u hj
  have hjl := (List.getElem?_eq_some_iff.1 hj).1
  have := lr_cells h 0 j u
  rw [List.drop_zero, Nat.zero_mul] at this
  refine this ?_
  rw [show L = L.take n ++ L.drop n from (List.take_append_drop n L).symm, lvv_append, List.getElem?_append_left hjl]
  exact hj
/-- What was built anew holds entries. -/
theorem lf_own {w : World} {base : Nat} {v : Value} {n : Nat} {l : PL} (h : w.ownsRow base 47 2 v n (prv l)) (id : Nat) : ∃ A c, v = .slice A l.length c ∧ LfRd w ⟨id, l, A, c⟩ := by
  obtain ⟨h0, h⟩ := h
  rw [prv_len] at h0
  obtain rfl : n = l.length := by omega
  rcases h with ⟨rfl, e⟩ | ⟨g, cap, cur, rfl, hb, hk, h1, hm, h2, h3⟩
  · exact ⟨none, 0, by rw [e], fun hp => absurd hp (by show ¬ 0 < l.length; omega), Nat.le_of_eq e, fun b o e => by cases e⟩
  · refine ⟨_, _, rfl, fun hp => ⟨g, 0, rfl, fun k hk' => ?_⟩, h1, fun b o e => by cases e; exact ⟨cur, hk⟩⟩
    obtain ⟨p0, p1⟩ := prv_get l k hk'
    have hk' : k < l.length := hk'
    rw [← h3, List.getElem?_take_of_lt (by omega), Array.getElem?_toList] at p0 p1
    exact ⟨by rw [Nat.zero_add, blk_cell hk]; exact p0, by rw [Nat.zero_add, blk_cell hk]; exact p1⟩
/-- append onto a slice without room. -/
theorem run_append_full {P : Program} (w : World) (t ty e : TypeId) (i : TypeInfo) (z : Value) (size bytes : Nat) (ht : P.underlying t = some (.slice e)) (hi : P.info? e = some i) (hz : i.zero = some z) (hsize : i.size = size) (hby : i.bytes = bytes) (hzs : z.cells.size = size) (hsz : 0 < size)
    (b : Addr) (n cap : Nat) (hcap : cap ≤ n) (olds : List Value) (hlo : olds.length = n * size) (holds : ∀ j u, olds[j]? = some u → w.cell? (b.add j) = some u)
    (a : Addr) (m c : Nat) (news : List Value) (hl : news.length = m * size) (hnews : ∀ j u, news[j]? = some u → w.cell? (a.add j) = some u) (h63 : n + m ≤ maxLen) (hbytes : (n + m) * bytes ≤ 140737488355328) (hnc : n ≤ cap) :
    ∃ v' w', (Builtin.append_ #[t, t] ty #[.slice (some b) n cap, .slice (some a) m c]).run P w = .ok v' w' ∧ w.grownBy w' none ∧ ((m = 0 ∧ v' = .slice (some b) n cap ∧ w' = w) ∨ (0 < m ∧ w'.ownsRow w.heap.size e size v' (n + m) (olds ++ news))) := by
  by_cases hm : m = 0
  · subst hm
    refine ⟨.slice (some b) n cap, w, ?_, ⟨rfl, rfl, rfl, Nat.le_refl _, fun _ _ _ => rfl⟩, .inl ⟨rfl, rfl, rfl⟩⟩
    simp [Builtin.append_, run_underlying ht, sizeOf, typeInfo, hi, Builtin.lenOf, Builtin.firstCells, storeCells, loadCells, loadCellsFrom, hnc]
  · obtain ⟨v', w', r1, r2, r3⟩ := run_append_arg_grows (P := P) w t ty e i z size bytes ht hi hz hsize hby hzs hsz b n cap olds hlo holds a m c news hl hnews (by omega) h63 hbytes
    exact ⟨v', w', r1, r3, .inr ⟨by omega, r2⟩⟩
theorem wpList_append_full {P : Program} (w : World) {ops : Array Oper} {rest : List Oper} {o : Oper} {a : Act} {Q : Exit → Act → World → Prop} (hgd : o.guard = none) (s x : Operand) (t : TypeId)
    (ho : o.op = .call { callee := .builtin .append, args := #[s, x], argTypes := #[t, t] }) (e : TypeId) (i : TypeInfo) (z : Value) (size bytes : Nat) (ht : P.underlying t = some (.slice e)) (hi : P.info? e = some i) (hz : i.zero = some z) (hsize : i.size = size) (hby : i.bytes = bytes) (hzs : z.cells.size = size) (hsz : 0 < size)
    (b : Addr) (n cap : Nat) (hcap : cap ≤ n) (olds : List Value) (hs : a.eval s = .slice (some b) n cap) (hlo : olds.length = n * size) (holds : ∀ j u, olds[j]? = some u → w.cell? (b.add j) = some u)
    (ad : Addr) (m c : Nat) (news : List Value) (hx : a.eval x = .slice (some ad) m c) (hl : news.length = m * size) (hnews : ∀ j u, news[j]? = some u → w.cell? (ad.add j) = some u) (h63 : n + m ≤ maxLen) (hbytes : (n + m) * bytes ≤ 140737488355328) (hnc : n ≤ cap)
    (k : ∀ v' w', w.grownBy w' none → ((m = 0 ∧ v' = .slice (some b) n cap ∧ w' = w) ∨ (0 < m ∧ w'.ownsRow w.heap.size e size v' (n + m) (olds ++ news))) → wpList P ops Q rest (a.put o.dst v') w') : wpList P ops Q (o :: rest) a w := by
  refine wpList_plain hgd fun K hK => ?_
  obtain ⟨v', w', hr, h2, h3⟩ := run_append_full (P := P) w t o.type e i z size bytes ht hi hz hsize hby hzs hsz b n cap hcap olds hlo holds ad m c news hl hnews h63 hbytes hnc
  unfold Oper.wp execOp
  simp only [ho, resolve, invoke, builtin, Sem.run_bind, Sem.run_pure, Result.andThen_ok, List.map_toArray, List.map_cons, List.map_nil, hs, hx, hr]
  exact hK _ _ (k v' w' h2 h3)
/-- The row that such an append makes of leaves. -/
theorem lrow_full {w w' : World} {base g n cap : Nat} {v' : Value} {L : List Lf} {m : Nat} {M : List Lf} (h : LRow w base (.slice (some ⟨g, 0, none⟩) L.length cap) L) (hn : n ≤ L.length) (hb : base ≤ w.heap.size) (hm : m = M.length)
    (r : (m = 0 ∧ v' = .slice (some ⟨g, 0, none⟩) n n ∧ w' = w) ∨ (0 < m ∧ w'.ownsRow w.heap.size 82 2 v' (n + m) (lvv (L.take n) ++ lvv M))) :
    LRow w' base v' (L.take n ++ M) ∧ (v'.ownBlock = some g ∨ ∃ k, v'.ownBlock = some k ∧ w.heap.size ≤ k) := by
  rcases r with ⟨h0, rfl, rfl⟩ | ⟨h0, r⟩
  · obtain rfl : M = [] := List.eq_nil_of_length_eq_zero (by omega)
    refine ⟨?_, .inl rfl⟩
    rw [List.append_nil]
    have hlt : (L.take n).length = n := by rw [List.length_take]; omega
    rcases h with ⟨e, _⟩ | ⟨g', cap', cur, e, hb', hk', h1, hm', h2, h3, h4⟩
    · cases e
    · cases e
      refine .inr ⟨g, n, cur, by rw [hlt], hb', hk', by omega, by omega, by omega, ?_, fun e => by rw [e] at hlt; simpa using hlt.symm⟩
      rw [hlt]
      have e1 : cur.toList.take (n * 2) = (lvv L).take (n * 2) := by rw [← h3, List.take_take, Nat.min_eq_left (by omega)]
      have e2 : lvv L = lvv (L.take n) ++ lvv (L.drop n) := by rw [← lvv_append, List.take_append_drop]
      rw [e1, e2, List.take_left' (by rw [lvv_len, hlt])]
  · rw [← lvv_append] at r
    have hlt : (L.take n ++ M).length = n + m := by rw [List.length_append, List.length_take]; omega
    rw [← hlt] at r
    refine ⟨?_, .inr ?_⟩
    · rcases own_lrow r (by omega) with h | ⟨g', cap', cur, e, hb', hk', h1⟩
      · exact .inl h
      · exact .inr ⟨g', cap', cur, e, Nat.le_trans hb hb', hk', h1⟩
    · rcases r.2 with ⟨_, e⟩ | ⟨g', cap', cur, e, hb', _⟩
      · omega
      · exact ⟨g', by rw [e]; rfl, hb'⟩
/-- A leaf gets other entries. -/
theorem ShO.setLeaf {w : World} {base gs gj b cap : Nat} {L : List Lf} (h : ShO w base gs gj (.slice (some ⟨b, 0, none⟩) L.length cap) L) {k : Nat} (hk : k < L.length) (x : Lf) (hx : x.id = L[k].id) (hr : LfRd w x) :
    ShO (w.setCell ⟨b, k * 2 + 1, none⟩ (.slice x.A x.l.length x.c)) base gs gj (.slice (some ⟨b, 0, none⟩) L.length cap) (L.set k x) := by
  have T : Touch (fun j => j = b) w (w.setCell ⟨b, k * 2 + 1, none⟩ (.slice x.A x.l.length x.c)) := (Touch.refl (fun j => j = b) w).setCell (p := ⟨b, k * 2 + 1, none⟩) (.inl rfl) _
  have hb : gs ≠ b := fun e => by
    subst e
    have h1 := h.box
    rcases h.row with ⟨e, _⟩ | ⟨g, cap', cur, e, _, hk', _⟩
    · cases e
    · cases e
      unfold ShB at h1
      rw [h1] at hk'
      simp at hk'
  refine ⟨blk_touch T h.box hb, h.row.store hk x hx, fun y hy => ?_⟩
  have hr' : LfRd w y := by
    rcases List.mem_or_eq_of_mem_set hy with hy | rfl
    · exact h.rd y hy
    · exact hr
  exact hr'.touch T (fun j hj => lrow_ne h.row hj)
/-- The leaves are others. -/
theorem ShO.setRow {w : World} {base gs gj : Nat} {v v' : Value} {L L' : List Lf} (h : ShO w base gs gj v L) (hr : LRow w base v' L') (hx : ∀ x ∈ L', LfRd w x) : ShO (w.setCell ⟨gs, 1, none⟩ v') base gs gj v' L' := by
  have T : Touch (fun j => j = gs) w (w.setCell ⟨gs, 1, none⟩ v') := (Touch.refl (fun j => j = gs) w).setCell (p := ⟨gs, 1, none⟩) (.inl rfl) _
  have hbx := h.box
  unfold ShB at hbx
  refine ⟨?_, hr.touch T (fun k hk => ?_), fun y hy => (hx y hy).touch T (fun j hj e => ?_)⟩
  · have := blk_set hbx 1 v'
    unfold ShB
    simpa using this
  · rintro rfl
    rcases hr with ⟨rfl, _⟩ | ⟨g, cap, cur, rfl, _, hk', _⟩
    · cases hk
    · cases hk
      rw [hbx] at hk'
      simp at hk'
  · subst e
    obtain ⟨cur, hj⟩ := hj
    rw [hbx] at hj
    simp at hj
theorem ShO.row_free {w : World} {base gs gj b n cap : Nat} {L : List Lf} (h : ShO w base gs gj (.slice (some ⟨b, 0, none⟩) n cap) L) (j : Nat) : w.frozen? ⟨b, j, none⟩ = false := by
  rcases h.row with ⟨e, _⟩ | ⟨g, cap', cur, e, _, hk', _⟩
  · cases e
  · cases e
    exact blk_free hk' j
theorem szL_app (a b : PL) : szL (a ++ b) = szL a + szL b := by
  have : ∀ (b : PL) (x : Nat), (b.map szP).foldl (· + ·) x = x + (b.map szP).foldl (· + ·) 0 := by
    intro b
    induction b with
    | nil => intro x; rfl
    | cons p b ih => intro x; simp only [List.map_cons, List.foldl_cons]; rw [ih (x + szP p), ih (0 + szP p)]; omega
  unfold szL
  rw [List.map_append, List.foldl_append, this]
end Go.Proofs.Ytoolkamajlgcbaa
