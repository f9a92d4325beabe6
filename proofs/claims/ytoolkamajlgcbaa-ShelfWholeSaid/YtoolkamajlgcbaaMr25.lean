/- JnI: the walk of Commit (written by gen_commit.py). -/
import Derived.Test.YtoolkamajlgcbaaMr24
set_option linter.unusedVariables false
set_option linter.unusedSimpArgs false
namespace Go.Proofs.Ytoolkamajlgcbaa
open Go.RowKit

theorem jvalues_any (w : World) (A : Option Addr) (n c : Nat) : Calls Try.prog 47 #[.slice A n c] w fun e w' =>
    ∃ Bc, e = .returned (.func (.func 75) #[] #[.pointer (some ⟨Bc, 0, none⟩)]) ∧ w'.cell? ⟨Bc, 0, none⟩ = some (.slice A n c) ∧ Below w.heap.size w w' := by
  go_enter Try.func47, Try.ntmps47
  go_wp2
  go_ret
  exact ⟨w.heap.size, rfl, by simp, (Below.refl _ w).alloc (Nat.le_refl _) _⟩
theorem commit_nil (w : World) (A : Option Addr) (n c : Nat) : Calls Try.prog 21 #[.pointer none, .slice A n c] w fun e w' => e = .returned (.int .i64 1) ∧ w = w' := by
  go_enter Try.func21, Try.ntmps21
  go_wp2
  go_ret
  exact ⟨rfl, rfl⟩
def commitK (P : Nat) (M : List Chg) : List Stp := stepsA M ++ [flushS] ++ ([(0, mkB M)] ++ [flushS]) ++ (stepsB P M ++ [flushS]) ++ ([(0, Dk.sector0)] ++ [flushS])
def upc (c : Chg) : Int × ByteArray := ((c.1 : Int), c.2)
/-- What Commit answers, and leaves. -/
inductive CoTo (P : Nat) (d : Dk) (l : List (Int × ByteArray)) : Int → Dk → Prop
  | why (h : whyE P l ≠ 0) : CoTo P d l (whyE P l) d
  | down (h : whyE P l = 0) (hd : d.down = true) : CoTo P d l 10 d
  | none (h : whyE P l = 0) (hd : d.down = false) (hl : l = []) : CoTo P d l 0 d
  | run (h : whyE P l = 0) (hd : d.down = false) (hl : l ≠ []) (M : List Chg) (hM : Ord M) (hp : (M.map upc).Perm l) : CoTo P d l (run d (commitK P M)).2 (run d (commitK P M)).1
theorem why_ok {P : Nat} {l : List (Int × ByteArray)} (h : whyE P l = 0) : outK P l = false ∧ dupK l l.length = false ∧ longK l = false := by
  unfold whyE at h
  split at h
  · exact absurd h (by decide)
  · split at h
    · exact absurd h (by decide)
    · split at h
      · exact absurd h (by decide)
      · rename_i a b c
        exact ⟨by simpa using a, by simpa using b, by simpa using c⟩
theorem why_each {P : Nat} {l : List (Int × ByteArray)} (h : whyE P l = 0) : ∀ x ∈ l, 0 ≤ x.1 ∧ x.1 < (P : Int) ∧ x.2.size = 1024 := by
  obtain ⟨h1, _, h3⟩ := why_ok h
  intro x hx
  unfold outK at h1
  unfold longK at h3
  rw [List.any_eq_false] at h1 h3
  have a := h1 x hx; have b := h3 x hx
  simp at a b
  omega
theorem lower {P : Nat} {l : List (Int × ByteArray)} (h : whyE P l = 0) : ∃ L : List Chg, l = L.map upc ∧ ∀ x ∈ L, x.1 < P ∧ x.2.size = 1024 := by
  have he := why_each h
  clear h
  induction l with
  | nil => exact ⟨[], rfl, fun x hx => by cases hx⟩
  | cons x l ih =>
    obtain ⟨L, hL, hL2⟩ := ih (fun y hy => he y (List.mem_cons_of_mem _ hy))
    obtain ⟨a1, a2, a3⟩ := he x (List.mem_cons_self ..)
    refine ⟨(x.1.toNat, x.2) :: L, by rw [List.map_cons, ← hL, upc]; simp only; rw [Int.toNat_of_nonneg a1], fun y hy => ?_⟩
    rcases List.mem_cons.1 hy with rfl | hy
    · exact ⟨by simp only; omega, a3⟩
    · exact hL2 y hy
set_option maxHeartbeats 3200000 in
set_option maxRecDepth 100000 in
theorem commit_any (w : World) (F : Nat → Prop) (gj g P : Nat) (d : Dk) (h : HasDisk w F g d) (hj : Jb w gj g P) (hF : ¬ F gj) (hP : P ≤ 128) (A : Option Addr) (c : Nat) (l : List (Int × ByteArray)) (hl : RdC w A l) (hn : l.length ≤ 1000) (hs : ∀ x ∈ l, x.2.size ≤ 9223372036854775807) (hf : Fw (8 * l.length + 8) d) :
    Calls Try.prog 21 #[.pointer (some ⟨gj, 0, none⟩), .slice A l.length c] w fun e w' => ∃ x d' F', e = .returned (.int .i64 x) ∧ CoTo P d l x d' ∧ DTo w F g d' w' F' := by
  have CK := Lib.hid (check_any w gj g P hj hP A c l hl (by omega) hs)
  have HD := Lib.hid h; have HJ := Lib.hid hj; have HF := Lib.hid hF; have HL := Lib.hid hl; have FW := Lib.hid hf
  clear h hj hF hl hs hf
  go_enter Try.func21, Try.ntmps21
  go_wp2_with fail
  refine CK.out.mono ?_
  rintro e w1 ⟨rfl, b1⟩
  have B1 := Lib.hid b1
  clear b1 CK
  by_cases hy : whyE P l = 0
  rotate_left
  · have d0 : (whyE P l != 0) = true := by simpa using hy
    go_wp2
    go_ret
    exact ⟨_, d, F, rfl, .why hy, ⟨HD.out.below B1.out, fun k hk => .inl hk, Touch.of_below B1.out⟩⟩
  have HY := Lib.hid hy
  rw [hy]
  clear hy
  have J1 : Hid (Jb w1 gj g P) := HJ.out.below B1.out
  obtain ⟨c0, _⟩ := J1.out.cells
  have UP := Lib.hid (up_h (HD.out.below B1.out))
  cases hd : d.down with
  | true =>
    rw [hd] at UP
    go_wp2_with fail
    refine UP.out.mono ?_
    rintro e w2 ⟨rfl, rfl⟩
    go_wp2
    go_ret
    exact ⟨_, d, F, rfl, .down HY.out hd, ⟨HD.out.below B1.out, fun k hk => .inl hk, Touch.of_below B1.out⟩⟩
  | false =>
  rw [hd] at UP
  have HDN := Lib.hid hd
  clear hd
  go_wp2_with fail
  refine UP.out.mono ?_
  rintro e w2 ⟨rfl, rfl⟩
  clear UP c0
  by_cases h0 : l.length = 0
  · have d0 : (l.length == 0) = true := by simpa using h0
    have d0' : ((l.length : Int) == 0) = true := by rw [beq_iff_eq]; omega
    go_wp2
    go_ret
    exact ⟨_, d, F, rfl, .none HY.out HDN.out (List.eq_nil_of_length_eq_zero h0), ⟨HD.out.below B1.out, fun k hk => .inl hk, Touch.of_below B1.out⟩⟩
  have d0 : (l.length == 0) = false := by simpa using h0
  have d0' : ((l.length : Int) == 0) = false := by rw [beq_eq_false_iff_ne]; omega
  obtain ⟨L, hlL, hL⟩ := lower HY.out
  have LEN : l.length = L.length := by rw [hlL, List.length_map]
  obtain ⟨b, off, hA, hcs⟩ := HL.out (by omega)
  have HA := Lib.hid hA
  have HC : Hid (∀ (j : Nat) (h : j < L.length), w1.cell? ⟨b, off + j * 2, none⟩ = some (.int .i64 (L[j].1 : Int)) ∧ w1.cell? ⟨b, off + j * 2 + 1, none⟩ = some (.string L[j].2)) := fun j hj => by
    have hjl : j < l.length := by omega
    obtain ⟨z0, z1⟩ := hcs j hjl
    have e : l[j] = upc L[j] := by simp only [hlL, List.getElem_map]
    rw [e] at z0 z1
    exact ⟨cell_below B1.out z0, cell_below B1.out z1⟩
  have HLL := Lib.hid hL; have HlL := Lib.hid hlL; have HPOS : Hid (0 < L.length) := by unfold Hid; omega
  clear hcs hA hL h0
  rw [LEN] at FW d0 d0' hn ⊢
  clear LEN
  clear hlL
  have d1 := d0
  go_wp2_with fail
  refine (jvalues_any w1 A L.length c).mono ?_
  rintro e w2 ⟨Bc, rfl, hbox, b2⟩
  have B2 : Hid (Below w.heap.size w w2) := B1.out.trans (b2.mono B1.out.size)
  have SO := Lib.hid (sorted_any Bc A b off c L w2 hbox (fun _ => HA.out) (fun j hj => ⟨cell_below b2 (HC.out j hj).1, cell_below b2 (HC.out j hj).2⟩) (by omega) (fun x hx => by have := (HLL.out x hx).1; omega))
  clear hbox b2 HC HA
  go_wp2_with fail
  refine SO.out.mono ?_
  rintro e w3 ⟨v, M, rfl, pm, om, ho, b3⟩
  have B3 : Hid (Below w.heap.size w w3) := B2.out.trans (b3.mono B2.out.size)
  have PM := Lib.hid pm; have OM := Lib.hid om
  have hlen : M.length = L.length := pm.length_eq
  have MP := Lib.hid (show ∀ x ∈ M, x.1 ≤ 127 ∧ x.1 < P ∧ x.2.size = 1024 from fun x hx => by have := HLL.out x (pm.mem_iff.1 hx); omega)
  obtain ⟨gm, cm, cur, rfl, hbase, hblk, hc1, hc2, hc3, hc4⟩ : ∃ g cap cur, v = .slice (some ⟨g, 0, none⟩) M.length cap ∧ w2.heap.size ≤ g ∧ w3.heap[g]? = some (.cells cur 53 (0, 0)) ∧ M.length ≤ cap ∧ cap ≤ maxLen ∧ cur.size = cap * 2 ∧ cur.toList.take (M.length * 2) = chv M := by
    rcases ho.2 with ⟨_, h0⟩ | ⟨g, cap, cur, e, hb, hk, h1, h2, h3, h4⟩
    · have := HPOS.out; omega
    · exact ⟨g, cap, cur, e, hb, hk, h1, h2, h3, h4⟩
  have HB : Hid (w3.heap[gm]? = some (.cells cur 53 (0, 0))) := hblk
  have HCS : Hid (∀ j (h : j < M.length), cur[j * 2]? = some (.int .i64 (M[j].1 : Int)) ∧ cur[j * 2 + 1]? = some (.string M[j].2)) := fun j hj => by
    obtain ⟨g1, g2⟩ := chv_get M j hj
    rw [← hc4, List.getElem?_take_of_lt (by omega), Array.getElem?_toList] at g1
    rw [← hc4, List.getElem?_take_of_lt (by omega), Array.getElem?_toList] at g2
    exact ⟨g1, g2⟩
  have NF : Hid (¬ F gm) := fun hh => by
    have h1 := HD.out.lt _ hh
    have h2 := B2.out.size
    omega
  have HP2 : Hid (0 < M.length) := by have := HPOS.out; unfold Hid; omega
  rw [← hlen] at FW hn d0 d0' ⊢
  have NIL : Hid (l ≠ []) := by unfold Hid; rw [HlL.out]; intro h; have := HPOS.out; rw [List.map_eq_nil_iff] at h; rw [h] at this; exact absurd this (by decide)
  have PLL : Hid ((M.map upc).Perm l) := by unfold Hid; rw [HlL.out]; exact pm.map _
  clear hlen ho hblk b3 SO pm om hbase hc1 hc2 hc3 hc4 HLL HlL HPOS
  have hmk : ∀ W : World, (Instr.makeSlice 51 (.int .i64 256) (.int .i64 256)).run Try.prog W = .ok (.slice (some ⟨W.heap.size, 0, none⟩) 256 256) (W.alloc (.cells (madeCells #[.int .u8 0] 256) 5)) := by
    intro W
    exact run_make_row' 51 5 (.int .u8 0) 1 Try.underlying51 infoB rfl .i64 .i64 256 (by decide) (by decide) W
  have G0 : Hid ((w3.alloc (.cells (madeCells #[.int .u8 0] 256) 5)).heap[w3.heap.size]? = some (.cells (u8s (mkK (M.take 0))).toArray 5 (0, 0))) := by
    unfold Hid
    rw [blk_new, made256]
    rfl
  have BA : Hid (Below w3.heap.size w3 (w3.alloc (.cells (madeCells #[.int .u8 0] 256) 5))) := (Below.refl _ w3).alloc (Nat.le_refl _) _
  go_wp2_with fail
  go_loopw [36] (fun i wr => ∃ k : Nat, k ≤ M.length ∧ i = .int .i64 k ∧ Hid (wr.heap[w3.heap.size]? = some (.cells (u8s (mkK (M.take k))).toArray 5 (0, 0))) ∧ Hid (Below w3.heap.size w3 wr)) (fun i _ => M.length - (intOf i).toNat)
  case atStart => exact ⟨0, Nat.zero_le _, rfl, G0, BA⟩
  case round =>
    obtain ⟨k, hk, rfl, gk, bk⟩ := hrel
    clear G0 BA
    by_cases hlt : k < M.length
    · obtain ⟨x0, x1⟩ := HCS.out k hlt
      have hB := (bk.out.block gm (lt_of_block HB.out)).trans HB.out
      have z0 := blk_cell hB (k * 2)
      have z1 := blk_cell hB (k * 2 + 1)
      rw [x0] at z0
      rw [x1] at z1
      obtain ⟨q1, _, _⟩ := MP.out M[k] (List.getElem_mem hlt)
      have MS : Hid (mkK (M.take (k + 1)) = (mkK (M.take k)).set (M[k].1 / 8) ((mkK (M.take k)).getD (M[k].1 / 8) 0 ||| UInt8.ofNat (2 ^ (M[k].1 % 8)))) := by unfold Hid; rw [List.take_succ_eq_append_getElem hlt, mkK_snoc]
      have ML := mkK_len (M.take k)
      generalize hx : M[k] = x at z0 z1 q1 MS
      obtain ⟨n, s⟩ := x
      simp only at z0 z1 q1 MS
      generalize mkK (M.take k) = m at gk MS ML
      clear hB x0 x1 hx
      obtain ⟨q, hq⟩ : ∃ q : Nat, q = n / 8 := ⟨_, rfl⟩
      have e1 : IntKind.i64.wrap ((n : Int) / 8) = (q : Int) := by rw [hq, IntKind.wrap_i64]; omega
      obtain ⟨r, hr⟩ : ∃ r : Nat, r = n % 8 := ⟨_, rfl⟩
      have e2 : IntKind.i64.wrap ((n : Int) % 8) = (r : Int) := by rw [hr, IntKind.wrap_i64]; omega
      have hr8 : r < 8 := by omega
      have e1b : (n : Int) / 8 = (q : Int) := by omega
      have e2b : (n : Int) % 8 = (r : Int) := by omega
      have hq2 : q < 256 := by omega
      have HQ := Lib.hid hq
      have HR := Lib.hid hr
      rw [← hq, ← hr] at MS
      clear hq hr
      have e2c : (n : Int).tmod 8 = (r : Int) := by rw [Int.tmod_eq_emod_of_nonneg (by omega)]; omega
      have wq : IntKind.i64.wrap (q : Int) = (q : Int) := by rw [IntKind.wrap_i64]; omega
      have wrr : IntKind.i64.wrap (r : Int) = (r : Int) := by rw [IntKind.wrap_i64]; omega
      have g2 : Hid ((wr.alloc (.cells #[.int .i64 (n : Int), .string s] 53)).heap[w3.heap.size]? = some (.cells (u8s m).toArray 5 (0, 0))) := blk_alloc gk.out _
      have y0 := blk_cell (blk_new wr (.cells #[.int .i64 (n : Int), .string s] 53)) 0
      simp only [List.getElem?_toArray, List.getElem?_cons_zero] at y0
      have y1 := blk_cell g2.out q
      have yf := blk_free g2.out q
      rw [blk_u8 (by omega)] at y1
      obtain ⟨bb, hbb⟩ : ∃ bb, bb = m.getD q 0 := ⟨_, rfl⟩
      rw [← hbb] at y1 MS
      have HBB := Lib.hid hbb
      clear hbb
      have OR := or_u8 bb r hr8
      obtain ⟨bv, hbv⟩ : ∃ bv, bv = bb ||| UInt8.ofNat (2 ^ r) := ⟨_, rfl⟩
      rw [← hbv] at OR MS
      clear hbv
      have G3 : Hid (((wr.alloc (.cells #[.int .i64 (n : Int), .string s] 53)).setCell ⟨w3.heap.size, q, none⟩ (.int .u8 (bv.toNat : Int))).heap[w3.heap.size]? = some (.cells (u8s (mkK (M.take (k + 1)))).toArray 5 (0, 0))) := by unfold Hid; rw [MS.out, ← blk_u8_set]; exact blk_set g2.out q _
      have B4 : Hid (Below w3.heap.size w3 ((wr.alloc (.cells #[.int .i64 (n : Int), .string s] 53)).setCell ⟨w3.heap.size, q, none⟩ (.int .u8 (bv.toNat : Int))).drew) := ((bk.out.alloc bk.out.size _).setCell (p := ⟨w3.heap.size, q, none⟩) (Nat.le_refl _) _).drew
      have hq3 : (q : Int) < 256 := by omega
      go_wp2_with fail
      refine wp_region_last (fun w' => w'.cell? ⟨wr.heap.size, 0, none⟩ = some (.int .i64 (n : Int)) ∧ w'.cell? ⟨w3.heap.size, q, none⟩ = some (.int .u8 (bb.toNat : Int))) [(0, 1), (1, 1), (6, 1), (2, 2), (3, 1), (4, 1), (5, 2), (7, 2), (8, 1), (9, 1), (10, 1), (11, 1)] 12 (by kernel_rfl) (by kernel_rfl) ⟨y0, y1⟩ ?_
      repeat (refine wpL_dry (fun K hK => ?_); simp only [List.getD_cons_zero, List.getD_cons_succ]; go_simp; refine hK _ ?_; clear hK K)
      refine wpL_read (.int .i64 (n : Int)) rfl (fun w' hS => by obtain ⟨s1, s2⟩ := hS; simp only [List.getD_cons_zero, List.getD_cons_succ]; go_simp) (fun K hK => ?_)
      simp only [List.getD_cons_zero, List.getD_cons_succ]
      go_simp
      refine hK _ ?_
      clear hK K
      repeat (refine wpL_dry (fun K hK => ?_); simp only [List.getD_cons_zero, List.getD_cons_succ]; go_simp; refine hK _ ?_; clear hK K)
      refine wpL_read (.int .u8 (bb.toNat : Int)) rfl (fun w' hS => by obtain ⟨s1, s2⟩ := hS; simp only [List.getD_cons_zero, List.getD_cons_succ]; go_simp) (fun K hK => ?_)
      simp only [List.getD_cons_zero, List.getD_cons_succ]
      go_simp
      refine hK _ ?_
      clear hK K
      refine wpL_read (.int .i64 (n : Int)) rfl (fun w' hS => by obtain ⟨s1, s2⟩ := hS; simp only [List.getD_cons_zero, List.getD_cons_succ]; go_simp) (fun K hK => ?_)
      simp only [List.getD_cons_zero, List.getD_cons_succ]
      go_simp
      refine hK _ ?_
      clear hK K
      repeat (refine wpL_dry (fun K hK => ?_); simp only [List.getD_cons_zero, List.getD_cons_succ]; go_simp; refine hK _ ?_; clear hK K)
      refine wpL_last ?_
      simp only [List.getD_cons_zero, List.getD_cons_succ]
      go_wp2_with fail
      refine ⟨trivial, ?_⟩
      go_wp2
      go_roundw
      case rel => first | exact ⟨k + 1, hlt, by go_num, G3, B4⟩ | ((repeat apply Exists.intro); refine ⟨?_, rfl⟩; exact ⟨k + 1, hlt, by go_num, G3, B4⟩)
      case measure => simp [intOf]; omega
    · obtain rfl : k = M.length := by omega
      rw [List.take_length] at gk
      have Bw : Hid (Below w.heap.size w wr) := B3.out.trans (bk.out.mono B3.out.size)
      have Jr : Hid (Jb wr gj g P) := HJ.out.below Bw.out
      have NFm : Hid (¬ F w3.heap.size) := fun hh => by
        have h1 := HD.out.lt _ hh
        have h2 := B3.out.size
        omega
      have LT3 : Hid (w3.heap.size < wr.heap.size) := lt_of_block gk.out
      have LTj : Hid (gj < wr.heap.size) := lt_of_block Jr.out
      have HBr : Hid (wr.heap[gm]? = some (.cells cur 53 (0, 0))) := (bk.out.block gm (lt_of_block HB.out)).trans HB.out
      have HDr : Hid (HasDisk wr F g d) := HD.out.below Bw.out
      obtain ⟨mk, hmkl⟩ : ∃ mk, mk = mkK M := ⟨_, rfl⟩
      have MKL : Hid (mk.length = 256) := by unfold Hid; rw [hmkl]; exact mkK_len M
      obtain ⟨sm, hsm⟩ : ∃ sm, sm = mkB M := ⟨_, rfl⟩
      have HSM2 : Hid (ByteArray.mk mk.toArray = sm) := by unfold Hid; rw [hmkl, hsm]; rfl
      have SSZ : Hid (sm.size ≤ 1000000) := by have := MKL.out; unfold Hid; rw [← HSM2.out, show (ByteArray.mk mk.toArray).size = mk.length from rfl]; omega
      have HSM := Lib.hid hsm
      clear hsm
      rw [← hmkl] at gk
      have LA := Lib.hid (layAllA_any wr F gj g P d HDr.out Jr.out HF.out hP M gm cm cur HBr.out NF.out HCS.out (fun x hx => ⟨(MP.out x hx).1, (MP.out x hx).2.2⟩) (FW.out.mono (by omega)) (by omega))
      have keep : Hid (∀ (D : Dk) (W : World) (F' : Nat → Prop), DTo wr F g D W F' → (Jb W gj g P ∧ ¬ F' gj) ∧ (W.heap[gm]? = some (.cells cur 53 (0, 0)) ∧ ¬ F' gm) ∧ W.heap[w3.heap.size]? = some (.cells (u8s mk).toArray 5 (0, 0)) ∧ ¬ F' w3.heap.size) := fun D W F' ht => by
        have nw : ∀ j, ¬ F j → j < wr.heap.size → ¬ F' j := fun j hj hlt hh => by
          rcases ht.new j hh with h | h
          · exact hj h
          · omega
        exact ⟨⟨Jr.out.touch ht.touch HF.out, nw _ HF.out LTj.out⟩, ⟨blk_touch ht.touch HBr.out NF.out, nw _ NF.out (lt_of_block HBr.out)⟩, blk_touch ht.touch gk.out NFm.out, nw _ NFm.out LT3.out⟩
      clear gk bk hmkl hk hlt NFm LT3 LTj
      unfold JTo at LA
      obtain ⟨r0, hr0⟩ : ∃ r0, r0 = run d (stepsA M) := ⟨_, rfl⟩
      rw [← hr0] at LA
      have HR0 := Lib.hid hr0
      have FA : Hid (Fw (4 * M.length + 6) r0.1) := by unfold Hid; rw [hr0]; exact fw_run _ (FW.out.mono (by rw [stepsA_len]; omega))
      clear hr0
      go_wp2_with fail
      refine LA.out.mono ?_
      rintro e w4 ⟨rfl, F4, ht4⟩
      have T4 := Lib.hid ht4
      clear ht4 LA
      have FL := Lib.hid (flushed_run w4 F4 gj g P d (stepsA M) r0 HR0.out T4.out.has (keep.out _ _ _ T4.out).1.1 (FA.out.mono (by omega)))
      obtain ⟨r1, hr1⟩ : ∃ r1, r1 = run d (stepsA M ++ [flushS]) := ⟨_, rfl⟩
      rw [← hr1] at FL
      have HR1 := Lib.hid hr1
      have FB : Hid (Fw (4 * M.length + 5) r1.1) := by unfold Hid; rw [hr1]; exact fw_run _ (FW.out.mono (by rw [List.length_append, stepsA_len]; simp; omega))
      clear hr1
      go_wp2_with fail
      refine FL.out.mono ?_
      rintro e w5 ⟨rfl, F5, ht5⟩
      have T5 : Hid (DTo wr F g r1.1 w5 F5) := T4.out.then ht5
      clear ht5 FL T4
      have DN : Hid (∀ r : Dk × Int, run d (commitK P M) = r → ∀ W F', DTo wr F g r.1 W F' → ∃ x d' F', (Ending.returned (.int .i64 r.2) = .returned (.int .i64 x)) ∧ CoTo P d l x d' ∧ DTo w F g d' W F') := fun r hr W F' ht => by
        refine ⟨r.2, r.1, F', rfl, ?_, DTo.pre Bw.out ht⟩
        rw [← hr]
        exact .run HY.out HDN.out NIL.out M OM.out PLL.out
      by_cases h1 : r1.2 = 0
      rotate_left
      · have E : Hid (run d (commitK P M) = r1) := by unfold Hid; rw [commitK, stop3 (by rw [← HR1.out]; exact h1), ← HR1.out]
        obtain ⟨x1, x2⟩ := r1
        have d9 : (x2 != 0) = true := by simpa using h1
        clear h1
        go_wp2
        go_ret
        exact DN.out (x1, x2) E.out _ _ T5.out
      rw [h1]
      have S1 := Lib.hid h1
      clear h1
      obtain ⟨K5, -⟩ : Hid ((Jb w5 gj g P ∧ ¬ F5 gj) ∧ (w5.heap[gm]? = some (.cells cur 53 (0, 0)) ∧ ¬ F5 gm) ∧ w5.heap[w3.heap.size]? = some (.cells (u8s mk).toArray 5 (0, 0)) ∧ ¬ F5 w3.heap.size) ∧ True := ⟨keep.out _ _ _ T5.out, trivial⟩
      have J5 : Hid (Jb w5.drew gj g P) := K5.out.1.1.below (Below.refl _ w5).drew
      have c5 := J5.out.cells.1
      have g5 : w5.drew.heap[w3.heap.size]? = some (.cells (u8s mk).toArray 5 (0, 0)) := K5.out.2.2.1
      obtain ⟨ra, hra⟩ : ∃ r, r = run r1.1 [(0, sm)] := ⟨_, rfl⟩
      have HRA := Lib.hid hra
      have FRA : Hid (Fw (4 * M.length + 4) ra.1) := by unfold Hid; rw [hra]; exact fw_run [_] (FB.out.mono (by simp))
      clear hra
      obtain ⟨rb, hrb⟩ : ∃ r, r = run r1.1 ([(0, sm)] ++ [flushS]) := ⟨_, rfl⟩
      have HRB := Lib.hid hrb
      have FRB : Hid (Fw (4 * M.length + 3) rb.1) := by unfold Hid; rw [hrb]; exact fw_run _ (FB.out.mono (by simp))
      have WR := Lib.hid (write_run w5.drew F5 g r1.1 T5.out.has.drew sm SSZ.out (FB.out.mono (by omega)) ra HRA.out)
      go_wp2_with fail
      refine wp_region_flag (fun w' => w'.cell? ⟨gj, 0, none⟩ = some (.pointer (some ⟨g, 0, none⟩)) ∧ w'.heap[w3.heap.size]? = some (.cells (u8s mk).toArray 5 (0, 0))) [(0, 1), (1, 1), (2, 1), (3, 1), (5, 1), (4, 2), (6, 2), (7, 0), (8, 0), (9, 1)] (by kernel_rfl) (by kernel_rfl) ⟨c5, g5⟩ ?_
      simp only [ordered, List.map_cons, List.map_nil, List.getD_cons_zero, List.getD_cons_succ]
      repeat (refine wpF_dry (fun K hK => ?_); go_simp; refine hK _ ?_; clear hK K)
      refine wpF_read (.pointer (some ⟨g, 0, none⟩)) rfl (fun w' hS => by obtain ⟨s1, s2⟩ := hS; go_simp) (fun K hK => ?_)
      go_simp
      refine hK _ ?_
      clear hK K
      refine wpF_read (.string sm) rfl (fun w' hS => by obtain ⟨s1, s2⟩ := hS; have cv := conv_u8 s2 256 256 MKL.out; rw [HSM2.out] at cv; go_simp) (fun K hK => ?_)
      go_simp
      refine hK _ ?_
      clear hK K
      refine wpF_do ?_
      go_wp2_with fail
      refine WR.out.mono ?_
      rintro e w6 ⟨rfl, F6, ht6⟩
      have T6 : Hid (DTo wr F g ra.1 w6 F6) := (T5.out.post (Below.refl _ w5).drew).then ht6
      have K6 := Lib.hid (keep.out _ _ _ T6.out)
      have c6 := K6.out.1.1.cells.1
      have g6 := K6.out.2.2.1
      have FL := Lib.hid (flushed_run w6 F6 gj g P r1.1 [(0, sm)] ra HRA.out T6.out.has K6.out.1.1 (FRA.out.mono (by omega)))
      rw [← hrb] at FL
      clear ht6 WR c5 g5 hrb
      go_wp2_with fail
      refine ⟨⟨c6, g6⟩, ?_⟩
      refine wpF_do ?_
      go_wp2_with fail
      refine FL.out.mono ?_
      rintro e w7 ⟨rfl, F7, ht7⟩
      have T7 : Hid (DTo wr F g rb.1 w7 F7) := T6.out.then ht7
      have K7 := Lib.hid (keep.out _ _ _ T7.out)
      have c7 := K7.out.1.1.cells.1
      have g7 := K7.out.2.2.1
      clear ht7 FL c6 g6
      go_wp2_with fail
      refine ⟨⟨c7, g7⟩, ?_⟩
      repeat (refine wpF_dry (fun K hK => ?_); go_simp; refine hK _ ?_; clear hK K)
      refine wpF_nil ?_
      clear c7 g7
      by_cases h2 : rb.2 = 0
      rotate_left
      · have E : Hid (run d (commitK P M) = rb) := by
          unfold Hid
          rw [commitK, ← HSM.out, stop2 (by rw [← HR1.out]; exact S1.out) (by rw [← HR1.out, ← HRB.out]; exact h2), ← HR1.out, ← HRB.out]
        obtain ⟨x1, x2⟩ := rb
        have d9 : (x2 != 0) = true := by simpa using h2
        clear h2
        go_wp2
        go_ret
        first | exact DN.out (x1, x2) E.out _ _ T7.out | (obtain ⟨_, y2, y3, e1, e2, e3⟩ := DN.out (x1, x2) E.out _ _ T7.out; injection e1 with e1; injection e1 with _ e1; subst e1; exact ⟨_, rfl, y2, e2, y3, e3⟩)
      rw [h2]
      have HAB : Hid (rb = run d (stepsA M ++ [flushS] ++ ([(0, mkB M)] ++ [flushS]))) := by unfold Hid; rw [run_go (by rw [← HR1.out]; exact S1.out), ← HR1.out, ← HSM.out, ← HRB.out]
      have S2 := Lib.hid h2
      clear h2
      have LB := Lib.hid (layAllB_any w7 F7 gj g P rb.1 T7.out.has K7.out.1.1 K7.out.1.2 hP M gm cm cur K7.out.2.1.1 K7.out.2.1.2 HCS.out (fun x hx => ⟨(MP.out x hx).1, (MP.out x hx).2.2⟩) (FRB.out.mono (by omega)) (by omega))
      unfold JTo at LB
      obtain ⟨rc, hrc⟩ : ∃ r, r = run rb.1 (stepsB P M) := ⟨_, rfl⟩
      rw [← hrc] at LB
      have HRC := Lib.hid hrc
      have FRC : Hid (Fw 3 rc.1) := by unfold Hid; rw [hrc]; exact fw_run _ (FRB.out.mono (by rw [stepsB_len]; omega))
      clear hrc
      obtain ⟨rd, hrd⟩ : ∃ r, r = run rb.1 (stepsB P M ++ [flushS]) := ⟨_, rfl⟩
      have HRD := Lib.hid hrd
      have FRD : Hid (Fw 2 rd.1) := by unfold Hid; rw [hrd]; exact fw_run _ (FRB.out.mono (by rw [List.length_append, stepsB_len]; simp; omega))
      go_wp2_with fail
      refine LB.out.mono ?_
      rintro e w8 ⟨rfl, F8, ht8⟩
      have T8 : Hid (DTo wr F g rc.1 w8 F8) := T7.out.then ht8
      have FL := Lib.hid (flushed_run w8 F8 gj g P rb.1 (stepsB P M) rc HRC.out T8.out.has (keep.out _ _ _ T8.out).1.1 (FRC.out.mono (by omega)))
      rw [← hrd] at FL
      clear ht8 LB hrd
      go_wp2_with fail
      refine FL.out.mono ?_
      rintro e w9 ⟨rfl, F9, ht9⟩
      have T9 : Hid (DTo wr F g rd.1 w9 F9) := T8.out.then ht9
      clear ht9 FL
      by_cases h3 : rd.2 = 0
      rotate_left
      · have E : Hid (run d (commitK P M) = rd) := by
          unfold Hid
          rw [commitK, stop1 (by rw [← HAB.out]; exact S2.out) (by rw [← HAB.out, ← HRD.out]; exact h3), ← HAB.out, ← HRD.out]
        obtain ⟨x1, x2⟩ := rd
        have d9 : (x2 != 0) = true := by simpa using h3
        clear h3
        go_wp2
        go_ret
        first | exact DN.out (x1, x2) E.out _ _ T9.out | (obtain ⟨_, y2, y3, e1, e2, e3⟩ := DN.out (x1, x2) E.out _ _ T9.out; injection e1 with e1; injection e1 with _ e1; subst e1; exact ⟨_, rfl, y2, e2, y3, e3⟩)
      rw [h3]
      have HAC : Hid (rd = run d (stepsA M ++ [flushS] ++ ([(0, mkB M)] ++ [flushS]) ++ (stepsB P M ++ [flushS]))) := by unfold Hid; rw [run_go (by rw [← HAB.out]; exact S2.out), ← HAB.out, ← HRD.out]
      have S3 := Lib.hid h3
      clear h3
      have J9 := Lib.hid (keep.out _ _ _ T9.out).1.1
      have J9d : Hid (Jb w9.drew gj g P) := J9.out.below (Below.refl _ w9).drew
      have c9 := J9d.out.cells.1
      have BW9 : Hid (Below w9.heap.size w9 (w9.alloc (.cells (madeCells #[.int .u8 0] 256) 5)).drew) := ((Below.refl _ w9).alloc (Nat.le_refl _) _).drew
      have T9a := Lib.hid (T9.out.post BW9.out)
      have J9a : Hid (Jb (w9.alloc (.cells (madeCells #[.int .u8 0] 256) 5)).drew gj g P) := J9.out.below BW9.out
      have c9a := J9a.out.cells.1
      obtain ⟨z, hz⟩ : ∃ z, z = Dk.sector0 := ⟨_, rfl⟩
      have hcv : (convert 51 9 (.slice (some ⟨w9.heap.size, 0, none⟩) 256 256)).run Try.prog (w9.alloc (.cells (madeCells #[.int .u8 0] 256) 5)).drew = .ok (.string z) (w9.alloc (.cells (madeCells #[.int .u8 0] 256) 5)).drew := by rw [hz]; exact conv_zero w9.drew 256 w9.heap.size rfl (by decide)
      have ZS : Hid (z.size = 256) := by unfold Hid; rw [hz]; exact Dk.rep_size 256 0
      have HZ := Lib.hid hz
      clear hz
      obtain ⟨re, hre⟩ : ∃ r, r = run rd.1 [(0, z)] := ⟨_, rfl⟩
      have HRE := Lib.hid hre
      have FRE : Hid (Fw 1 re.1) := by unfold Hid; rw [hre]; exact fw_run [_] (FRD.out.mono (by simp))
      clear hre
      obtain ⟨rf, hrf⟩ : ∃ r, r = run rd.1 ([(0, z)] ++ [flushS]) := ⟨_, rfl⟩
      have HRF := Lib.hid hrf
      have WR := Lib.hid (write_run (w9.alloc (.cells (madeCells #[.int .u8 0] 256) 5)).drew F9 g rd.1 T9a.out.has z (by have := ZS.out; omega) (FRD.out.mono (by omega)) re HRE.out)
      go_wp2_with fail
      refine wp_region_flag (fun w' => w'.cell? ⟨gj, 0, none⟩ = some (.pointer (some ⟨g, 0, none⟩))) [(0, 1), (1, 1), (2, 1), (3, 1), (4, 2), (5, 0), (6, 0), (7, 0), (8, 0), (9, 1)] (by kernel_rfl) (by kernel_rfl) c9 ?_
      simp only [ordered, List.map_cons, List.map_nil, List.getD_cons_zero, List.getD_cons_succ]
      repeat (refine wpF_dry (fun K hK => ?_); go_simp; refine hK _ ?_; clear hK K)
      refine wpF_read (.pointer (some ⟨g, 0, none⟩)) rfl (fun w' hS => by obtain s1 := hS; go_simp) (fun K hK => ?_)
      go_simp
      refine hK _ ?_
      clear hK K
      refine wpF_do ?_
      go_wp2_with fail
      refine ⟨c9a, ?_⟩
      refine wpF_do ?_
      go_wp2_with fail
      refine ⟨c9a, ?_⟩
      refine wpF_do ?_
      go_wp2_with fail
      refine WR.out.mono ?_
      rintro e w10 ⟨rfl, F10, ht10⟩
      have T10 : Hid (DTo wr F g re.1 w10 F10) := T9a.out.then ht10
      have K10 := Lib.hid (keep.out _ _ _ T10.out).1.1
      have c10 := K10.out.cells.1
      have FL := Lib.hid (flushed_run w10 F10 gj g P rd.1 [(0, z)] re HRE.out T10.out.has K10.out (FRE.out.mono (by omega)))
      rw [← hrf] at FL
      clear ht10 WR c9 c9a hrf hcv
      go_wp2_with fail
      refine ⟨c10, ?_⟩
      refine wpF_do ?_
      go_wp2_with fail
      refine FL.out.mono ?_
      rintro e w11 ⟨rfl, F11, ht11⟩
      have T11 : Hid (DTo wr F g rf.1 w11 F11) := T10.out.then ht11
      have c11 := (keep.out _ _ _ T11.out).1.1.cells.1
      clear ht11 FL c10
      go_wp2_with fail
      refine ⟨c11, ?_⟩
      repeat (refine wpF_dry (fun K hK => ?_); go_simp; refine hK _ ?_; clear hK K)
      refine wpF_nil ?_
      have E : Hid (run d (commitK P M) = rf) := by unfold Hid; rw [commitK, run_go (by rw [← HAC.out]; exact S3.out), ← HAC.out, ← HZ.out, ← HRF.out]
      obtain ⟨x1, x2⟩ := rf
      go_wp2
      go_ret
      first | exact DN.out (x1, x2) E.out _ _ T11.out | (obtain ⟨_, y2, y3, e1, e2, e3⟩ := DN.out (x1, x2) E.out _ _ T11.out; injection e1 with e1; injection e1 with _ e1; subst e1; exact ⟨_, rfl, y2, e2, y3, e3⟩)
end Go.Proofs.Ytoolkamajlgcbaa
/- JnQ: disks without a fuse, new disks: in plain words; the walk of lives. -/
set_option linter.unusedVariables false
set_option linter.unusedSimpArgs false
namespace Go.Proofs.Ytoolkamajlgcbaa
open Go.RowKit

theorem stepsA_can {n P : Nat} {M : List Chg} (h : ∀ x ∈ M, x.1 < P ∧ x.2.size = 1024) (hn : 8 * P + 1 ≤ n) : ∀ x ∈ stepsA M, Can n x := fun x hx => by
  unfold stepsA at hx
  rw [List.mem_flatMap] at hx
  obtain ⟨c, hc, hx⟩ := hx
  obtain ⟨h1, h2⟩ := h c hc
  exact laid_can h2 (by omega) x hx
theorem stepsB_can {n P : Nat} {M : List Chg} (h : ∀ x ∈ M, x.1 < P ∧ x.2.size = 1024) (hn : 8 * P + 1 ≤ n) : ∀ x ∈ stepsB P M, Can n x := fun x hx => by
  unfold stepsB at hx
  rw [List.mem_flatMap] at hx
  obtain ⟨c, hc, hx⟩ := hx
  obtain ⟨h1, h2⟩ := h c hc
  exact laid_can h2 (by omega) x hx
theorem mkB_size (l : List Chg) : (mkB l).size = 256 := mkK_len l
theorem commitK_can {n P : Nat} {M : List Chg} (h : ∀ x ∈ M, x.1 < P ∧ x.2.size = 1024) (hn : 8 * P + 1 ≤ n) : ∀ x ∈ commitK P M, Can n x := fun x hx => by
  unfold commitK at hx
  simp only [List.mem_append, List.mem_singleton] at hx
  rcases hx with (((hx | rfl) | (rfl | rfl)) | (hx | rfl)) | (rfl | rfl)
  · exact stepsA_can h hn x hx
  · exact .inl (by decide)
  · exact .inr ⟨by simp only; omega, mkB_size M⟩
  · exact .inl (by decide)
  · exact stepsB_can h hn x hx
  · exact .inl (by decide)
  · exact .inr ⟨by simp only; omega, Dk.rep_size 256 0⟩
  · exact .inl (by decide)
theorem stepsA_nwr (M : List Chg) : nwr (stepsA M) = 4 * M.length := by
  induction M with
  | nil => rfl
  | cons x M ih => show nwr (laid _ _ ++ stepsA M) = _; rw [nwr_append, ih, laid_nwr, List.length_cons]; omega
theorem stepsB_nwr (P : Nat) (M : List Chg) : nwr (stepsB P M) = 4 * M.length := by
  induction M with
  | nil => rfl
  | cons x M ih => show nwr (laid _ _ ++ stepsB P M) = _; rw [nwr_append, ih, laid_nwr, List.length_cons]; omega
theorem commitK_nwr (P : Nat) (M : List Chg) : nwr (commitK P M) = 8 * M.length + 2 := by
  unfold commitK
  simp only [nwr_append, stepsA_nwr, stepsB_nwr, flushS_nwr, zero_nwr]
  omega
-- new disks
/-- A commit on a calm disk. -/
theorem coto_calm {P : Nat} {d : Dk} {l : List (Int × ByteArray)} {x : Int} {d' : Dk} (h : CoTo P d l x d') (hc : Calm d) (hb : 8 * P + 1 ≤ d.l.length) :
    (whyE P l ≠ 0 ∧ x = whyE P l ∧ d' = d) ∨ (whyE P l = 0 ∧ x = 0 ∧ l = [] ∧ d' = d) ∨ (whyE P l = 0 ∧ x = 0 ∧ l ≠ [] ∧ Calm d' ∧ d'.writes = d.writes + (8 * l.length + 2 : Nat) ∧ d'.l.length = d.l.length ∧ ∃ M : List Chg, Ord M ∧ (M.map upc).Perm l ∧ d' = (run d (commitK P M)).1) := by
  cases h with
  | why h => exact .inl ⟨h, rfl, rfl⟩
  | down h hd => rw [hc.up] at hd; exact absurd hd (by decide)
  | none h hd hl => exact .inr (.inl ⟨h, rfl, hl, rfl⟩)
  | run h hd hl M hM hp =>
    have hlen : M.length = l.length := by rw [← hp.length_eq, List.length_map]
    have he := why_each h
    have hMe : ∀ c ∈ M, c.1 < P ∧ c.2.size = 1024 := fun c hcM => by
      have := he (upc c) (hp.mem_iff.1 (List.mem_map_of_mem hcM))
      unfold upc at this
      simp only at this
      omega
    obtain ⟨k1, k2, k3, k4⟩ := run_calm (commitK P M) hc (commitK_can hMe hb)
    rw [commitK_nwr, hlen] at k3
    exact .inr (.inr ⟨h, k1, hl, k2, k3, k4, M, hM, hp, rfl⟩)
end Go.Proofs.Ytoolkamajlgcbaa
/- JnU: a store at rest, and what commits leave of it. -/
set_option linter.unusedVariables false
set_option linter.unusedSimpArgs false
namespace Go.Proofs.Ytoolkamajlgcbaa
open Go.RowKit

/-- A store at rest: no fuse, nothing waits, the mark tells nothing. -/
structure Rest (P : Nat) (d : Dk) : Prop where
  calm : Calm d
  sz : Sz d
  len : d.l.length = 8 * P + 1
  waits : d.waits = []
  mark : d.l[0]? = some Dk.sector0
theorem Rest.sto {P : Nat} {d : Dk} (h : Rest P d) : Sto P d := ⟨h.calm.ok, h.sz, by rw [h.len]; exact Nat.le_refl _, h.calm.up⟩
theorem rest_new {P : Nat} (hP : P ≤ 128) : Rest P (Dk.new (8 * P + 1)) := ⟨calm_new (by omega) (by omega), sz_new _, by simp [Dk.new], rfl, by simp [Dk.new]⟩
theorem exs_ends (s : List ByteArray × List Stp) (a : List Stp) : (exs s (a ++ [flushS])).2 = [] := by rw [exs_append, exs_flush]
theorem exs_mark (l : List ByteArray) (z : ByteArray) : exs (l, []) ([(0, z)] ++ [flushS]) = (l.set 0 z, []) := by
  have h0 : ∀ x ∈ ([(0, z)] : List Stp), 0 ≤ x.1 := fun x hx => by
    obtain rfl : x = (0, z) := by simpa using hx
    exact Int.le_refl _
  rw [exs_append, exs_writes l [(0, z)] [] h0, exs_flush]
  rfl
theorem exs_commit (P : Nat) (M : List Chg) (s : List ByteArray × List Stp) : ∃ l' : List ByteArray, exs s (commitK P M) = (l'.set 0 Dk.sector0, []) := by
  unfold commitK
  rw [exs_append]
  have h2 : (exs s (stepsA M ++ [flushS] ++ ([(0, mkB M)] ++ [flushS]) ++ (stepsB P M ++ [flushS]))).2 = [] := by
    rw [← List.append_assoc _ (stepsB P M) [flushS]]
    exact exs_ends _ _
  generalize exs s (stepsA M ++ [flushS] ++ ([(0, mkB M)] ++ [flushS]) ++ (stepsB P M ++ [flushS])) = t at h2
  obtain ⟨l', w'⟩ := t
  obtain rfl : w' = [] := h2
  exact ⟨l', exs_mark l' _⟩
theorem commit_mem {P : Nat} {l : List (Int × ByteArray)} (h : whyE P l = 0) {M : List Chg} (hp : (M.map upc).Perm l) : ∀ c ∈ M, c.1 < P ∧ c.2.size = 1024 := fun c hc => by
  have := why_each h (upc c) (hp.mem_iff.1 (List.mem_map_of_mem hc))
  unfold upc at this
  simp only at this
  omega
theorem rest_run {P : Nat} {d : Dk} (hr : Rest P d) {M : List Chg} (hM : ∀ c ∈ M, c.1 < P ∧ c.2.size = 1024) : (run d (commitK P M)).2 = 0 ∧ Rest P (run d (commitK P M)).1 ∧ (run d (commitK P M)).1.writes = d.writes + (8 * M.length + 2 : Nat) := by
  have hc := commitK_can (P := P) hM (Nat.le_of_eq hr.len.symm)
  obtain ⟨k1, k2, k3, k4⟩ := run_calm (commitK P M) hr.calm hc
  rw [commitK_nwr] at k3
  obtain ⟨k, hk, he, hl, h⟩ := run_shape (commitK P M) hr.calm.ok hc
  rcases h with ⟨_, rfl⟩ | ⟨h, _⟩
  · rw [List.take_length] at he
    obtain ⟨l', hl'⟩ := exs_commit P M (d.l, d.waits)
    rw [hl'] at he
    injection he with e1 e2
    refine ⟨k1, ⟨k2, sz_run _ hr.sz, by rw [k4, hr.len], e2, ?_⟩, k3⟩
    have : (run d (commitK P M)).1.l.length = l'.length := by rw [e1, List.length_set]
    rw [k4, hr.len] at this
    rw [e1, List.getElem?_set_self (by omega)]
  · rw [k1] at h; exact absurd h (by decide)
theorem rest_coto {P : Nat} {d : Dk} (hr : Rest P d) {l : List (Int × ByteArray)} {x : Int} {d' : Dk} (h : CoTo P d l x d') : Rest P d' ∧ d'.writes ≤ d.writes + (8 * l.length + 2 : Nat) := by
  cases h with
  | why h => exact ⟨hr, by omega⟩
  | down h hd => exact ⟨hr, by omega⟩
  | none h hd hl => exact ⟨hr, by omega⟩
  | run h hd hl M hM hp =>
    obtain ⟨_, k2, k3⟩ := rest_run hr (commit_mem h hp)
    have hlen : M.length = l.length := by rw [← hp.length_eq, List.length_map]
    refine ⟨k2, ?_⟩
    rw [k3, hlen]
    omega
/-- Its mark is read as nothing told. -/
theorem rest_read0 {P : Nat} {d : Dk} (hr : Rest P d) : (d.read 0) = (Dk.sector0, 0) := by
  have hu : d.use 0 = 0 := by unfold Dk.use; rw [if_neg (by rw [hr.calm.up]; decide), if_neg (by have := hr.len; omega)]
  unfold Dk.read
  rw [if_pos hu, hr.waits, Dk.look, List.getD_eq_getElem?_getD, show (0 : Int).toNat = 0 from rfl, hr.mark]
  rfl
theorem rest_open {P : Nat} {d : Dk} (hr : Rest P d) : run d (openK P d (d.read 0).1) = (d, 0) := by rw [rest_read0 hr, openK_zero]; rfl
/-- It fails, and starts. -/
theorem rest_again {P : Nat} {d : Dk} (hr : Rest P d) (p : List Bool) : (d.fail p).startE = 0 ∧ Rest P (d.fail p).start ∧ (d.fail p).start.l = d.l := by
  have e : (d.fail p).l = d.l := by
    show Dk.settle _ 0 d.waits d.l = d.l
    rw [hr.waits]
    rfl
  have e0 : (d.fail p).startE = 0 := by unfold Dk.startE; rw [if_pos ⟨rfl, rfl⟩]
  have e1 : (d.fail p).start = { d.fail p with down := false } := by unfold Dk.start; rw [if_pos e0]
  refine ⟨e0, ?_, by rw [e1]; exact e⟩
  have ok := (hr.calm.ok.fail p).start
  have sz := sz_start (sz_fail hr.sz p)
  rw [e1] at ok sz ⊢
  exact ⟨⟨ok, rfl, rfl⟩, sz, by show (d.fail p).l.length = _; rw [e]; exact hr.len, rfl, by show (d.fail p).l[0]? = _; rw [e]; exact hr.mark⟩
theorem page_same {d e : Dk} (hl : d.l = e.l) (hw : d.waits = e.waits) (hd : d.down = e.down) (p : Int) : pageB d p = pageB e p := by
  have hu : ∀ i, d.use i = e.use i := fun i => by unfold Dk.use; rw [hl, hd]
  have : ∀ n, rdK d p n = rdK e p n := fun n => by
    induction n with
    | zero => rfl
    | succ n ih =>
      rw [rdK, rdK, ih]
      unfold Dk.read
      rw [hu, hl, hw]
  unfold pageB
  rw [this]
end Go.Proofs.Ytoolkamajlgcbaa
