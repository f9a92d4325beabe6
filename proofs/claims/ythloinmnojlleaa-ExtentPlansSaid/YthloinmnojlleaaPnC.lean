/- PnC: the walk of extent's Plan (written by gen_plan2.py). -/
import Derived.Test.YthloinmnojlleaaPnB
set_option linter.unusedVariables false
set_option linter.unusedSimpArgs false
namespace Go.Proofs.Ythloinmnojlleaa
open Go.RowKit

/-- The moves that lay spans together from a place on. -/
def mvs : Nat → List (Nat × Nat) → List (Nat × Nat × Nat)
  | _, [] => []
  | p, x :: l => (if x.1 = p then [] else [(x.1, p, x.2)]) ++ mvs (p + x.2) l
def sm : List (Nat × Nat) → Nat
  | [] => 0
  | x :: l => x.2 + sm l
theorem sm_snoc : ∀ (l : List (Nat × Nat)) (x : Nat × Nat), sm (l ++ [x]) = sm l + x.2
  | [], x => by simp [sm]
  | y :: l, x => by simp only [List.cons_append, sm, sm_snoc l x]; omega
theorem mvs_snoc : ∀ (p : Nat) (l : List (Nat × Nat)) (x : Nat × Nat), mvs p (l ++ [x]) = mvs p l ++ (if x.1 = p + sm l then [] else [(x.1, p + sm l, x.2)])
  | p, [], x => by simp [mvs, sm]; rfl
  | p, y :: l, x => by
    simp only [List.cons_append, mvs, sm, mvs_snoc (p + y.2) l x, List.append_assoc]
    rw [show p + y.2 + sm l = p + (y.2 + sm l) by omega]
    rfl
theorem mvs_len : ∀ (p : Nat) (l : List (Nat × Nat)), (mvs p l).length ≤ l.length
  | p, [] => by simp [mvs]
  | p, x :: l => by
    have := mvs_len (p + x.2) l
    simp only [mvs, List.length_append, List.length_cons]
    split <;> simp <;> omega
theorem sm_le {l : List (Nat × Nat)} (h : ∀ x ∈ l, x.2 ≤ 1048576) : sm l ≤ l.length * 1048576 := by
  induction l with
  | nil => simp [sm]
  | cons x l ih =>
    have := ih (fun y hy => h y (List.mem_cons_of_mem _ hy))
    have := h x (List.mem_cons_self ..)
    simp only [sm, List.length_cons]
    omega
def mc : List (Nat × Nat × Nat) → List Value
  | [] => []
  | m :: l => .int .i64 (m.1 : Int) :: .int .i64 (m.2.1 : Int) :: .int .i64 (m.2.2 : Int) :: mc l
theorem mc_append : ∀ a b, mc (a ++ b) = mc a ++ mc b
  | [], b => rfl
  | m :: a, b => by simp [mc, mc_append a b]
theorem mc_length : ∀ l, (mc l).length = l.length * 3
  | [] => rfl
  | m :: l => by simp [mc, mc_length l]; omega
/-- May the i-th of some spans, in order, be moved? -/
def okI (H M : List (Nat × Nat)) (i : Nat) : Bool := tknB H (M.getD i (0, 0)).1 (M.getD i (0, 0)).2 && (decide (i = 0) || decide ((M.getD (i - 1) (0, 0)).1 + (M.getD (i - 1) (0, 0)).2 ≤ (M.getD i (0, 0)).1))
structure PlanTo (w : World) (a : Ar) (L : List (Nat × Nat)) (e : Ending) (w' : World) : Prop where
  ex : ∃ M : List (Nat × Nat), M.Perm L ∧ Ord M ∧ (((∀ i, i < M.length → okI a.holes M i = true) ∧ ∃ v, e = .returned (.tuple #[v, .int .i64 0]) ∧ w'.ownsRow w.heap.size 61 3 v (mvs 0 M).length (mc (mvs 0 M))) ∨
    ((∃ i, i < M.length ∧ okI a.holes M i = false) ∧ e = .returned (.tuple #[.slice none 0 0, .int .i64 8])))
  bel : Below w.heap.size w w'
theorem infoMv : (Try.prog.info? 61).map (fun i => (i.zero, i.size, i.bytes)) = some (some (.agg #[.int .i64 0, .int .i64 0, .int .i64 0]), 3, 24) := by kernel_rfl
theorem three_new (w : World) (a b c : Value) (t : TypeId) : ∀ j u, [a, b, c][j]? = some u → (w.alloc (.cells #[a, b, c] t)).cell? ((⟨w.heap.size, 0, none⟩ : Addr).add j) = some u := by
  intro j u hj
  have h := blk_new w (.cells #[a, b, c] t)
  match j, hj with
  | 0, hj => rw [show (⟨w.heap.size, 0, none⟩ : Addr).add 0 = ⟨w.heap.size, 0, none⟩ from rfl, blk_cell h 0]; simpa using hj
  | 1, hj => rw [show (⟨w.heap.size, 0, none⟩ : Addr).add 1 = ⟨w.heap.size, 1, none⟩ from rfl, blk_cell h 1]; simpa using hj
  | 2, hj => rw [show (⟨w.heap.size, 0, none⟩ : Addr).add 2 = ⟨w.heap.size, 2, none⟩ from rfl, blk_cell h 2]; simpa using hj
  | j + 3, hj => simp at hj
theorem perm_len {L M : List (Nat × Nat)} (h : M.Perm L) : M.length = L.length := h.length_eq

theorem values_any (w : World) (A : Option Addr) (n c : Nat) : Calls Try.prog 43 #[.slice A n c] w fun e w' =>
    ∃ Bc, e = .returned (.func (.func 59) #[] #[.pointer (some ⟨Bc, 0, none⟩)]) ∧ w'.cell? ⟨Bc, 0, none⟩ = some (.slice A n c) ∧ Below w.heap.size w w' := by
  go_enter Try.func43, Try.ntmps43
  go_wp2
  go_ret
  exact ⟨w.heap.size, rfl, by simp, (Below.refl _ w).alloc (Nat.le_refl _) _⟩

theorem plan_nil (w : World) (A : Option Addr) (n c : Nat) : Calls Try.prog 26 #[.pointer none, .slice A n c] w fun e w' => e = .returned (.tuple #[.slice none 0 0, .int .i64 1]) ∧ w = w' := by
  go_enter Try.func26, Try.ntmps26
  go_wp2
  go_ret2
  exact ⟨rfl, rfl⟩

set_option maxHeartbeats 1600000 in
set_option maxRecDepth 100000 in
/-- A span that is none of the area's. -/
theorem plan_no (w : World) (F : Nat → Prop) (g : Nat) (a : Ar) (v : Value) (h : IsAr w F g a v) (A : Option Addr) (b off c : Nat) (L : List (Int × Int)) (hlc : L.length ≤ 9223372036854775807)
    (hA : 0 < L.length → A = some ⟨b, off, none⟩) (hrd : ∀ (j : Nat) (h : j < L.length), w.cell? ⟨b, off + j * 2, none⟩ = some (.int .i64 L[j].1) ∧ w.cell? ⟨b, off + j * 2 + 1, none⟩ = some (.int .i64 L[j].2))
    (p : Nat) (hp : p < L.length) (hno : a.within L[p].1 L[p].2 = false) :
    Calls Try.prog 26 #[.pointer (some ⟨g, 0, none⟩), .slice A L.length c] w fun e w' => e = .returned (.tuple #[.slice none 0 0, .int .i64 9]) ∧ Below w.heap.size w w' := by
  have H := Lib.hid h
  have HRD := Lib.hid hrd
  obtain rfl := hA (by omega)
  have HNO := Lib.hid hno
  clear h hrd hA hno
  go_enter Try.func26, Try.ntmps26
  go_wp2_with fail
  go_loopw [19] (fun i wr => ∃ k : Nat, k ≤ p ∧ i = .int .i64 k ∧ Hid (Below w.heap.size w wr)) (fun i _ => p - (intOf i).toNat)
  case atStart => exact ⟨0, Nat.zero_le _, rfl, Below.refl _ _⟩
  case round =>
    obtain ⟨k, hk, rfl, hb⟩ := hrel
    have hlt : k < L.length := by omega
    obtain ⟨c0, c1⟩ := HRD.out k hlt
    replace c0 := cell_below hb.out c0
    replace c1 := cell_below hb.out c1
    have E : Hid (k = p → a.within L[k].1 L[k].2 = false) := fun e => by subst e; exact HNO.out
    generalize L[k] = x at c0 c1 E
    have WI := Lib.hid (within_any (wr.alloc (.cells #[.int .i64 x.1, .int .i64 x.2] 30)) F g a v ((H.out.below hb.out).below ((Below.refl _ wr).alloc (Nat.le_refl _) _)) x.1 x.2)
    have BA : Hid (Below wr.heap.size wr (wr.alloc (.cells #[.int .i64 x.1, .int .i64 x.2] 30))) := (Below.refl _ wr).alloc (Nat.le_refl _) _
    go_wp2_with fail
    refine WI.out.mono ?_
    rintro e w2 ⟨rfl, b2⟩
    have B2 : Hid (Below w.heap.size w w2) := hb.out.trans ((BA.out.trans (b2.mono BA.out.size)).mono hb.out.size)
    clear b2 WI BA c0 c1
    cases hw : a.within x.1 x.2 with
    | false =>
      clear hw E
      go_wp2
      go_ret2
      exact ⟨rfl, B2.out⟩
    | true =>
      have hkp : k < p := by
        rcases Nat.lt_or_ge k p with h | h
        · exact h
        · rw [E.out (by omega)] at hw; cases hw
      clear hw E
      go_wp2
      go_roundw
      case rel => exact ⟨k + 1, hkp, by go_num, B2⟩
      case measure => simp [intOf]; omega

set_option maxHeartbeats 6400000 in
set_option maxRecDepth 100000 in
/-- Spans that are all the area's. -/
theorem plan_yes (w : World) (F : Nat → Prop) (g : Nat) (a : Ar) (v : Value) (h : IsAr w F g a v) (A : Option Addr) (b off c : Nat) (L : List (Nat × Nat)) (hlc : L.length ≤ 1048577)
    (hA : 0 < L.length → A = some ⟨b, off, none⟩) (hrd : ∀ (j : Nat) (h : j < L.length), w.cell? ⟨b, off + j * 2, none⟩ = some (.int .i64 (L[j].1 : Int)) ∧ w.cell? ⟨b, off + j * 2 + 1, none⟩ = some (.int .i64 (L[j].2 : Int)))
    (hin : ∀ x ∈ L, 1 ≤ x.2 ∧ x.1 + x.2 ≤ a.size) :
    Calls Try.prog 26 #[.pointer (some ⟨g, 0, none⟩), .slice A L.length c] w fun e w' => PlanTo w a L e w' := by
  obtain ⟨i0, hi, hz0, hz1, hz2⟩ := info_parts infoMv
  have H := Lib.hid h
  have HRD := Lib.hid hrd
  have HA := Lib.hid hA
  have HIN := Lib.hid hin
  have most := h.ok.most
  clear h hrd hA hin
  go_enter Try.func26, Try.ntmps26
  go_wp2_with fail
  go_loopw [19] (fun i wr => ∃ k : Nat, k ≤ L.length ∧ i = .int .i64 k ∧ Hid (Below w.heap.size w wr)) (fun i _ => L.length - (intOf i).toNat)
  case atStart => exact ⟨0, Nat.zero_le _, rfl, Below.refl _ _⟩
  case round =>
    obtain ⟨k, hk, rfl, hb⟩ := hrel
    by_cases hlt : k < L.length
    · obtain rfl := HA.out (by omega)
      obtain ⟨c0, c1⟩ := HRD.out k hlt
      replace c0 := cell_below hb.out c0
      replace c1 := cell_below hb.out c1
      have E := HIN.out L[k] (List.getElem_mem hlt)
      generalize L[k] = x at c0 c1 E
      have WI := Lib.hid (within_any (wr.alloc (.cells #[.int .i64 (x.1 : Int), .int .i64 (x.2 : Int)] 30)) F g a v ((H.out.below hb.out).below ((Below.refl _ wr).alloc (Nat.le_refl _) _)) x.1 x.2)
      rw [show a.within (x.1 : Int) (x.2 : Int) = true by unfold Ar.within; simp; omega] at WI
      have BA : Hid (Below wr.heap.size wr (wr.alloc (.cells #[.int .i64 (x.1 : Int), .int .i64 (x.2 : Int)] 30))) := (Below.refl _ wr).alloc (Nat.le_refl _) _
      clear E
      go_wp2_with fail
      refine WI.out.mono ?_
      rintro e w2 ⟨rfl, b2⟩
      have B2 : Hid (Below w.heap.size w w2) := hb.out.trans ((BA.out.trans (b2.mono BA.out.size)).mono hb.out.size)
      clear b2 WI BA c0 c1
      go_wp2
      go_roundw
      case rel => exact ⟨k + 1, hlt, by go_num, B2⟩
      case measure => simp [intOf]; omega
    · obtain rfl : k = L.length := by omega
      clear hk hlt
      go_wp2_with fail
      refine (values_any _ A L.length c).mono ?_
      rintro e w2 ⟨Bc, rfl, hbx, b2⟩
      have B2 : Hid (Below w.heap.size w w2) := hb.out.trans (b2.mono hb.out.size)
      have SO := Lib.hid (sorted_any Bc A b off c L w2 hbx HA.out (fun j hj => ⟨cell_below B2.out (HRD.out j hj).1, cell_below B2.out (HRD.out j hj).2⟩) hlc (fun x hx => by have := HIN.out x hx; omega))
      clear hbx b2 hb
      go_wp2_with fail
      refine SO.out.mono ?_
      rintro e w3 ⟨sv, M, rfl, pm, om, ho, b3⟩
      have hml : M.length ≤ 1048577 := by rw [perm_len pm]; exact hlc
      have PM := Lib.hid pm; have OM := Lib.hid om
      have MIN : Hid (∀ x ∈ M, 1 ≤ x.2 ∧ x.1 + x.2 ≤ a.size) := fun x hx => HIN.out x (pm.subset hx)
      have B3 : Hid (Below w.heap.size w w3) := B2.out.trans (b3.mono B2.out.size)
      have HO := Lib.hid ho
      obtain ⟨As, cs, rfl⟩ := own_slice ho
      clear pm om ho b3 SO B2
      go_wp2_with fail
      go_loopw [33] (fun i wr => ∃ k : Nat, k ≤ M.length ∧ i = .int .i64 k ∧ Hid (Below w3.heap.size w3 wr) ∧ Hid (∀ i, i < k → okI a.holes M i = true)) (fun i _ => M.length - (intOf i).toNat)
      case atStart => exact ⟨0, Nat.zero_le _, rfl, Below.refl _ _, fun i h => absurd h (Nat.not_lt_zero _)⟩
      case round =>
        obtain ⟨k, hk, rfl, hb, hok⟩ := hrel
        by_cases hlt : k < M.length
        · obtain ⟨g1, c1', e3, _, hg1, hc⟩ := row_at HO.out (by omega)
          injection e3 with e3 e4 e5
          subst e3 e5
          obtain ⟨z1, z2⟩ := hc k hlt
          replace z1 := cell_below hb.out z1
          replace z2 := cell_below hb.out z2
          have E := MIN.out M[k] (List.getElem_mem hlt)
          have OKI : Hid (okI a.holes M k = (tknB a.holes M[k].1 M[k].2 && (decide (k = 0) || decide ((M.getD (k - 1) (0, 0)).1 + (M.getD (k - 1) (0, 0)).2 ≤ M[k].1)))) := by unfold Hid okI; rw [getD_get hlt]
          have PREV : Hid (0 < k → ∃ y : Nat × Nat, M.getD (k - 1) (0, 0) = y ∧ y.1 + y.2 ≤ a.size ∧ wr.cell? ⟨g1, (k - 1) * 2, none⟩ = some (.int .i64 (y.1 : Int)) ∧ wr.cell? ⟨g1, (k - 1) * 2 + 1, none⟩ = some (.int .i64 (y.2 : Int))) := fun h0 =>
            ⟨M[k - 1], getD_get (by omega), (MIN.out _ (List.getElem_mem (by omega))).2, cell_below hb.out (hc (k - 1) (by omega)).1, cell_below hb.out (hc (k - 1) (by omega)).2⟩
          generalize M[k] = x at z1 z2 E OKI
          have g2 := blk_new wr (.cells #[.int .i64 (x.1 : Int), .int .i64 (x.2 : Int)] 30)
          have y0 := blk_cell g2 0; have y1 := blk_cell g2 1
          simp only [List.getElem?_toArray, List.getElem?_cons_zero, List.getElem?_cons_succ] at y0 y1
          have BA : Hid (Below wr.heap.size wr (wr.alloc (.cells #[.int .i64 (x.1 : Int), .int .i64 (x.2 : Int)] 30)).drew) := ((Below.refl _ wr).alloc (Nat.le_refl _) _).drew
          have BW : Hid (Below w.heap.size w (wr.alloc (.cells #[.int .i64 (x.1 : Int), .int .i64 (x.2 : Int)] 30)).drew) := B3.out.trans ((hb.out.trans (BA.out.mono hb.out.size)).mono B3.out.size)
          have TK := Lib.hid (tkn_any (wr.alloc (.cells #[.int .i64 (x.1 : Int), .int .i64 (x.2 : Int)] 30)).drew F g a v (H.out.below BW.out) x.1 x.2 (by omega))
          clear hc g2 e4 hg1
          have DR := fun (p : Addr) (u : Value) (hh : wr.cell? p = some u) => cell_below BA.out hh
          have y0 := cell_below (Below.refl _ (wr.alloc (.cells #[.int .i64 (x.1 : Int), .int .i64 (x.2 : Int)] 30))).drew y0
          have y1 := cell_below (Below.refl _ (wr.alloc (.cells #[.int .i64 (x.1 : Int), .int .i64 (x.2 : Int)] 30))).drew y1
          have DRH := Lib.hid DR
          clear DR
          cases hT : tknB a.holes x.1 x.2 with
          | false =>
            have BD : Hid (okI a.holes M k = false) := by unfold Hid; rw [OKI.out, hT]; rfl
            clear PREV OKI
            replace hT := Lib.hid hT
            go_wp2_with fail
            refine wp_region_flag (fun w' => w'.cell? ⟨wr.heap.size, 0, none⟩ = some (.int .i64 (x.1 : Int)) ∧ w'.cell? ⟨wr.heap.size, 1, none⟩ = some (.int .i64 (x.2 : Int))) [(0, 1), (1, 0), (2, 0), (3, 1), (4, 1), (5, 1), (6, 1), (7, 1), (8, 1), (9, 1), (10, 1), (11, 1), (12, 1), (14, 1), (15, 1), (16, 1), (17, 1), (18, 1), (21, 1), (13, 2), (19, 2), (20, 1), (22, 0), (23, 1), (24, 1), (25, 1)] (by kernel_rfl) (by kernel_rfl) ⟨y0, y1⟩ ?_
            simp only [ordered, List.map_cons, List.map_nil, List.getD_cons_zero, List.getD_cons_succ]
            repeat (refine wpF_dry (fun K hK => ?_); go_simp; refine hK _ ?_; clear hK K)
            refine wpF_do ?_
            go_wp2_with fail
            refine ⟨⟨y0, y1⟩, ?_⟩
            refine wpF_do ?_
            go_wp2_with fail
            refine TK.out.mono ?_
            rintro e w5 ⟨rfl, b5⟩
            have B5 : Hid (Below w3.heap.size w3 w5) := hb.out.trans ((BA.out.trans (b5.mono BA.out.size)).mono hb.out.size)
            replace y0 := cell_below b5 y0; replace y1 := cell_below b5 y1
            clear b5 TK
            rw [hT.out]
            go_wp2_with fail
            refine ⟨⟨y0, y1⟩, ?_⟩
            repeat (refine wpF_dry (fun K hK => ?_); go_simp; refine hK _ ?_; clear hK K)
            refine wpF_skip (fun K hK => ?_)
            go_simp
            first | refine hK _ ?_ | refine ⟨(fun hh => by cases hh), hK _ ?_⟩
            clear hK K
            refine wpF_skip (fun K hK => ?_)
            go_simp
            first | refine hK _ ?_ | refine ⟨(fun hh => by cases hh), hK _ ?_⟩
            clear hK K
            repeat (refine wpF_dry (fun K hK => ?_); go_simp; refine hK _ ?_; clear hK K)
            refine wpF_do ?_
            go_wp2_with fail
            refine ⟨⟨y0, y1⟩, ?_⟩
            repeat (refine wpF_dry (fun K hK => ?_); go_simp; refine hK _ ?_; clear hK K)
            refine wpF_nil ?_
            go_wp2
            go_ret2
            exact ⟨⟨M, PM.out, OM.out, .inr ⟨⟨k, hlt, BD.out⟩, rfl⟩⟩, B3.out.trans (B5.out.mono B3.out.size)⟩
          | true =>
            by_cases hk0 : k < 1
            · have hk0 : k = 0 := by omega
              subst hk0
              have BD : Hid (okI a.holes M 0 = true) := by unfold Hid; rw [OKI.out, hT]; rfl
              clear PREV OKI
              replace hT := Lib.hid hT
              go_wp2_with fail
              refine wp_region_flag (fun w' => w'.cell? ⟨wr.heap.size, 0, none⟩ = some (.int .i64 (x.1 : Int)) ∧ w'.cell? ⟨wr.heap.size, 1, none⟩ = some (.int .i64 (x.2 : Int))) [(0, 1), (1, 0), (2, 0), (3, 1), (4, 1), (5, 1), (6, 1), (7, 1), (8, 1), (9, 1), (10, 1), (11, 1), (12, 1), (14, 1), (15, 1), (16, 1), (17, 1), (18, 1), (21, 1), (13, 2), (19, 2), (20, 1), (22, 0), (23, 1), (24, 1), (25, 1)] (by kernel_rfl) (by kernel_rfl) ⟨y0, y1⟩ ?_
              simp only [ordered, List.map_cons, List.map_nil, List.getD_cons_zero, List.getD_cons_succ]
              repeat (refine wpF_dry (fun K hK => ?_); go_simp; refine hK _ ?_; clear hK K)
              refine wpF_do ?_
              go_wp2_with fail
              refine ⟨⟨y0, y1⟩, ?_⟩
              refine wpF_do ?_
              go_wp2_with fail
              refine TK.out.mono ?_
              rintro e w5 ⟨rfl, b5⟩
              have B5 : Hid (Below w3.heap.size w3 w5) := hb.out.trans ((BA.out.trans (b5.mono BA.out.size)).mono hb.out.size)
              replace y0 := cell_below b5 y0; replace y1 := cell_below b5 y1
              clear b5 TK
              rw [hT.out]
              go_wp2_with fail
              refine ⟨⟨y0, y1⟩, ?_⟩
              repeat (refine wpF_dry (fun K hK => ?_); go_simp; refine hK _ ?_; clear hK K)
              refine wpF_skip (fun K hK => ?_)
              go_simp
              first | refine hK _ ?_ | refine ⟨(fun hh => by cases hh), hK _ ?_⟩
              clear hK K
              refine wpF_skip (fun K hK => ?_)
              go_simp
              first | refine hK _ ?_ | refine ⟨(fun hh => by cases hh), hK _ ?_⟩
              clear hK K
              repeat (refine wpF_dry (fun K hK => ?_); go_simp; refine hK _ ?_; clear hK K)
              refine wpF_do ?_
              go_wp2_with fail
              refine ⟨⟨y0, y1⟩, ?_⟩
              repeat (refine wpF_dry (fun K hK => ?_); go_simp; refine hK _ ?_; clear hK K)
              refine wpF_nil ?_
              have OK2 : Hid (∀ i, i < 0 + 1 → okI a.holes M i = true) := fun i hi => by
                by_cases e : i = 0
                · subst e; exact BD.out
                · exact hok.out i (by omega)
              go_wp2
              go_roundw
              case rel => first | exact ⟨0 + 1, hlt, by go_num, B5, OK2⟩ | ((repeat apply Exists.intro); refine ⟨?_, rfl⟩; exact ⟨0 + 1, hlt, by go_num, B5, OK2⟩)
              case measure => simp [intOf]; omega
            · obtain ⟨y, hy, hyn, p0, p1⟩ := PREV.out (by omega)
              rw [hy] at OKI
              replace p0 := DRH.out _ _ p0; replace p1 := DRH.out _ _ p1
              have dk : decide ((0 : Int) < (k : Int)) = true := by simp; omega
              have dk2 : decide (0 < k) = true := by simp; omega
              obtain ⟨kp, hkp⟩ : ∃ kp, kp = k - 1 := ⟨_, rfl⟩
              rw [← hkp] at p0 p1
              have ks : (k : Int) - 1 = (kp : Int) := by omega
              have kw : IntKind.i64.wrap (kp : Int) = (kp : Int) := by rw [IntKind.wrap_i64]; omega
              have kpl : kp < M.length := by omega
              obtain ⟨ys, hys⟩ : ∃ ys, ys = y.1 + y.2 := ⟨_, rfl⟩
              have e1 : (y.1 : Int) + (y.2 : Int) = (ys : Int) := by omega
              rw [← hys] at OKI hyn
              have e2 : IntKind.i64.wrap (ys : Int) = (ys : Int) := by rw [IntKind.wrap_i64]; omega
              have HKP := Lib.hid hkp
              clear hy hys hkp PREV
              by_cases q : x.1 < ys
              · have BD : Hid (okI a.holes M k = false) := by unfold Hid; rw [OKI.out, hT, decide_eq_false (by omega), decide_eq_false (by omega)]; rfl
                have dq : decide (x.1 < ys) = true := by simpa using q
                have dq' : decide ((x.1 : Int) < (ys : Int)) = true := by simp; omega
                clear q OKI
                replace hT := Lib.hid hT
                go_wp2_with fail
                refine wp_region_flag (fun w' => w'.cell? ⟨wr.heap.size, 0, none⟩ = some (.int .i64 (x.1 : Int)) ∧ w'.cell? ⟨wr.heap.size, 1, none⟩ = some (.int .i64 (x.2 : Int)) ∧ w'.cell? ⟨g1, kp * 2, none⟩ = some (.int .i64 (y.1 : Int)) ∧ w'.cell? ⟨g1, kp * 2 + 1, none⟩ = some (.int .i64 (y.2 : Int))) [(0, 1), (1, 0), (2, 0), (3, 1), (4, 1), (5, 1), (6, 1), (7, 1), (8, 1), (9, 1), (10, 1), (11, 1), (12, 1), (14, 1), (15, 1), (16, 1), (17, 1), (18, 1), (21, 1), (13, 2), (19, 2), (20, 1), (22, 0), (23, 1), (24, 1), (25, 1)] (by kernel_rfl) (by kernel_rfl) ⟨y0, y1, p0, p1⟩ ?_
                simp only [ordered, List.map_cons, List.map_nil, List.getD_cons_zero, List.getD_cons_succ]
                repeat (refine wpF_dry (fun K hK => ?_); go_simp; refine hK _ ?_; clear hK K)
                refine wpF_do ?_
                go_wp2_with fail
                refine ⟨⟨y0, y1, p0, p1⟩, ?_⟩
                refine wpF_do ?_
                go_wp2_with fail
                refine TK.out.mono ?_
                rintro e w5 ⟨rfl, b5⟩
                have B5 : Hid (Below w3.heap.size w3 w5) := hb.out.trans ((BA.out.trans (b5.mono BA.out.size)).mono hb.out.size)
                replace y0 := cell_below b5 y0; replace y1 := cell_below b5 y1
                replace p0 := cell_below b5 p0; replace p1 := cell_below b5 p1
                clear b5 TK
                rw [hT.out]
                go_wp2_with fail
                refine ⟨⟨y0, y1, p0, p1⟩, ?_⟩
                repeat (refine wpF_dry (fun K hK => ?_); go_simp; refine hK _ ?_; clear hK K)
                refine wpF_read (.int .i64 (y.1 : Int)) rfl (fun w' hS => by obtain ⟨s1, s2, s3, s4⟩ := hS; go_simp) (fun K hK => ?_)
                go_simp
                refine hK _ ?_
                clear hK K
                refine wpF_read (.int .i64 (y.2 : Int)) rfl (fun w' hS => by obtain ⟨s1, s2, s3, s4⟩ := hS; go_simp) (fun K hK => ?_)
                go_simp
                refine hK _ ?_
                clear hK K
                repeat (refine wpF_dry (fun K hK => ?_); go_simp; refine hK _ ?_; clear hK K)
                refine wpF_do ?_
                go_wp2_with fail
                refine ⟨⟨y0, y1, p0, p1⟩, ?_⟩
                repeat (refine wpF_dry (fun K hK => ?_); go_simp; refine hK _ ?_; clear hK K)
                refine wpF_nil ?_
                go_wp2
                go_ret2
                exact ⟨⟨M, PM.out, OM.out, .inr ⟨⟨k, hlt, BD.out⟩, rfl⟩⟩, B3.out.trans (B5.out.mono B3.out.size)⟩
              · have BD : Hid (okI a.holes M k = true) := by unfold Hid; rw [OKI.out, hT, decide_eq_false (by omega), decide_eq_true (by omega)]; rfl
                have dq : decide (x.1 < ys) = false := by simpa using q
                have dq' : decide ((x.1 : Int) < (ys : Int)) = false := by simp; omega
                clear q OKI
                replace hT := Lib.hid hT
                go_wp2_with fail
                refine wp_region_flag (fun w' => w'.cell? ⟨wr.heap.size, 0, none⟩ = some (.int .i64 (x.1 : Int)) ∧ w'.cell? ⟨wr.heap.size, 1, none⟩ = some (.int .i64 (x.2 : Int)) ∧ w'.cell? ⟨g1, kp * 2, none⟩ = some (.int .i64 (y.1 : Int)) ∧ w'.cell? ⟨g1, kp * 2 + 1, none⟩ = some (.int .i64 (y.2 : Int))) [(0, 1), (1, 0), (2, 0), (3, 1), (4, 1), (5, 1), (6, 1), (7, 1), (8, 1), (9, 1), (10, 1), (11, 1), (12, 1), (14, 1), (15, 1), (16, 1), (17, 1), (18, 1), (21, 1), (13, 2), (19, 2), (20, 1), (22, 0), (23, 1), (24, 1), (25, 1)] (by kernel_rfl) (by kernel_rfl) ⟨y0, y1, p0, p1⟩ ?_
                simp only [ordered, List.map_cons, List.map_nil, List.getD_cons_zero, List.getD_cons_succ]
                repeat (refine wpF_dry (fun K hK => ?_); go_simp; refine hK _ ?_; clear hK K)
                refine wpF_do ?_
                go_wp2_with fail
                refine ⟨⟨y0, y1, p0, p1⟩, ?_⟩
                refine wpF_do ?_
                go_wp2_with fail
                refine TK.out.mono ?_
                rintro e w5 ⟨rfl, b5⟩
                have B5 : Hid (Below w3.heap.size w3 w5) := hb.out.trans ((BA.out.trans (b5.mono BA.out.size)).mono hb.out.size)
                replace y0 := cell_below b5 y0; replace y1 := cell_below b5 y1
                replace p0 := cell_below b5 p0; replace p1 := cell_below b5 p1
                clear b5 TK
                rw [hT.out]
                go_wp2_with fail
                refine ⟨⟨y0, y1, p0, p1⟩, ?_⟩
                repeat (refine wpF_dry (fun K hK => ?_); go_simp; refine hK _ ?_; clear hK K)
                refine wpF_read (.int .i64 (y.1 : Int)) rfl (fun w' hS => by obtain ⟨s1, s2, s3, s4⟩ := hS; go_simp) (fun K hK => ?_)
                go_simp
                refine hK _ ?_
                clear hK K
                refine wpF_read (.int .i64 (y.2 : Int)) rfl (fun w' hS => by obtain ⟨s1, s2, s3, s4⟩ := hS; go_simp) (fun K hK => ?_)
                go_simp
                refine hK _ ?_
                clear hK K
                repeat (refine wpF_dry (fun K hK => ?_); go_simp; refine hK _ ?_; clear hK K)
                refine wpF_do ?_
                go_wp2_with fail
                refine ⟨⟨y0, y1, p0, p1⟩, ?_⟩
                repeat (refine wpF_dry (fun K hK => ?_); go_simp; refine hK _ ?_; clear hK K)
                refine wpF_nil ?_
                have OK2 : Hid (∀ i, i < k + 1 → okI a.holes M i = true) := fun i hi => by
                  by_cases e : i = k
                  · subst e; exact BD.out
                  · exact hok.out i (by omega)
                go_wp2
                go_roundw
                case rel => first | exact ⟨k + 1, hlt, by go_num, B5, OK2⟩ | ((repeat apply Exists.intro); refine ⟨?_, rfl⟩; exact ⟨k + 1, hlt, by go_num, B5, OK2⟩)
                case measure => simp [intOf]; omega
        · obtain rfl : k = M.length := by omega
          have BB := Lib.hid hb.out
          have OKA := Lib.hid hok.out
          have SUM : Hid (∀ k, k ≤ M.length → sm (M.take k) ≤ k * 1048576) := fun k hk => by
            have := sm_le (l := M.take k) (fun x hx => by have := MIN.out x (List.mem_of_mem_take hx); omega)
            rw [List.length_take, Nat.min_eq_left hk] at this
            exact this
          have SNO : Hid (∀ k (hk : k < M.length), sm (M.take (k + 1)) = sm (M.take k) + M[k].2 ∧ mvs 0 (M.take (k + 1)) = mvs 0 (M.take k) ++ (if M[k].1 = sm (M.take k) then [] else [(M[k].1, sm (M.take k), M[k].2)])) := fun k hk => by
            rw [List.take_succ_eq_append_getElem hk, sm_snoc, mvs_snoc, Nat.zero_add]
            exact ⟨rfl, rfl⟩
          have LEN : Hid (∀ k, (mvs 0 (M.take k)).length ≤ 1048577) := fun k => by
            have := mvs_len 0 (M.take k)
            rw [List.length_take] at this
            omega
          have hsz : w.heap.size ≤ wr.heap.size := Nat.le_trans B3.out.size hb.out.size
          clear hk hlt hb hok
          go_wp2_with fail
          go_loopw [11, 12, 67] (fun ov av i wr => ∃ k : Nat, k ≤ M.length ∧ i = .int .i64 k ∧ av = .int .i64 (sm (M.take k) : Nat) ∧ Hid (wr.ownsRow w3.heap.size 61 3 ov (mvs 0 (M.take k)).length (mc (mvs 0 (M.take k)))) ∧ Hid (Below w3.heap.size w3 wr)) (fun _ _ i _ => M.length - (intOf i).toNat)
          case atStart => exact ⟨0, Nat.zero_le _, rfl, rfl, World.ownsRow_nil _ _ _ _, BB⟩
          case round =>
            obtain ⟨k, hk, rfl, rfl, ho, hb⟩ := hrel
            by_cases hlt : k < M.length
            · obtain ⟨g1, c1', e3, _, hg1, hc⟩ := row_at HO.out (by omega)
              injection e3 with e3 e4 e5
              subst e3 e5
              obtain ⟨z1, z2⟩ := hc k hlt
              replace z1 := cell_below hb.out z1
              replace z2 := cell_below hb.out z2
              have E := MIN.out M[k] (List.getElem_mem hlt)
              obtain ⟨sn1, sn2⟩ := SNO.out k hlt
              have s1 := SUM.out k hk
              have l1 := LEN.out k
              have SN1 := Lib.hid sn1; have SN2 := Lib.hid sn2
              have HSZ : Hid (w3.heap.size ≤ wr.heap.size) := hb.out.size
              generalize M[k] = x at z1 z2 E SN1 SN2
              generalize sm (M.take k) = t at s1 SN1 SN2 ⊢
              generalize mvs 0 (M.take k) = U at l1 ho SN2
              obtain ⟨Ao, co, eo⟩ := own_slice ho.out
              subst eo
              clear hc e4 hg1 sn1 sn2
              by_cases q : x.1 = t
              · have dq : (x.1 == t) = true := by simpa using q
                have dq2 : (x.1 != t) = false := by simp [q]
                have dq3 : ((x.1 : Int) != (t : Int)) = false := by simp [q]
                have dq4 : ((x.1 : Int) == (t : Int)) = true := by simp [q]
                have SA : Hid (mvs 0 (M.take (k + 1)) = U) := by unfold Hid; rw [SN2.out, if_pos q, List.append_nil]
                have BZ : Hid (Below w3.heap.size w3 (wr.alloc (.cells #[.int .i64 (x.1 : Int), .int .i64 (x.2 : Int)] 30))) := hb.out.alloc hb.out.size _
                have HO2 : Hid ((wr.alloc (.cells #[.int .i64 (x.1 : Int), .int .i64 (x.2 : Int)] 30)).ownsRow w3.heap.size 61 3 (.slice Ao U.length co) U.length (mc U)) := ho.out.alloc _
                clear q
                go_wp2
                go_roundw
                case rel => first | exact ⟨k + 1, hlt, by go_num, by rw [SN1.out]; go_num, by rw [SA.out]; exact HO2, BZ⟩ | ((repeat apply Exists.intro); refine ⟨?_, rfl⟩; exact ⟨k + 1, hlt, by go_num, by rw [SN1.out]; go_num, by rw [SA.out]; exact HO2, BZ⟩)
                case measure => simp [intOf]; omega
              · have dq : (x.1 == t) = false := by simpa using q
                have dq2 : (x.1 != t) = true := by simp [q]
                have dq3 : ((x.1 : Int) != (t : Int)) = true := by simp; omega
                have dq4 : ((x.1 : Int) == (t : Int)) = false := by simp; omega
                have SA : Hid (mvs 0 (M.take (k + 1)) = U ++ [(x.1, t, x.2)]) := by unfold Hid; rw [SN2.out, if_neg q]
                have BZ : Hid (Below w3.heap.size w3 ((wr.alloc (.cells #[.int .i64 (x.1 : Int), .int .i64 (x.2 : Int)] 30)).alloc (.cells #[.int .i64 (x.1 : Int), .int .i64 (t : Int), .int .i64 (x.2 : Int)] 61))) := (hb.out.alloc hb.out.size _).alloc (by have := hb.out.size; simp; omega) _
                have HO2 : Hid (((wr.alloc (.cells #[.int .i64 (x.1 : Int), .int .i64 (x.2 : Int)] 30)).alloc (.cells #[.int .i64 (x.1 : Int), .int .i64 (t : Int), .int .i64 (x.2 : Int)] 61)).ownsRow w3.heap.size 61 3 (.slice Ao U.length co) U.length (mc U)) := (ho.out.alloc _).alloc _
                have N3 : Hid (∀ j u, [Value.int .i64 (x.1 : Int), .int .i64 (t : Int), .int .i64 (x.2 : Int)][j]? = some u → ((wr.alloc (.cells #[.int .i64 (x.1 : Int), .int .i64 (x.2 : Int)] 30)).alloc (.cells #[.int .i64 (x.1 : Int), .int .i64 (t : Int), .int .i64 (x.2 : Int)] 61)).cell? ((⟨wr.heap.size + 1, 0, none⟩ : Addr).add j) = some u) := by
                  have := three_new (wr.alloc (.cells #[.int .i64 (x.1 : Int), .int .i64 (x.2 : Int)] 30)) (.int .i64 (x.1 : Int)) (.int .i64 (t : Int)) (.int .i64 (x.2 : Int)) 61
                  rw [World.size_alloc] at this
                  exact this
                have y1 : ((wr.alloc (.cells #[.int .i64 (x.1 : Int), .int .i64 (x.2 : Int)] 30)).alloc (.cells #[.int .i64 (x.1 : Int), .int .i64 (t : Int), .int .i64 (x.2 : Int)] 61)).cell? ⟨wr.heap.size, 1, none⟩ = some (.int .i64 (x.2 : Int)) := by
                  simp
                have Y1 := Lib.hid y1
                clear q y1
                go_wp2_with (at_builtin; refine wpList_append_own_at _ rfl (.tmp 75) (.tmp 82) 55 rfl w3.heap.size 61 i0 _ 3 24 Try.underlying55 hi hz0 hz1 hz2 rfl (by decide) (.slice Ao U.length co) U.length (mc U) rfl HO2.out ⟨wr.heap.size + 1, 0, none⟩ 1 1 [.int .i64 (x.1 : Int), .int .i64 (t : Int), .int .i64 (x.2 : Int)] rfl rfl N3.out (by simp [Value.oneCell']) (by unfold maxLen; omega) (by omega) (by have := HSZ.out; simp; omega) ?_)
                intro v2 w2 ho2 hg2 _ _
                have SZ2 : Hid (w3.heap.size ≤ ((wr.alloc (.cells #[.int .i64 (x.1 : Int), .int .i64 (x.2 : Int)] 30)).alloc (.cells #[.int .i64 (x.1 : Int), .int .i64 (t : Int), .int .i64 (x.2 : Int)] 61)).heap.size) := BZ.out.size
                have y1 : w2.cell? ⟨wr.heap.size, 1, none⟩ = some (.int .i64 (x.2 : Int)) := by
                  refine (World.cell?_of_block (w := _) (hg2.block _ (by simp; omega) (fun e => ?_))).trans Y1.out
                  have hbk := blk_alloc (blk_new wr (.cells #[.int .i64 (x.1 : Int), .int .i64 (x.2 : Int)] 30)) (.cells #[.int .i64 (x.1 : Int), .int .i64 (t : Int), .int .i64 (x.2 : Int)] 61)
                  exact own_ne_blk HO2.out hbk (by decide) e.symm
                have B4 : Hid (Below w3.heap.size w3 w2) := BZ.out.grown hg2 (by have := HSZ.out; simp; omega) (fun j hj => (ho.out.lt j hj).1)
                have HO4 : Hid (w2.ownsRow w3.heap.size 61 3 v2 (mvs 0 (M.take (k + 1))).length (mc (mvs 0 (M.take (k + 1))))) := by
                  unfold Hid
                  rw [SA.out, List.length_append, mc_append]
                  exact ho2
                obtain ⟨A2, c2, e2⟩ := own_slice ho2
                subst e2
                clear ho2 hg2 HO2 N3 Y1
                go_wp2
                go_roundw
                case rel => first | exact ⟨k + 1, hlt, by go_num, by rw [SN1.out]; go_num, HO4, B4⟩ | ((repeat apply Exists.intro); refine ⟨?_, rfl⟩; exact ⟨k + 1, hlt, by go_num, by rw [SN1.out]; go_num, HO4, B4⟩)
                case measure => simp [intOf]; omega
            · obtain rfl : k = M.length := by omega
              rw [List.take_length] at ho
              go_wp2
              go_ret2
              exact ⟨⟨M, PM.out, OM.out, .inl ⟨OKA.out, _, rfl, own_base ho.out B3.out.size⟩⟩, B3.out.trans (hb.out.mono B3.out.size)⟩
end Go.Proofs.Ythloinmnojlleaa
