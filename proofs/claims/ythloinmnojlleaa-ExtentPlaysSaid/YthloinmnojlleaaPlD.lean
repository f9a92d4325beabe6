/- PlD: the walks of the document's Same, Choose (written by gen_choose.py). -/
import Derived.Test.YthloinmnojlleaaPlC
import Derived.Laws.StructEq
set_option linter.unusedVariables false
set_option linter.unusedSimpArgs false
namespace Go.Proofs.Ythloinmnojlleaa
open Go.RowKit

set_option maxRecDepth 100000 in
theorem span_neq (w : World) (a b : Int) : (binOp .neq 30 (.agg #[.int .i64 a, .int .i64 b]) (.agg #[.int .i64 a, .int .i64 b])).run Try.prog w = .ok (.bool false) w := by
  have sh : Try.prog.stoodInHeld 30 = false := by kernel_rfl
  rw [run_neq_struct, run_equalIn_agg w 9999 _ _ _ (by simp only [Program.fieldsOf, Try.underlying30]) sh]
  simp [Program.fieldsOf, Try.underlying30, Op.eqFields, part, go_sem, Try.underlying3]
theorem same_yes (w : World) (B B2 : Nat) (v1 v2 : Value) (L : List (Nat × Nat)) (h1 : w.ownsRow B 30 2 v1 L.length (sp L)) (h2 : w.ownsRow B2 30 2 v2 L.length (sp L)) (hl : L.length ≤ 1048577) :
    Calls Try.prog 39 #[v1, v2] w fun e w' => e = .returned (.bool true) ∧ Below w.heap.size w w' := by
  have H1 := Lib.hid h1
  have H2 := Lib.hid h2
  have sh : Try.prog.stoodInHeld 30 = false := by kernel_rfl
  have sg : Try.prog.eqGuardType Try.prog.depth 30 = false := by kernel_rfl
  obtain ⟨A, c, rfl⟩ := own_slice h1
  obtain ⟨A2, c2, rfl⟩ := own_slice h2
  clear h1 h2
  go_enter Try.func39, Try.ntmps39
  go_wp2_with fail
  go_loopw [5, 11] (fun ii i2 wr => ∃ k : Nat, k ≤ L.length ∧ ii = .int .i64 k ∧ Hid (Below w.heap.size w wr)) (fun ii _ _ => L.length - (intOf ii).toNat)
  case atStart => exact ⟨0, Nat.zero_le _, rfl, Below.refl _ _⟩
  case round =>
    obtain ⟨k, hk, rfl, BW⟩ := hrel
    by_cases hlt : k < L.length
    · obtain ⟨g, cc, e1, _, _, hc⟩ := row_at H1.out (by omega)
      obtain ⟨g2, cc2, e4, _, _, hc2⟩ := row_at H2.out (by omega)
      injection e1 with e1 e2 e3
      injection e4 with e4 e5 e6
      subst e1 e4
      obtain ⟨z1, z2⟩ := hc k hlt
      obtain ⟨y1, y2⟩ := hc2 k hlt
      have z1 := cell_below BW.out.drew z1; have z2 := cell_below BW.out.drew z2; have y1 := cell_below BW.out.drew y1; have y2 := cell_below BW.out.drew y2
      generalize L[k] = x at z1 z2 y1 y2
      clear hc hc2 e2 e3 e5 e6
      have nq : ∀ (w : World), (binOp .neq 30 (.agg #[.int .i64 (x.1 : Int), .int .i64 (x.2 : Int)]) (.agg #[.int .i64 (x.1 : Int), .int .i64 (x.2 : Int)])).run Try.prog w = .ok (.bool false) w := fun w => span_neq w _ _
      go_wp2_with fail
      refine wp_region_flag (fun w' => w'.cell? ⟨g, k * 2, none⟩ = some (.int .i64 (x.1 : Nat)) ∧ w'.cell? ⟨g, k * 2 + 1, none⟩ = some (.int .i64 (x.2 : Nat)) ∧ w'.cell? ⟨g2, k * 2, none⟩ = some (.int .i64 (x.1 : Nat)) ∧ w'.cell? ⟨g2, k * 2 + 1, none⟩ = some (.int .i64 (x.2 : Nat))) [(0, 1), (1, 1), (2, 1), (4, 1), (5, 1), (6, 1), (3, 2), (7, 0), (8, 0)] (by kernel_rfl) (by kernel_rfl) ⟨z1, z2, y1, y2⟩ ?_
      simp only [ordered, List.map_cons, List.map_nil, List.getD_cons_zero, List.getD_cons_succ]
      repeat (refine wpF_dry (fun K hK => ?_); go_simp; refine hK _ ?_; clear hK K)
      refine wpF_read (.agg #[.int .i64 (x.1 : Nat), .int .i64 (x.2 : Nat)]) rfl (fun w' hS => by obtain ⟨s1, s2, s3, s4⟩ := hS; go_simp) (fun K hK => ?_)
      go_simp
      refine hK _ ?_
      clear hK K
      refine wpF_do ?_
      go_wp2_with fail
      refine ⟨⟨z1, z2, y1, y2⟩, ?_⟩
      refine wpF_do ?_
      go_wp2_with fail
      refine ⟨⟨z1, z2, y1, y2⟩, ?_⟩
      refine wpF_nil ?_
      go_wp2
      go_roundw
      case rel => exact ⟨k + 1, hlt, by go_num, BW.out.drew⟩
      case measure => simp [intOf]; omega
    · obtain rfl : k = L.length := by omega
      go_wp2
      go_ret
      exact ⟨rfl, BW.out⟩

/-- What the document chooses. -/
def choA (H : List (Nat × Nat)) (n r nx : Nat) : Int := match choose H n (bet r nx) H.length with | none => -1 | some j => ((H.getD j (0, 0)).1 : Int)
theorem choose_succ (L : List (Nat × Nat)) (n : Nat) (b : Nat × Nat → Nat × Nat → Bool) (k : Nat) : choose L n b (k + 1) = match choose L n b k with
    | none => if n ≤ (L.getD k (0, 0)).2 then some k else none
    | some j => if n ≤ (L.getD k (0, 0)).2 ∧ b (L.getD k (0, 0)) (L.getD j (0, 0)) = true then some k else some j := by rw [choose]; cases choose L n b k <;> rfl
set_option maxHeartbeats 3200000 in
set_option maxRecDepth 100000 in
theorem rchoose_any (w : World) (B : Nat) (s : Value) (bits : List Bool) (nx : Nat) (hs : OwnL w B s bits) (hl : bits.length ≤ 1048576) (H : List (Nat × Nat)) (hH : runsA true bits = H) (hHl : H.length ≤ 1048577) (n r : Nat) (hr : r < 4) :
    Calls Try.prog 55 #[.agg #[s, .int .i64 nx], .int .i64 n, .int .i64 r] w fun e w' => e = .returned (.int .i64 (choA H n r nx)) ∧ Below w.heap.size w w' := by
  obtain ⟨A, c, rfl⟩ := hs.slice
  have RR := Lib.hid (rruns_any (w.alloc (.cells #[.slice A bits.length c, .int .i64 (nx : Nat)] 46)) B (.slice A bits.length c) bits (nx : Nat) (hs.below ((Below.refl _ w).alloc (Nat.le_refl _) _)) hl true)
  have r0 := blk_new w (.cells #[.slice A bits.length c, .int .i64 (nx : Nat)] 46)
  have B0 : Hid (Below w.heap.size w (w.alloc (.cells #[.slice A bits.length c, .int .i64 (nx : Nat)] 46))) := (Below.refl _ w).alloc (Nat.le_refl _) _
  rw [hH] at RR
  have G0 := Lib.hid r0
  have k0 := blk_cell r0 0; have k1 := blk_cell r0 1
  simp only [List.getElem?_toArray, List.getElem?_cons_zero, List.getElem?_cons_succ] at k0 k1
  clear hs r0 hH
  go_enter Try.func55, Try.ntmps55
  go_wp2_with fail
  refine RR.out.mono ?_
  rintro e w1 ⟨v, rfl, ho, b1⟩
  have k1' := cell_below b1 k1
  have B1 : Hid (Below w.heap.size w w1) := B0.out.trans (b1.mono B0.out.size)
  have HO := Lib.hid ho
  have K1 := Lib.hid k1'
  obtain ⟨Av, cv, rfl⟩ := own_slice ho
  obtain ⟨gx, hgx⟩ : ∃ gx, gx = w.heap.size := ⟨_, rfl⟩
  clear b1 RR k0 k1 k1' ho G0 B0
  go_wp2_with fail
  rw [← hgx] at K1
  rw [← hgx]
  have HGX := Lib.hid hgx
  clear hgx
  go_loopw [8, 9, 12] (fun aa ii i2 wr => ∃ k : Nat, k ≤ H.length ∧ ii = .int .i64 k ∧ aa = .int .i64 (chI (choose H n (bet r nx) k)) ∧ Hid (Below w1.heap.size w1 wr)) (fun _ ii _ _ => H.length - (intOf ii).toNat)
  case atStart => exact ⟨0, Nat.zero_le _, rfl, rfl, Below.refl _ _⟩
  case round =>
    obtain ⟨k, hk, rfl, rfl, BW⟩ := hrel
    have HCS := Lib.hid (choose_succ H n (bet r nx) k)
    by_cases hlt : k < H.length
    · obtain ⟨g, cc, e1, _, _, hc⟩ := row_at HO.out (by omega)
      injection e1 with e1 e2 e3
      subst e1
      have kn := cell_below BW.out K1.out
      obtain ⟨z1, z2⟩ := hc k hlt
      have z1 := cell_below BW.out z1; have z2 := cell_below BW.out z2
      rw [getD_get hlt] at HCS
      obtain ⟨x, hx⟩ : ∃ x, x = H[k] := ⟨_, rfl⟩
      rw [← hx] at z1 z2 HCS
      clear hx
      by_cases hs : x.2 < n
      · have ds : decide (x.2 < n) = true := by simpa using hs
        have HS2 : Hid (choose H n (bet r nx) (k + 1) = choose H n (bet r nx) k) := by
          unfold Hid
          rw [HCS.out]
          cases choose H n (bet r nx) k with
          | none => simp only; rw [if_neg (by omega)]
          | some j => simp only; rw [if_neg (by omega)]
        have HCJ : Hid (choose H n (bet r nx) k = choose H n (bet r nx) k) := rfl
        clear hs hc e2 e3
        go_wp2
        go_roundw
        case rel => first | exact ⟨k + 1, hlt, by go_num, congrArg (Value.int .i64) (by rw [HS2.out]; try rfl), BW⟩ | ((repeat apply Exists.intro); refine ⟨?_, rfl⟩; exact ⟨k + 1, hlt, by go_num, congrArg (Value.int .i64) (by rw [HS2.out]; try rfl), BW⟩)
        case measure => simp [intOf]; omega
      · have ds : decide (x.2 < n) = false := by simpa using hs
        cases hcj : choose H n (bet r nx) k with
        | none =>
          rw [hcj] at HCS
          have HCJ := Lib.hid hcj
          have HS2 : Hid (choose H n (bet r nx) (k + 1) = some k) := by
            unfold Hid
            rw [HCS.out]
            simp only
            rw [if_pos (by omega)]
          have e4 : chI (none : Option Nat) = -1 := rfl
          rw [e4]
          clear hs hc e2 e3 hcj e4
          go_wp2
          go_roundw
          case rel => first | exact ⟨k + 1, hlt, by go_num, congrArg (Value.int .i64) (by rw [HS2.out]; try rfl), BW⟩ | ((repeat apply Exists.intro); refine ⟨?_, rfl⟩; exact ⟨k + 1, hlt, by go_num, congrArg (Value.int .i64) (by rw [HS2.out]; try rfl), BW⟩)
          case measure => simp [intOf]; omega
        | some j =>
          obtain ⟨hj, _⟩ := choose_lt hcj
          have hjl : j < H.length := by omega
          obtain ⟨z3, z4⟩ := hc j hjl
          have z3 := cell_below BW.out z3; have z4 := cell_below BW.out z4
          rw [hcj] at HCS
          simp only at HCS
          rw [getD_get hjl] at HCS
          obtain ⟨y, hy⟩ : ∃ y, y = H[j] := ⟨_, rfl⟩
          rw [← hy] at z3 z4 HCS
          clear hy
          have HCJ : Hid (choose H n (bet r nx) k = some j) := hcj
          have HNX : Hid (n ≤ x.2) := by unfold Hid; omega
          have e4 : chI (some j) = (j : Int) := rfl
          rw [e4]
          have dj : decide ((j : Int) < 0) = false := by simp
          have HCS : Hid (choose H n (bet r nx) (k + 1) = if n ≤ x.2 ∧ bet r nx x y = true then some k else some j) := HCS
          clear hs hc e2 e3 hcj e4
          obtain rfl | rfl | rfl | rfl : r = 0 ∨ r = 1 ∨ r = 2 ∨ r = 3 := by omega
          · have HS2 : Hid (choose H n (bet 0 nx) (k + 1) = some j) := by
              unfold Hid
              rw [HCS.out, if_neg (by rintro ⟨_, h⟩; unfold bet at h; simp at h <;> omega)]
            go_wp2_with fail
            refine wp_region_flag (fun w' => w'.cell? ⟨g, k * 2, none⟩ = some (.int .i64 (x.1 : Nat)) ∧ w'.cell? ⟨g, k * 2 + 1, none⟩ = some (.int .i64 (x.2 : Nat)) ∧ w'.cell? ⟨g, j * 2, none⟩ = some (.int .i64 (y.1 : Nat)) ∧ w'.cell? ⟨g, j * 2 + 1, none⟩ = some (.int .i64 (y.2 : Nat)) ∧ w'.cell? ⟨gx, 1, none⟩ = some (.int .i64 (nx : Nat))) [(0, 1), (1, 1), (2, 1), (3, 1), (4, 1), (5, 1), (6, 1), (8, 1), (9, 1), (10, 1), (11, 1), (7, 2), (12, 0), (13, 1), (14, 1), (15, 1), (16, 1), (17, 1), (18, 1), (19, 1), (20, 1), (21, 1), (22, 1), (24, 1), (25, 1), (26, 1), (27, 1), (23, 2), (28, 0), (29, 1), (30, 1), (31, 1), (32, 1), (33, 1), (34, 1), (35, 1), (36, 1), (37, 1), (38, 1), (39, 1), (41, 1), (40, 2), (42, 0), (43, 1), (44, 1), (45, 1), (46, 1), (47, 1), (48, 1), (49, 1), (51, 1), (50, 2), (52, 0), (53, 1), (54, 1), (55, 1)] (by kernel_rfl) (by kernel_rfl) ⟨z1, z2, z3, z4, kn⟩ ?_
            simp only [ordered, List.map_cons, List.map_nil, List.getD_cons_zero, List.getD_cons_succ]
            repeat (refine wpF_dry (fun K hK => ?_); go_simp; refine hK _ ?_; clear hK K)
            refine wpF_skip (fun K hK => ?_)
            go_simp
            first | refine hK _ ?_ | refine ⟨(fun hh => by cases hh), hK _ ?_⟩
            clear hK K
            refine wpF_do ?_
            go_wp2_with fail
            refine ⟨⟨z1, z2, z3, z4, kn⟩, ?_⟩
            repeat (refine wpF_dry (fun K hK => ?_); go_simp; refine hK _ ?_; clear hK K)
            refine wpF_skip (fun K hK => ?_)
            go_simp
            first | refine hK _ ?_ | refine ⟨(fun hh => by cases hh), hK _ ?_⟩
            clear hK K
            refine wpF_do ?_
            go_wp2_with fail
            refine ⟨⟨z1, z2, z3, z4, kn⟩, ?_⟩
            repeat (refine wpF_dry (fun K hK => ?_); go_simp; refine hK _ ?_; clear hK K)
            refine wpF_skip (fun K hK => ?_)
            go_simp
            first | refine hK _ ?_ | refine ⟨(fun hh => by cases hh), hK _ ?_⟩
            clear hK K
            refine wpF_do ?_
            go_wp2_with fail
            refine ⟨⟨z1, z2, z3, z4, kn⟩, ?_⟩
            repeat (refine wpF_dry (fun K hK => ?_); go_simp; refine hK _ ?_; clear hK K)
            refine wpF_skip (fun K hK => ?_)
            go_simp
            first | refine hK _ ?_ | refine ⟨(fun hh => by cases hh), hK _ ?_⟩
            clear hK K
            refine wpF_do ?_
            go_wp2_with fail
            refine ⟨⟨z1, z2, z3, z4, kn⟩, ?_⟩
            repeat (refine wpF_dry (fun K hK => ?_); go_simp; refine hK _ ?_; clear hK K)
            refine wpF_nil ?_
            go_wp2
            go_roundw
            case rel => first | exact ⟨k + 1, hlt, by go_num, congrArg (Value.int .i64) (by rw [HS2.out]; try rfl), BW.out.drew⟩ | ((repeat apply Exists.intro); refine ⟨?_, rfl⟩; exact ⟨k + 1, hlt, by go_num, congrArg (Value.int .i64) (by rw [HS2.out]; try rfl), BW.out.drew⟩)
            case measure => simp [intOf]; omega
          · by_cases q1 : x.2 < y.2
            · have dq1 : decide (x.2 < y.2) = true := by simpa using q1
              have HS2 : Hid (choose H n (bet 1 nx) (k + 1) = some k) := by
                unfold Hid
                rw [HCS.out, if_pos ⟨HNX.out, by unfold bet; simp; omega⟩]
              go_wp2_with fail
              refine wp_region_flag (fun w' => w'.cell? ⟨g, k * 2, none⟩ = some (.int .i64 (x.1 : Nat)) ∧ w'.cell? ⟨g, k * 2 + 1, none⟩ = some (.int .i64 (x.2 : Nat)) ∧ w'.cell? ⟨g, j * 2, none⟩ = some (.int .i64 (y.1 : Nat)) ∧ w'.cell? ⟨g, j * 2 + 1, none⟩ = some (.int .i64 (y.2 : Nat)) ∧ w'.cell? ⟨gx, 1, none⟩ = some (.int .i64 (nx : Nat))) [(0, 1), (1, 1), (2, 1), (3, 1), (4, 1), (5, 1), (6, 1), (8, 1), (9, 1), (10, 1), (11, 1), (7, 2), (12, 0), (13, 1), (14, 1), (15, 1), (16, 1), (17, 1), (18, 1), (19, 1), (20, 1), (21, 1), (22, 1), (24, 1), (25, 1), (26, 1), (27, 1), (23, 2), (28, 0), (29, 1), (30, 1), (31, 1), (32, 1), (33, 1), (34, 1), (35, 1), (36, 1), (37, 1), (38, 1), (39, 1), (41, 1), (40, 2), (42, 0), (43, 1), (44, 1), (45, 1), (46, 1), (47, 1), (48, 1), (49, 1), (51, 1), (50, 2), (52, 0), (53, 1), (54, 1), (55, 1)] (by kernel_rfl) (by kernel_rfl) ⟨z1, z2, z3, z4, kn⟩ ?_
              simp only [ordered, List.map_cons, List.map_nil, List.getD_cons_zero, List.getD_cons_succ]
              repeat (refine wpF_dry (fun K hK => ?_); go_simp; refine hK _ ?_; clear hK K)
              refine wpF_read (.int .i64 (x.2 : Nat)) rfl (fun w' hS => by obtain ⟨s1, s2, s3, s4, s5⟩ := hS; go_simp) (fun K hK => ?_)
              go_simp
              refine hK _ ?_
              clear hK K
              refine wpF_do ?_
              go_wp2_with fail
              refine ⟨⟨z1, z2, z3, z4, kn⟩, ?_⟩
              repeat (refine wpF_dry (fun K hK => ?_); go_simp; refine hK _ ?_; clear hK K)
              refine wpF_skip (fun K hK => ?_)
              go_simp
              first | refine hK _ ?_ | refine ⟨(fun hh => by cases hh), hK _ ?_⟩
              clear hK K
              refine wpF_do ?_
              go_wp2_with fail
              refine ⟨⟨z1, z2, z3, z4, kn⟩, ?_⟩
              repeat (refine wpF_dry (fun K hK => ?_); go_simp; refine hK _ ?_; clear hK K)
              refine wpF_skip (fun K hK => ?_)
              go_simp
              first | refine hK _ ?_ | refine ⟨(fun hh => by cases hh), hK _ ?_⟩
              clear hK K
              refine wpF_do ?_
              go_wp2_with fail
              refine ⟨⟨z1, z2, z3, z4, kn⟩, ?_⟩
              repeat (refine wpF_dry (fun K hK => ?_); go_simp; refine hK _ ?_; clear hK K)
              refine wpF_skip (fun K hK => ?_)
              go_simp
              first | refine hK _ ?_ | refine ⟨(fun hh => by cases hh), hK _ ?_⟩
              clear hK K
              refine wpF_do ?_
              go_wp2_with fail
              refine ⟨⟨z1, z2, z3, z4, kn⟩, ?_⟩
              repeat (refine wpF_dry (fun K hK => ?_); go_simp; refine hK _ ?_; clear hK K)
              refine wpF_nil ?_
              go_wp2
              go_roundw
              case rel => first | exact ⟨k + 1, hlt, by go_num, congrArg (Value.int .i64) (by rw [HS2.out]; try rfl), BW.out.drew⟩ | ((repeat apply Exists.intro); refine ⟨?_, rfl⟩; exact ⟨k + 1, hlt, by go_num, congrArg (Value.int .i64) (by rw [HS2.out]; try rfl), BW.out.drew⟩)
              case measure => simp [intOf]; omega
            · have dq1 : decide (x.2 < y.2) = false := by simpa using q1
              have HS2 : Hid (choose H n (bet 1 nx) (k + 1) = some j) := by
                unfold Hid
                rw [HCS.out, if_neg (by rintro ⟨_, h⟩; unfold bet at h; simp at h <;> omega)]
              go_wp2_with fail
              refine wp_region_flag (fun w' => w'.cell? ⟨g, k * 2, none⟩ = some (.int .i64 (x.1 : Nat)) ∧ w'.cell? ⟨g, k * 2 + 1, none⟩ = some (.int .i64 (x.2 : Nat)) ∧ w'.cell? ⟨g, j * 2, none⟩ = some (.int .i64 (y.1 : Nat)) ∧ w'.cell? ⟨g, j * 2 + 1, none⟩ = some (.int .i64 (y.2 : Nat)) ∧ w'.cell? ⟨gx, 1, none⟩ = some (.int .i64 (nx : Nat))) [(0, 1), (1, 1), (2, 1), (3, 1), (4, 1), (5, 1), (6, 1), (8, 1), (9, 1), (10, 1), (11, 1), (7, 2), (12, 0), (13, 1), (14, 1), (15, 1), (16, 1), (17, 1), (18, 1), (19, 1), (20, 1), (21, 1), (22, 1), (24, 1), (25, 1), (26, 1), (27, 1), (23, 2), (28, 0), (29, 1), (30, 1), (31, 1), (32, 1), (33, 1), (34, 1), (35, 1), (36, 1), (37, 1), (38, 1), (39, 1), (41, 1), (40, 2), (42, 0), (43, 1), (44, 1), (45, 1), (46, 1), (47, 1), (48, 1), (49, 1), (51, 1), (50, 2), (52, 0), (53, 1), (54, 1), (55, 1)] (by kernel_rfl) (by kernel_rfl) ⟨z1, z2, z3, z4, kn⟩ ?_
              simp only [ordered, List.map_cons, List.map_nil, List.getD_cons_zero, List.getD_cons_succ]
              repeat (refine wpF_dry (fun K hK => ?_); go_simp; refine hK _ ?_; clear hK K)
              refine wpF_read (.int .i64 (x.2 : Nat)) rfl (fun w' hS => by obtain ⟨s1, s2, s3, s4, s5⟩ := hS; go_simp) (fun K hK => ?_)
              go_simp
              refine hK _ ?_
              clear hK K
              refine wpF_do ?_
              go_wp2_with fail
              refine ⟨⟨z1, z2, z3, z4, kn⟩, ?_⟩
              repeat (refine wpF_dry (fun K hK => ?_); go_simp; refine hK _ ?_; clear hK K)
              refine wpF_skip (fun K hK => ?_)
              go_simp
              first | refine hK _ ?_ | refine ⟨(fun hh => by cases hh), hK _ ?_⟩
              clear hK K
              refine wpF_do ?_
              go_wp2_with fail
              refine ⟨⟨z1, z2, z3, z4, kn⟩, ?_⟩
              repeat (refine wpF_dry (fun K hK => ?_); go_simp; refine hK _ ?_; clear hK K)
              refine wpF_skip (fun K hK => ?_)
              go_simp
              first | refine hK _ ?_ | refine ⟨(fun hh => by cases hh), hK _ ?_⟩
              clear hK K
              refine wpF_do ?_
              go_wp2_with fail
              refine ⟨⟨z1, z2, z3, z4, kn⟩, ?_⟩
              repeat (refine wpF_dry (fun K hK => ?_); go_simp; refine hK _ ?_; clear hK K)
              refine wpF_skip (fun K hK => ?_)
              go_simp
              first | refine hK _ ?_ | refine ⟨(fun hh => by cases hh), hK _ ?_⟩
              clear hK K
              refine wpF_do ?_
              go_wp2_with fail
              refine ⟨⟨z1, z2, z3, z4, kn⟩, ?_⟩
              repeat (refine wpF_dry (fun K hK => ?_); go_simp; refine hK _ ?_; clear hK K)
              refine wpF_nil ?_
              go_wp2
              go_roundw
              case rel => first | exact ⟨k + 1, hlt, by go_num, congrArg (Value.int .i64) (by rw [HS2.out]; try rfl), BW.out.drew⟩ | ((repeat apply Exists.intro); refine ⟨?_, rfl⟩; exact ⟨k + 1, hlt, by go_num, congrArg (Value.int .i64) (by rw [HS2.out]; try rfl), BW.out.drew⟩)
              case measure => simp [intOf]; omega
          · by_cases q1 : y.2 < x.2
            · have dq1 : decide (y.2 < x.2) = true := by simpa using q1
              have HS2 : Hid (choose H n (bet 2 nx) (k + 1) = some k) := by
                unfold Hid
                rw [HCS.out, if_pos ⟨HNX.out, by unfold bet; simp; omega⟩]
              go_wp2_with fail
              refine wp_region_flag (fun w' => w'.cell? ⟨g, k * 2, none⟩ = some (.int .i64 (x.1 : Nat)) ∧ w'.cell? ⟨g, k * 2 + 1, none⟩ = some (.int .i64 (x.2 : Nat)) ∧ w'.cell? ⟨g, j * 2, none⟩ = some (.int .i64 (y.1 : Nat)) ∧ w'.cell? ⟨g, j * 2 + 1, none⟩ = some (.int .i64 (y.2 : Nat)) ∧ w'.cell? ⟨gx, 1, none⟩ = some (.int .i64 (nx : Nat))) [(0, 1), (1, 1), (2, 1), (3, 1), (4, 1), (5, 1), (6, 1), (8, 1), (9, 1), (10, 1), (11, 1), (7, 2), (12, 0), (13, 1), (14, 1), (15, 1), (16, 1), (17, 1), (18, 1), (19, 1), (20, 1), (21, 1), (22, 1), (24, 1), (25, 1), (26, 1), (27, 1), (23, 2), (28, 0), (29, 1), (30, 1), (31, 1), (32, 1), (33, 1), (34, 1), (35, 1), (36, 1), (37, 1), (38, 1), (39, 1), (41, 1), (40, 2), (42, 0), (43, 1), (44, 1), (45, 1), (46, 1), (47, 1), (48, 1), (49, 1), (51, 1), (50, 2), (52, 0), (53, 1), (54, 1), (55, 1)] (by kernel_rfl) (by kernel_rfl) ⟨z1, z2, z3, z4, kn⟩ ?_
              simp only [ordered, List.map_cons, List.map_nil, List.getD_cons_zero, List.getD_cons_succ]
              repeat (refine wpF_dry (fun K hK => ?_); go_simp; refine hK _ ?_; clear hK K)
              refine wpF_skip (fun K hK => ?_)
              go_simp
              first | refine hK _ ?_ | refine ⟨(fun hh => by cases hh), hK _ ?_⟩
              clear hK K
              refine wpF_do ?_
              go_wp2_with fail
              refine ⟨⟨z1, z2, z3, z4, kn⟩, ?_⟩
              repeat (refine wpF_dry (fun K hK => ?_); go_simp; refine hK _ ?_; clear hK K)
              refine wpF_read (.int .i64 (x.2 : Nat)) rfl (fun w' hS => by obtain ⟨s1, s2, s3, s4, s5⟩ := hS; go_simp) (fun K hK => ?_)
              go_simp
              refine hK _ ?_
              clear hK K
              refine wpF_do ?_
              go_wp2_with fail
              refine ⟨⟨z1, z2, z3, z4, kn⟩, ?_⟩
              repeat (refine wpF_dry (fun K hK => ?_); go_simp; refine hK _ ?_; clear hK K)
              refine wpF_skip (fun K hK => ?_)
              go_simp
              first | refine hK _ ?_ | refine ⟨(fun hh => by cases hh), hK _ ?_⟩
              clear hK K
              refine wpF_do ?_
              go_wp2_with fail
              refine ⟨⟨z1, z2, z3, z4, kn⟩, ?_⟩
              repeat (refine wpF_dry (fun K hK => ?_); go_simp; refine hK _ ?_; clear hK K)
              refine wpF_skip (fun K hK => ?_)
              go_simp
              first | refine hK _ ?_ | refine ⟨(fun hh => by cases hh), hK _ ?_⟩
              clear hK K
              refine wpF_do ?_
              go_wp2_with fail
              refine ⟨⟨z1, z2, z3, z4, kn⟩, ?_⟩
              repeat (refine wpF_dry (fun K hK => ?_); go_simp; refine hK _ ?_; clear hK K)
              refine wpF_nil ?_
              go_wp2
              go_roundw
              case rel => first | exact ⟨k + 1, hlt, by go_num, congrArg (Value.int .i64) (by rw [HS2.out]; try rfl), BW.out.drew⟩ | ((repeat apply Exists.intro); refine ⟨?_, rfl⟩; exact ⟨k + 1, hlt, by go_num, congrArg (Value.int .i64) (by rw [HS2.out]; try rfl), BW.out.drew⟩)
              case measure => simp [intOf]; omega
            · have dq1 : decide (y.2 < x.2) = false := by simpa using q1
              have HS2 : Hid (choose H n (bet 2 nx) (k + 1) = some j) := by
                unfold Hid
                rw [HCS.out, if_neg (by rintro ⟨_, h⟩; unfold bet at h; simp at h <;> omega)]
              go_wp2_with fail
              refine wp_region_flag (fun w' => w'.cell? ⟨g, k * 2, none⟩ = some (.int .i64 (x.1 : Nat)) ∧ w'.cell? ⟨g, k * 2 + 1, none⟩ = some (.int .i64 (x.2 : Nat)) ∧ w'.cell? ⟨g, j * 2, none⟩ = some (.int .i64 (y.1 : Nat)) ∧ w'.cell? ⟨g, j * 2 + 1, none⟩ = some (.int .i64 (y.2 : Nat)) ∧ w'.cell? ⟨gx, 1, none⟩ = some (.int .i64 (nx : Nat))) [(0, 1), (1, 1), (2, 1), (3, 1), (4, 1), (5, 1), (6, 1), (8, 1), (9, 1), (10, 1), (11, 1), (7, 2), (12, 0), (13, 1), (14, 1), (15, 1), (16, 1), (17, 1), (18, 1), (19, 1), (20, 1), (21, 1), (22, 1), (24, 1), (25, 1), (26, 1), (27, 1), (23, 2), (28, 0), (29, 1), (30, 1), (31, 1), (32, 1), (33, 1), (34, 1), (35, 1), (36, 1), (37, 1), (38, 1), (39, 1), (41, 1), (40, 2), (42, 0), (43, 1), (44, 1), (45, 1), (46, 1), (47, 1), (48, 1), (49, 1), (51, 1), (50, 2), (52, 0), (53, 1), (54, 1), (55, 1)] (by kernel_rfl) (by kernel_rfl) ⟨z1, z2, z3, z4, kn⟩ ?_
              simp only [ordered, List.map_cons, List.map_nil, List.getD_cons_zero, List.getD_cons_succ]
              repeat (refine wpF_dry (fun K hK => ?_); go_simp; refine hK _ ?_; clear hK K)
              refine wpF_skip (fun K hK => ?_)
              go_simp
              first | refine hK _ ?_ | refine ⟨(fun hh => by cases hh), hK _ ?_⟩
              clear hK K
              refine wpF_do ?_
              go_wp2_with fail
              refine ⟨⟨z1, z2, z3, z4, kn⟩, ?_⟩
              repeat (refine wpF_dry (fun K hK => ?_); go_simp; refine hK _ ?_; clear hK K)
              refine wpF_read (.int .i64 (x.2 : Nat)) rfl (fun w' hS => by obtain ⟨s1, s2, s3, s4, s5⟩ := hS; go_simp) (fun K hK => ?_)
              go_simp
              refine hK _ ?_
              clear hK K
              refine wpF_do ?_
              go_wp2_with fail
              refine ⟨⟨z1, z2, z3, z4, kn⟩, ?_⟩
              repeat (refine wpF_dry (fun K hK => ?_); go_simp; refine hK _ ?_; clear hK K)
              refine wpF_skip (fun K hK => ?_)
              go_simp
              first | refine hK _ ?_ | refine ⟨(fun hh => by cases hh), hK _ ?_⟩
              clear hK K
              refine wpF_do ?_
              go_wp2_with fail
              refine ⟨⟨z1, z2, z3, z4, kn⟩, ?_⟩
              repeat (refine wpF_dry (fun K hK => ?_); go_simp; refine hK _ ?_; clear hK K)
              refine wpF_skip (fun K hK => ?_)
              go_simp
              first | refine hK _ ?_ | refine ⟨(fun hh => by cases hh), hK _ ?_⟩
              clear hK K
              refine wpF_do ?_
              go_wp2_with fail
              refine ⟨⟨z1, z2, z3, z4, kn⟩, ?_⟩
              repeat (refine wpF_dry (fun K hK => ?_); go_simp; refine hK _ ?_; clear hK K)
              refine wpF_nil ?_
              go_wp2
              go_roundw
              case rel => first | exact ⟨k + 1, hlt, by go_num, congrArg (Value.int .i64) (by rw [HS2.out]; try rfl), BW.out.drew⟩ | ((repeat apply Exists.intro); refine ⟨?_, rfl⟩; exact ⟨k + 1, hlt, by go_num, congrArg (Value.int .i64) (by rw [HS2.out]; try rfl), BW.out.drew⟩)
              case measure => simp [intOf]; omega
          · by_cases q1 : y.1 < nx
            · have dq1 : decide (y.1 < nx) = true := by simpa using q1
              by_cases q2 : nx ≤ x.1
              · have dq2 : decide (nx ≤ x.1) = true := by simpa using q2
                have HS2 : Hid (choose H n (bet 3 nx) (k + 1) = some k) := by
                  unfold Hid
                  rw [HCS.out, if_pos ⟨HNX.out, by unfold bet; simp; omega⟩]
                go_wp2_with fail
                refine wp_region_flag (fun w' => w'.cell? ⟨g, k * 2, none⟩ = some (.int .i64 (x.1 : Nat)) ∧ w'.cell? ⟨g, k * 2 + 1, none⟩ = some (.int .i64 (x.2 : Nat)) ∧ w'.cell? ⟨g, j * 2, none⟩ = some (.int .i64 (y.1 : Nat)) ∧ w'.cell? ⟨g, j * 2 + 1, none⟩ = some (.int .i64 (y.2 : Nat)) ∧ w'.cell? ⟨gx, 1, none⟩ = some (.int .i64 (nx : Nat))) [(0, 1), (1, 1), (2, 1), (3, 1), (4, 1), (5, 1), (6, 1), (8, 1), (9, 1), (10, 1), (11, 1), (7, 2), (12, 0), (13, 1), (14, 1), (15, 1), (16, 1), (17, 1), (18, 1), (19, 1), (20, 1), (21, 1), (22, 1), (24, 1), (25, 1), (26, 1), (27, 1), (23, 2), (28, 0), (29, 1), (30, 1), (31, 1), (32, 1), (33, 1), (34, 1), (35, 1), (36, 1), (37, 1), (38, 1), (39, 1), (41, 1), (40, 2), (42, 0), (43, 1), (44, 1), (45, 1), (46, 1), (47, 1), (48, 1), (49, 1), (51, 1), (50, 2), (52, 0), (53, 1), (54, 1), (55, 1)] (by kernel_rfl) (by kernel_rfl) ⟨z1, z2, z3, z4, kn⟩ ?_
                simp only [ordered, List.map_cons, List.map_nil, List.getD_cons_zero, List.getD_cons_succ]
                repeat (refine wpF_dry (fun K hK => ?_); go_simp; refine hK _ ?_; clear hK K)
                refine wpF_skip (fun K hK => ?_)
                go_simp
                first | refine hK _ ?_ | refine ⟨(fun hh => by cases hh), hK _ ?_⟩
                clear hK K
                refine wpF_do ?_
                go_wp2_with fail
                refine ⟨⟨z1, z2, z3, z4, kn⟩, ?_⟩
                repeat (refine wpF_dry (fun K hK => ?_); go_simp; refine hK _ ?_; clear hK K)
                refine wpF_skip (fun K hK => ?_)
                go_simp
                first | refine hK _ ?_ | refine ⟨(fun hh => by cases hh), hK _ ?_⟩
                clear hK K
                refine wpF_do ?_
                go_wp2_with fail
                refine ⟨⟨z1, z2, z3, z4, kn⟩, ?_⟩
                repeat (refine wpF_dry (fun K hK => ?_); go_simp; refine hK _ ?_; clear hK K)
                refine wpF_read (.int .i64 (y.1 : Nat)) rfl (fun w' hS => by obtain ⟨s1, s2, s3, s4, s5⟩ := hS; go_simp) (fun K hK => ?_)
                go_simp
                refine hK _ ?_
                clear hK K
                refine wpF_do ?_
                go_wp2_with fail
                refine ⟨⟨z1, z2, z3, z4, kn⟩, ?_⟩
                repeat (refine wpF_dry (fun K hK => ?_); go_simp; refine hK _ ?_; clear hK K)
                refine wpF_read (.int .i64 (x.1 : Nat)) rfl (fun w' hS => by obtain ⟨s1, s2, s3, s4, s5⟩ := hS; go_simp) (fun K hK => ?_)
                go_simp
                refine hK _ ?_
                clear hK K
                refine wpF_do ?_
                go_wp2_with fail
                refine ⟨⟨z1, z2, z3, z4, kn⟩, ?_⟩
                repeat (refine wpF_dry (fun K hK => ?_); go_simp; refine hK _ ?_; clear hK K)
                refine wpF_nil ?_
                go_wp2
                go_roundw
                case rel => first | exact ⟨k + 1, hlt, by go_num, congrArg (Value.int .i64) (by rw [HS2.out]; try rfl), BW.out.drew⟩ | ((repeat apply Exists.intro); refine ⟨?_, rfl⟩; exact ⟨k + 1, hlt, by go_num, congrArg (Value.int .i64) (by rw [HS2.out]; try rfl), BW.out.drew⟩)
                case measure => simp [intOf]; omega
              · have dq2 : decide (nx ≤ x.1) = false := by simpa using q2
                have HS2 : Hid (choose H n (bet 3 nx) (k + 1) = some j) := by
                  unfold Hid
                  rw [HCS.out, if_neg (by rintro ⟨_, h⟩; unfold bet at h; simp at h <;> omega)]
                go_wp2_with fail
                refine wp_region_flag (fun w' => w'.cell? ⟨g, k * 2, none⟩ = some (.int .i64 (x.1 : Nat)) ∧ w'.cell? ⟨g, k * 2 + 1, none⟩ = some (.int .i64 (x.2 : Nat)) ∧ w'.cell? ⟨g, j * 2, none⟩ = some (.int .i64 (y.1 : Nat)) ∧ w'.cell? ⟨g, j * 2 + 1, none⟩ = some (.int .i64 (y.2 : Nat)) ∧ w'.cell? ⟨gx, 1, none⟩ = some (.int .i64 (nx : Nat))) [(0, 1), (1, 1), (2, 1), (3, 1), (4, 1), (5, 1), (6, 1), (8, 1), (9, 1), (10, 1), (11, 1), (7, 2), (12, 0), (13, 1), (14, 1), (15, 1), (16, 1), (17, 1), (18, 1), (19, 1), (20, 1), (21, 1), (22, 1), (24, 1), (25, 1), (26, 1), (27, 1), (23, 2), (28, 0), (29, 1), (30, 1), (31, 1), (32, 1), (33, 1), (34, 1), (35, 1), (36, 1), (37, 1), (38, 1), (39, 1), (41, 1), (40, 2), (42, 0), (43, 1), (44, 1), (45, 1), (46, 1), (47, 1), (48, 1), (49, 1), (51, 1), (50, 2), (52, 0), (53, 1), (54, 1), (55, 1)] (by kernel_rfl) (by kernel_rfl) ⟨z1, z2, z3, z4, kn⟩ ?_
                simp only [ordered, List.map_cons, List.map_nil, List.getD_cons_zero, List.getD_cons_succ]
                repeat (refine wpF_dry (fun K hK => ?_); go_simp; refine hK _ ?_; clear hK K)
                refine wpF_skip (fun K hK => ?_)
                go_simp
                first | refine hK _ ?_ | refine ⟨(fun hh => by cases hh), hK _ ?_⟩
                clear hK K
                refine wpF_do ?_
                go_wp2_with fail
                refine ⟨⟨z1, z2, z3, z4, kn⟩, ?_⟩
                repeat (refine wpF_dry (fun K hK => ?_); go_simp; refine hK _ ?_; clear hK K)
                refine wpF_skip (fun K hK => ?_)
                go_simp
                first | refine hK _ ?_ | refine ⟨(fun hh => by cases hh), hK _ ?_⟩
                clear hK K
                refine wpF_do ?_
                go_wp2_with fail
                refine ⟨⟨z1, z2, z3, z4, kn⟩, ?_⟩
                repeat (refine wpF_dry (fun K hK => ?_); go_simp; refine hK _ ?_; clear hK K)
                refine wpF_read (.int .i64 (y.1 : Nat)) rfl (fun w' hS => by obtain ⟨s1, s2, s3, s4, s5⟩ := hS; go_simp) (fun K hK => ?_)
                go_simp
                refine hK _ ?_
                clear hK K
                refine wpF_do ?_
                go_wp2_with fail
                refine ⟨⟨z1, z2, z3, z4, kn⟩, ?_⟩
                repeat (refine wpF_dry (fun K hK => ?_); go_simp; refine hK _ ?_; clear hK K)
                refine wpF_read (.int .i64 (x.1 : Nat)) rfl (fun w' hS => by obtain ⟨s1, s2, s3, s4, s5⟩ := hS; go_simp) (fun K hK => ?_)
                go_simp
                refine hK _ ?_
                clear hK K
                refine wpF_do ?_
                go_wp2_with fail
                refine ⟨⟨z1, z2, z3, z4, kn⟩, ?_⟩
                repeat (refine wpF_dry (fun K hK => ?_); go_simp; refine hK _ ?_; clear hK K)
                refine wpF_nil ?_
                go_wp2
                go_roundw
                case rel => first | exact ⟨k + 1, hlt, by go_num, congrArg (Value.int .i64) (by rw [HS2.out]; try rfl), BW.out.drew⟩ | ((repeat apply Exists.intro); refine ⟨?_, rfl⟩; exact ⟨k + 1, hlt, by go_num, congrArg (Value.int .i64) (by rw [HS2.out]; try rfl), BW.out.drew⟩)
                case measure => simp [intOf]; omega
            · have dq1 : decide (y.1 < nx) = false := by simpa using q1
              have HS2 : Hid (choose H n (bet 3 nx) (k + 1) = some j) := by
                unfold Hid
                rw [HCS.out, if_neg (by rintro ⟨_, h⟩; unfold bet at h; simp at h <;> omega)]
              go_wp2_with fail
              refine wp_region_flag (fun w' => w'.cell? ⟨g, k * 2, none⟩ = some (.int .i64 (x.1 : Nat)) ∧ w'.cell? ⟨g, k * 2 + 1, none⟩ = some (.int .i64 (x.2 : Nat)) ∧ w'.cell? ⟨g, j * 2, none⟩ = some (.int .i64 (y.1 : Nat)) ∧ w'.cell? ⟨g, j * 2 + 1, none⟩ = some (.int .i64 (y.2 : Nat)) ∧ w'.cell? ⟨gx, 1, none⟩ = some (.int .i64 (nx : Nat))) [(0, 1), (1, 1), (2, 1), (3, 1), (4, 1), (5, 1), (6, 1), (8, 1), (9, 1), (10, 1), (11, 1), (7, 2), (12, 0), (13, 1), (14, 1), (15, 1), (16, 1), (17, 1), (18, 1), (19, 1), (20, 1), (21, 1), (22, 1), (24, 1), (25, 1), (26, 1), (27, 1), (23, 2), (28, 0), (29, 1), (30, 1), (31, 1), (32, 1), (33, 1), (34, 1), (35, 1), (36, 1), (37, 1), (38, 1), (39, 1), (41, 1), (40, 2), (42, 0), (43, 1), (44, 1), (45, 1), (46, 1), (47, 1), (48, 1), (49, 1), (51, 1), (50, 2), (52, 0), (53, 1), (54, 1), (55, 1)] (by kernel_rfl) (by kernel_rfl) ⟨z1, z2, z3, z4, kn⟩ ?_
              simp only [ordered, List.map_cons, List.map_nil, List.getD_cons_zero, List.getD_cons_succ]
              repeat (refine wpF_dry (fun K hK => ?_); go_simp; refine hK _ ?_; clear hK K)
              refine wpF_skip (fun K hK => ?_)
              go_simp
              first | refine hK _ ?_ | refine ⟨(fun hh => by cases hh), hK _ ?_⟩
              clear hK K
              refine wpF_do ?_
              go_wp2_with fail
              refine ⟨⟨z1, z2, z3, z4, kn⟩, ?_⟩
              repeat (refine wpF_dry (fun K hK => ?_); go_simp; refine hK _ ?_; clear hK K)
              refine wpF_skip (fun K hK => ?_)
              go_simp
              first | refine hK _ ?_ | refine ⟨(fun hh => by cases hh), hK _ ?_⟩
              clear hK K
              refine wpF_do ?_
              go_wp2_with fail
              refine ⟨⟨z1, z2, z3, z4, kn⟩, ?_⟩
              repeat (refine wpF_dry (fun K hK => ?_); go_simp; refine hK _ ?_; clear hK K)
              refine wpF_read (.int .i64 (y.1 : Nat)) rfl (fun w' hS => by obtain ⟨s1, s2, s3, s4, s5⟩ := hS; go_simp) (fun K hK => ?_)
              go_simp
              refine hK _ ?_
              clear hK K
              refine wpF_do ?_
              go_wp2_with fail
              refine ⟨⟨z1, z2, z3, z4, kn⟩, ?_⟩
              repeat (refine wpF_dry (fun K hK => ?_); go_simp; refine hK _ ?_; clear hK K)
              refine wpF_skip (fun K hK => ?_)
              go_simp
              first | refine hK _ ?_ | refine ⟨(fun hh => by cases hh), hK _ ?_⟩
              clear hK K
              refine wpF_do ?_
              go_wp2_with fail
              refine ⟨⟨z1, z2, z3, z4, kn⟩, ?_⟩
              repeat (refine wpF_dry (fun K hK => ?_); go_simp; refine hK _ ?_; clear hK K)
              refine wpF_nil ?_
              go_wp2
              go_roundw
              case rel => first | exact ⟨k + 1, hlt, by go_num, congrArg (Value.int .i64) (by rw [HS2.out]; try rfl), BW.out.drew⟩ | ((repeat apply Exists.intro); refine ⟨?_, rfl⟩; exact ⟨k + 1, hlt, by go_num, congrArg (Value.int .i64) (by rw [HS2.out]; try rfl), BW.out.drew⟩)
              case measure => simp [intOf]; omega
    · obtain rfl : k = H.length := by omega
      cases hcj : choose H n (bet r nx) H.length with
      | none =>
        have HV : Hid (choA H n r nx = -1) := by unfold Hid choA; rw [hcj]
        have e4 : chI (none : Option Nat) = -1 := rfl
        rw [e4]
        clear hcj HCS
        go_wp2
        go_ret
        exact ⟨by rw [HV.out]; rfl, B1.out.trans (BW.out.mono B1.out.size)⟩
      | some j =>
        obtain ⟨hj, _⟩ := choose_lt hcj
        obtain ⟨g, cc, e1, _, _, hc⟩ := row_at HO.out (by omega)
        injection e1 with e1 e2 e3
        subst e1
        obtain ⟨z1, z2⟩ := hc j hj
        have z1 := cell_below BW.out z1
        have HV : Hid (choA H n r nx = (H[j].1 : Int)) := by unfold Hid choA; rw [hcj]; simp only; rw [getD_get hj]
        generalize H[j].1 = y at z1 HV
        have e4 : chI (some j) = (j : Int) := rfl
        rw [e4]
        have dj : decide ((j : Int) < 0) = false := by simp
        clear hcj hc e2 e3 z2 HCS e4
        go_wp2
        go_ret
        exact ⟨by rw [HV.out]; rfl, B1.out.trans (BW.out.mono B1.out.size)⟩
end Go.Proofs.Ythloinmnojlleaa
