/- GlD: a reader of a part: a set. -/
import Derived.Test.YtmagidkgajmhoaaDoorGlC
import Derived.Deep.Cut
import Derived.Deep.CutRange
import Derived.Deep.DeepCutAuto
import Derived.Deep.CutBlock
set_option linter.unusedVariables false
set_option linter.unusedSimpArgs false
namespace Go.Proofs.YtmagidkgajmhoaaDoor
open Go.RowKit

set_option maxHeartbeats 6400000 in
set_option maxRecDepth 100000 in
theorem set_any (w : World) (gr : Nat) (s : ByteArray) (k : Nat) (h : Rdr w gr s k) (hk : k ≤ s.size) (hs : s.size ≤ 1000000) :
    Calls Tryd.prog 46 #[.pointer (some ⟨gr, 0, none⟩)] w fun e w' => SetTo w gr s k e w' := by
  have hgr := lt_block h
  have hki : (k : Int) ≤ (s.size : Int) := by omega
  have kn : ((k : Nat) : Int).toNat = k := by omega
  obtain ⟨W1, hW1⟩ : ∃ W, W = (w.alloc (.cells #[.bool false, .bool false, .slice none 0 0] 74)).alloc (.cells #[.bool false, .bool false, .slice none 0 0] 74) := ⟨_, rfl⟩
  have K1 : Below w.heap.size w W1 := by rw [hW1]; exact ((Below.refl _ w).alloc (Nat.le_refl _) _).alloc (by simp) _
  have S1 : SetW w W1 gr w.heap.size (w.heap.size + 1) s k false (.slice none 0 0) [] := by
    refine ⟨RdTo.below ⟨h, Touch.refl _ w⟩ K1, ⟨.bool false, .bool false, .slice none 0 0, ?_⟩, ?_, World.ownsRow_nil _ _ _ _, Nat.le_refl _, by omega, by omega, hgr⟩
    · rw [hW1, Below.heap_alloc _ _ _ (by simp)]; exact blk_new w _
    · rw [hW1]
      have := blk_new (w.alloc (.cells #[.bool false, .bool false, .slice none 0 0] 74)) (.cells #[.bool false, .bool false, .slice none 0 0] 74)
      simpa using this
  have HS1 := Lib.hid S1
  obtain ⟨d0, d1⟩ := S1.rd.1.cells
  have d0' : W1.drew.cell? ⟨gr, 0, none⟩ = some (.string s) := d0
  have d1' : W1.drew.cell? ⟨gr, 1, none⟩ = some (.int .i64 (k : Int)) := d1
  have GO := Lib.hid (goes_any W1.drew s k 33)
  have fz4 : W1.frozen? ⟨w.heap.size + 1, 1, none⟩ = false := by have := S1.c4; simp [World.frozen?, this]
  have fzr : W1.frozen? ⟨gr, 1, none⟩ = false := by have := S1.rd.1; unfold Rdr at this; simp [World.frozen?, this]
  have q1 : W1.cell? ⟨w.heap.size + 1, 1, none⟩ = some (.bool false) := by rw [blk_cell S1.c4]; rfl
  have wk : IntKind.i64.wrap ((k : Int) + 1) = (k : Int) + 1 := by rw [IntKind.wrap_i64]; omega
  have HW1 := Lib.hid hW1
  clear K1 S1 hW1
  go_enter Tryd.func46, Tryd.ntmps46
  go_wp2_with fail
  rw [← HW1.out]
  refine wp_region_flag (fun w' => w'.cell? ⟨gr, 0, none⟩ = some (.string s) ∧ w'.cell? ⟨gr, 1, none⟩ = some (.int .i64 (k : Int))) [(0, 1), (1, 1), (2, 1), (4, 1), (5, 1), (6, 1), (3, 2), (7, 0), (8, 1), (9, 0)] (by kernel_rfl) (by kernel_rfl) ⟨d0', d1'⟩ ?_
  simp only [ordered, List.map_cons, List.map_nil, List.getD_cons_zero, List.getD_cons_succ]
  repeat (refine wpF_dry (fun K hK => ?_); go_simp; refine hK _ ?_; clear hK K)
  refine wpF_read (.string s) rfl (fun w' hS => by obtain ⟨s0, s1⟩ := hS; go_simp) (fun K hK => ?_); go_simp; refine hK _ ?_; clear hK K
  refine wpF_do ?_
  go_wp2_with fail
  refine ⟨⟨d0', d1'⟩, ?_⟩
  repeat (refine wpF_dry (fun K hK => ?_); go_simp; refine hK _ ?_; clear hK K)
  refine wpF_do ?_
  go_wp2_with fail
  refine GO.out.mono ?_
  rintro e w' ⟨rfl, rfl⟩
  go_wp2_with fail
  refine ⟨⟨d0', d1'⟩, ?_⟩
  refine wpF_nil ?_
  go_upto_if 18 with fail
  go_cut [4] (fun pv wx => pv = .pointer (some ⟨w.heap.size + 1, 0, none⟩) ∧ ∃ (nt : Bool) (k1 : Nat), k ≤ k1 ∧ k1 ≤ s.size ∧ Hid (SetW w wx gr w.heap.size (w.heap.size + 1) s k1 nt (.slice none 0 0) []) ∧ Hid (setQ ((dat s).drop k) = (setF (((dat s).drop k1).length + 1) [] ((dat s).drop k1)).map (fun x => (nt, x.1, x.2))))
  case first =>
    cases hn : headIs ((dat s).drop k) 33 with
    | true =>
      have hlt : k < s.size := by
        rcases Nat.lt_or_ge k s.size with h | h
        · exact h
        · have : (dat s).drop k = [] := List.drop_eq_nil_of_le (by unfold dat; rw [Array.length_toList]; exact h)
          rw [this] at hn
          cases hn
      have Q : Hid (setQ ((dat s).drop k) = (setF (((dat s).drop (k + 1)).length + 1) [] ((dat s).drop (k + 1))).map (fun x => (true, x.1, x.2))) := by unfold Hid setQ; rw [hn, if_pos rfl, List.drop_drop]
      have S2 := HS1.out.neg
      have S3 := Lib.hid ((S2.read (rdr_set S2.rd.1 (k + 1))).below (Below.refl _ _).drew)
      clear hn S2
      go_wp2_with fail
      go_meet
      exact ⟨rfl, true, k + 1, by omega, hlt, S3, Q⟩
    | false =>
      have Q : Hid (setQ ((dat s).drop k) = (setF (((dat s).drop k).length + 1) [] ((dat s).drop k)).map (fun x => (false, x.1, x.2))) := by unfold Hid setQ; rw [hn]; rfl
      go_wp2_with fail
      go_meet
      exact ⟨rfl, false, k, Nat.le_refl _, hk, HS1.out.below (Below.refl _ W1).drew, Q⟩
  case rest =>
    obtain ⟨rfl, nt, k1, hk1, hk2, hS, hQ⟩ := hcut
    have dl : ∀ j, ((dat s).drop j).length = s.size - j := fun j => by rw [List.length_drop]; unfold dat; rw [Array.length_toList]; rfl
    have DL := Lib.hid dl
    obtain ⟨R, hR⟩ : ∃ R, R = setQ ((dat s).drop k) := ⟨_, rfl⟩
    have HRR := Lib.hid hR
    obtain ⟨Q, hQ2⟩ : ∃ Q, Q = setF (((dat s).drop k1).length + 1) [] ((dat s).drop k1) := ⟨_, rfl⟩
    have HRQ : Hid (setQ ((dat s).drop k) = Q.map (fun x => (nt, x.1, x.2))) := by unfold Hid; rw [hQ.out, hQ2]
    rw [dl] at hQ2
    have HQ := Lib.hid hQ2
    clear hQ hQ2 dl q1 fz4 fzr d0 d1 d0' d1' GO hR
    go_wp2_with fail
    go_loopg [5] (s.size - k1 + 1) (fun f pv wr => ∃ (k2 : Nat) (A : Option Addr) (c : Nat) (l : Spans), k ≤ k2 ∧ (l ≠ [] → k < k2) ∧ k2 ≤ s.size ∧ s.size - k2 < f ∧ l.length + k ≤ k2 ∧ Hid (SetW w wr gr w.heap.size (w.heap.size + 1) s k2 nt (.slice A l.length c) l) ∧ Hid (Q = setF f l ((dat s).drop k2)))
    case atStart => exact ⟨k1, none, 0, [], hk1, (fun h => absurd rfl h), hk2, by omega, by simpa using hk1, hS, HQ⟩
    case round =>
      obtain ⟨k2, A, c, l, hk3, hk4, hk5, hf, hl5, hW, hq⟩ := hrel
      obtain ⟨f, rfl⟩ : ∃ f, gk = f + 1 := ⟨gk - 1, by omega⟩
      have hgr2 := hW.out.gr
      obtain ⟨Wd, hWd⟩ : ∃ W, W = wr.drew := ⟨_, rfl⟩
      have WD : SetW w Wd gr w.heap.size (w.heap.size + 1) s k2 nt (.slice A l.length c) l := by rw [hWd]; exact hW.out.below (Below.refl _ wr).drew
      obtain ⟨d0, d1⟩ := WD.rd.1.cells
      have e2 : Wd.cell? ⟨w.heap.size + 1, 2, none⟩ = some (.slice A l.length c) := by rw [blk_cell WD.c4]; rfl
      have hSS : wr.drew.cell? ⟨gr, 0, none⟩ = some (.string s) ∧ wr.drew.cell? ⟨gr, 1, none⟩ = some (.int .i64 (k2 : Int)) ∧ wr.drew.cell? ⟨w.heap.size + 1, 2, none⟩ = some (.slice A l.length c) := by rw [← hWd]; exact ⟨d0, d1, e2⟩
      have HWD := Lib.hid WD
      have hki2 : (k2 : Int) ≤ (s.size : Int) := by omega
      go_upto_region 5 with fail
      go_cut [42] from 27 to 42 (fun cv wx => cv = .bool (!l.isEmpty && headIs ((dat s).drop k2) 93) ∧ Hid (SetW w wx gr w.heap.size (w.heap.size + 1) s k2 nt (.slice A l.length c) l))
      case first =>
        go_wp2_with fail
        refine wp_region_flag (fun w' => w'.cell? ⟨gr, 0, none⟩ = some (.string s) ∧ w'.cell? ⟨gr, 1, none⟩ = some (.int .i64 (k2 : Int)) ∧ w'.cell? ⟨w.heap.size + 1, 2, none⟩ = some (.slice A l.length c)) [(0, 1), (1, 0), (2, 1), (3, 1), (4, 1), (5, 1), (6, 1), (7, 1), (9, 1), (10, 1), (11, 1), (8, 2), (12, 0), (13, 1), (14, 0), (15, 1)] (by kernel_rfl) (by kernel_rfl) hSS ?_
        rw [← hWd]
        clear hSS
        have HWd := Lib.hid hWd
        clear hWd WD
        simp only [ordered, List.map_cons, List.map_nil, List.getD_cons_zero, List.getD_cons_succ]
        repeat (refine wpF_dry (fun K hK => ?_); go_simp; refine hK _ ?_; clear hK K)
        refine wpF_do ?_
        go_wp2_with fail
        refine ⟨⟨d0, d1, e2⟩, ?_⟩
        by_cases hl : l = []
        · have hle : (!l.isEmpty && headIs ((dat s).drop k2) 93) = false := by rw [hl]; rfl
          subst hl
          repeat (refine wpF_dry (fun K hK => ?_); go_simp; refine hK _ ?_; clear hK K)
          refine wpF_skip (fun K hK => ?_); go_simp; refine hK _ ?_; clear hK K
          refine wpF_do ?_
          go_wp2_with fail
          refine ⟨⟨d0, d1, e2⟩, ?_⟩
          repeat (refine wpF_dry (fun K hK => ?_); go_simp; refine hK _ ?_; clear hK K)
          refine wpF_do ?_
          go_wp2_with fail
          refine ⟨⟨d0, d1, e2⟩, ?_⟩
          repeat (refine wpF_dry (fun K hK => ?_); go_simp; refine hK _ ?_; clear hK K)
          refine wpF_nil ?_
          go_wp2_with fail
          go_meet
          exact ⟨rfl, HWD⟩
        · have hlp : (0 : Int) < (l.length : Int) := by have := List.length_pos_iff.2 hl; omega
          have hlp' : 0 < l.length := List.length_pos_iff.2 hl
          have hle : (!l.isEmpty) = true := by cases l with
            | nil => exact absurd rfl hl
            | cons x r => rfl
          have GO := Lib.hid (goes_any Wd s k2 93)
          repeat (refine wpF_dry (fun K hK => ?_); go_simp; refine hK _ ?_; clear hK K)
          refine wpF_read (.string s) rfl (fun w' hS => by obtain ⟨s0, s1, s2⟩ := hS; go_simp) (fun K hK => ?_); go_simp; refine hK _ ?_; clear hK K
          refine wpF_do ?_
          go_wp2_with fail
          refine ⟨⟨d0, d1, e2⟩, ?_⟩
          repeat (refine wpF_dry (fun K hK => ?_); go_simp; refine hK _ ?_; clear hK K)
          refine wpF_do ?_
          go_wp2_with fail
          refine GO.out.mono ?_
          rintro e w' ⟨rfl, rfl⟩
          go_wp2_with fail
          refine ⟨⟨d0, d1, e2⟩, ?_⟩
          repeat (refine wpF_dry (fun K hK => ?_); go_simp; refine hK _ ?_; clear hK K)
          refine wpF_nil ?_
          go_wp2_with fail
          go_meet
          exact ⟨by rw [hle]; rfl, HWD⟩
      case rest =>
        obtain ⟨rfl, hWx⟩ := hcut
        clear d0 d1 e2 HWD hWd hSS
        cases hh : (!l.isEmpty && headIs ((dat s).drop k2) 93) with
        | true =>
          have hlt : k2 < s.size := by
            rcases Nat.lt_or_ge k2 s.size with h | h
            · exact h
            · have : (dat s).drop k2 = [] := List.drop_eq_nil_of_le (by unfold dat; rw [Array.length_toList]; exact h)
              rw [this] at hh
              simp [headIs] at hh
          have RF : Hid (setQ ((dat s).drop k) = some (nt, l, (dat s).drop (k2 + 1))) := by
            unfold Hid
            rw [HRQ.out, hq.out, setF_end _ _ _ hh, List.drop_drop]
            rfl
          have wk2 : IntKind.i64.wrap ((k2 : Int) + 1) = (k2 : Int) + 1 := by rw [IntKind.wrap_i64]; omega
          have fzr := fz_no hWx.out.rd.1 1
          obtain ⟨d0, d1⟩ := hWx.out.rd.1.cells
          have SN : SetW w (wc.setCell ⟨gr, 1, none⟩ (.int .i64 ((k2 : Int) + 1))) gr w.heap.size (w.heap.size + 1) s (k2 + 1) nt (.slice A l.length c) l := hWx.out.read (rdr_set hWx.out.rd.1 (k2 + 1))
          have n1 : gr ≠ w.heap.size := by omega
          have n2 : gr ≠ w.heap.size + 1 := by omega
          have n3 : w.heap.size ≠ gr := by omega
          have n4 : w.heap.size + 1 ≠ gr := by omega
          obtain ⟨z0, z1, z2, hc2⟩ := SN.c2
          have c20 := blk_cell hc2 0; have c21 := blk_cell hc2 1; have c22 := blk_cell hc2 2
          simp at c20 c21 c22
          have c40 := blk_cell SN.c4 0; have c41 := blk_cell SN.c4 1; have c42 := blk_cell SN.c4 2
          simp at c40 c41 c42
          have f20 := fz_no hc2 0; have f21 := fz_no hc2 1; have f22 := fz_no hc2 2
          have OUT := Lib.hid SN.out3
          clear hh SN hc2
          go_wp2
          obtain ⟨o1, o2, o3⟩ := OUT.out
          refine bodyPost_ret (results_tk rfl _ _ w.heap.size _ _ _ rfl o1) rfl ?_
          exact .inr ⟨nt, l, A, c, k2 + 1, RF.out, by omega, hlt, rfl, o2, o3⟩
        | false =>
          have QM : Hid (Q = setG f l ((dat s).drop k2)) := by unfold Hid; rw [hq.out]; exact setF_more _ _ _ hh
          clear hh hq
          have ME := Lib.hid (member_any wc gr s k2 hWx.out.rd.1 hk5 hs)
          go_wp2_with fail
          refine ME.out.mono ?_
          rintro e w3 (⟨m0, x, k3, rfl, hk6, hr⟩ | ⟨a, k3, m0, hk6, hk7, rfl, hr⟩)
          · have QN : Q = none := by rw [QM.out]; unfold setG; rw [m0]
            have RF : Hid (setQ ((dat s).drop k) = none) := by unfold Hid; rw [HRQ.out, QN]; rfl
            have n1 : gr ≠ w.heap.size := by omega
            have n2 : gr ≠ w.heap.size + 1 := by omega
            have SN := hWx.out.read hr
            obtain ⟨z0, z1, z2, hc2⟩ := SN.c2
            have c20 := blk_cell hc2 0; have c21 := blk_cell hc2 1; have c22 := blk_cell hc2 2
            simp at c20 c21 c22
            have c40 := blk_cell SN.c4 0; have c41 := blk_cell SN.c4 1; have c42 := blk_cell SN.c4 2
            simp at c40 c41 c42
            have f20 := fz_no hc2 0; have f21 := fz_no hc2 1; have f22 := fz_no hc2 2
            have OUT := Lib.hid SN.out3
            have KLE : Hid (k3 ≤ s.size) := hk6
            clear SN hc2
            go_wp2
            obtain ⟨o1, o2, o3⟩ := OUT.out
            refine bodyPost_ret (results_tk rfl _ _ w.heap.size _ _ _ rfl o1) rfl ?_
            exact .inl ⟨RF.out, nt, A, _, c, k3, rfl, KLE.out, o3⟩
          have QA : Hid (Q = if headIs ((dat s).drop k3) 45 = true then (match memP (((dat s).drop k3).drop 1) with
              | none => none
              | some (b, r2) => if b < a then none else setF f (l ++ [(a, b)]) r2)
            else setF f (l ++ [(a, a)]) ((dat s).drop k3)) := by unfold Hid; rw [QM.out]; unfold setG; rw [m0]; rfl
          have W3 := Lib.hid (hWx.out.read hr)
          obtain ⟨Wd, hWd⟩ : ∃ W, W = w3.drew := ⟨_, rfl⟩
          have WD : SetW w Wd gr w.heap.size (w.heap.size + 1) s k3 nt (.slice A l.length c) l := by rw [hWd]; exact W3.out.below (Below.refl _ w3).drew
          obtain ⟨d0, d1⟩ := WD.rd.1.cells
          have hSS : w3.drew.cell? ⟨gr, 0, none⟩ = some (.string s) ∧ w3.drew.cell? ⟨gr, 1, none⟩ = some (.int .i64 (k3 : Int)) := by rw [← hWd]; exact ⟨d0, d1⟩
          have HWD := Lib.hid WD
          have GO := Lib.hid (goes_any Wd s k3 45)
          have hki3 : (k3 : Int) ≤ (s.size : Int) := by omega
          clear m0 hr QM W3 WD ME hWx
          go_wp2_with fail
          refine wp_region_flag (fun w' => w'.cell? ⟨gr, 0, none⟩ = some (.string s) ∧ w'.cell? ⟨gr, 1, none⟩ = some (.int .i64 (k3 : Int))) [(0, 1), (1, 1), (2, 1), (4, 1), (5, 1), (6, 1), (3, 2), (7, 0), (8, 1), (9, 0)] (by kernel_rfl) (by kernel_rfl) hSS ?_
          rw [← hWd]
          clear hSS hWd
          simp only [ordered, List.map_cons, List.map_nil, List.getD_cons_zero, List.getD_cons_succ]
          repeat (refine wpF_dry (fun K hK => ?_); go_simp; refine hK _ ?_; clear hK K)
          refine wpF_read (.string s) rfl (fun w' hS => by obtain ⟨s0, s1⟩ := hS; go_simp) (fun K hK => ?_); go_simp; refine hK _ ?_; clear hK K
          refine wpF_do ?_
          go_wp2_with fail
          refine ⟨⟨d0, d1⟩, ?_⟩
          repeat (refine wpF_dry (fun K hK => ?_); go_simp; refine hK _ ?_; clear hK K)
          refine wpF_do ?_
          go_wp2_with fail
          refine GO.out.mono ?_
          rintro e w' ⟨rfl, rfl⟩
          go_wp2_with fail
          refine ⟨⟨d0, d1⟩, ?_⟩
          refine wpF_nil ?_
          go_upto_if 69 with fail
          go_cut [6, 7] from 69 to 89 (fun ov bv wx => ∃ (b : UInt8) (k4 : Nat), bv = .int .u8 (b.toNat : Int) ∧ k2 < k4 ∧ k4 ≤ s.size ∧ Hid (SetW w wx gr w.heap.size (w.heap.size + 1) s k4 nt (.slice A l.length c) l) ∧ Hid (Q = setF f (l ++ [(a, b)]) ((dat s).drop k4)))
          case first =>
            cases hh : headIs ((dat s).drop k3) 45 with
            | false =>
              have QB : Hid (Q = setF f (l ++ [(a, a)]) ((dat s).drop k3)) := by unfold Hid; rw [QA.out, hh]; rfl
              clear hh
              go_wp2_with fail
              go_meet
              exact ⟨a, k3, rfl, hk6, hk7, HWD, QB⟩
            | true =>
              have hlt : k3 < s.size := by
                rcases Nat.lt_or_ge k3 s.size with h | h
                · exact h
                · have : (dat s).drop k3 = [] := List.drop_eq_nil_of_le (by unfold dat; rw [Array.length_toList]; exact h)
                  rw [this] at hh
                  cases hh
              have QB : Hid (Q = match memP ((dat s).drop (k3 + 1)) with
                  | none => none
                  | some (b, r2) => if b < a then none else setF f (l ++ [(a, b)]) r2) := by unfold Hid; rw [QA.out, hh, List.drop_drop]; rfl
              have wk3 : IntKind.i64.wrap ((k3 : Int) + 1) = (k3 : Int) + 1 := by rw [IntKind.wrap_i64]; omega
              have fzr := fz_no HWD.out.rd.1 1
              have S4 : Hid (SetW w (Wd.setCell ⟨gr, 1, none⟩ (.int .i64 ((k3 : Int) + 1))) gr w.heap.size (w.heap.size + 1) s (k3 + 1) nt (.slice A l.length c) l) := HWD.out.read (rdr_set HWD.out.rd.1 (k3 + 1))
              have ME := Lib.hid (member_any _ gr s (k3 + 1) S4.out.rd.1 hlt hs)
              clear hh
              go_wp2_with fail
              refine ME.out.mono ?_
              rintro e w5 (⟨m1, x, k5, rfl, hk8, hr⟩ | ⟨b, k5, m1, hk8, hk9, rfl, hr⟩)
              · have QN : Q = none := by rw [QB.out, m1]
                have RF : Hid (setQ ((dat s).drop k) = none) := by unfold Hid; rw [HRQ.out, QN]; rfl
                have n1 : gr ≠ w.heap.size := by omega
                have n2 : gr ≠ w.heap.size + 1 := by omega
                have SN := S4.out.read hr
                obtain ⟨z0, z1, z2, hc2⟩ := SN.c2
                have c20 := blk_cell hc2 0; have c21 := blk_cell hc2 1; have c22 := blk_cell hc2 2
                simp at c20 c21 c22
                have c40 := blk_cell SN.c4 0; have c41 := blk_cell SN.c4 1; have c42 := blk_cell SN.c4 2
                simp at c40 c41 c42
                have f20 := fz_no hc2 0; have f21 := fz_no hc2 1; have f22 := fz_no hc2 2
                have OUT := Lib.hid SN.out3
                have KLE : Hid (k5 ≤ s.size) := hk8
                clear SN hc2
                go_wp2
                obtain ⟨o1, o2, o3⟩ := OUT.out
                refine bodyPost_ret (results_tk rfl _ _ w.heap.size _ _ _ rfl o1) rfl ?_
                exact .inl ⟨RF.out, nt, A, _, c, k5, rfl, KLE.out, o3⟩
              · have QC : Hid (Q = if b < a then none else setF f (l ++ [(a, b)]) ((dat s).drop k5)) := by unfold Hid; rw [QB.out, m1]
                have W5 := Lib.hid (S4.out.read hr)
                have hcmp : ((b.toNat : Int) < (a.toNat : Int)) ↔ b < a := by rw [UInt8.lt_iff_toNat_lt]; omega
                clear m1
                by_cases hba : b < a
                · have QN : Q = none := by rw [QC.out, if_pos hba]
                  have cb : decide ((b.toNat : Int) < (a.toNat : Int)) = true := decide_eq_true (hcmp.2 hba)
                  have cb' : decide (b.toNat < a.toNat) = true := decide_eq_true (by have := hcmp.2 hba; omega)
                  clear hcmp hr
                  have RF : Hid (setQ ((dat s).drop k) = none) := by unfold Hid; rw [HRQ.out, QN]; rfl
                  have n1 : gr ≠ w.heap.size := by omega
                  have n2 : gr ≠ w.heap.size + 1 := by omega
                  have SN := W5.out
                  obtain ⟨z0, z1, z2, hc2⟩ := SN.c2
                  have c20 := blk_cell hc2 0; have c21 := blk_cell hc2 1; have c22 := blk_cell hc2 2
                  simp at c20 c21 c22
                  have c40 := blk_cell SN.c4 0; have c41 := blk_cell SN.c4 1; have c42 := blk_cell SN.c4 2
                  simp at c40 c41 c42
                  have f20 := fz_no hc2 0; have f21 := fz_no hc2 1; have f22 := fz_no hc2 2
                  have OUT := Lib.hid SN.out3
                  have KLE : Hid (k5 ≤ s.size) := hk9
                  clear SN hc2
                  go_wp2
                  obtain ⟨o1, o2, o3⟩ := OUT.out
                  refine bodyPost_ret (results_tk rfl _ _ w.heap.size _ _ _ rfl o1) rfl ?_
                  exact .inl ⟨RF.out, nt, A, _, c, k5, rfl, KLE.out, o3⟩
                · have QD : Hid (Q = setF f (l ++ [(a, b)]) ((dat s).drop k5)) := by unfold Hid; rw [QC.out, if_neg hba]
                  have cb : decide ((b.toNat : Int) < (a.toNat : Int)) = false := decide_eq_false (fun h => hba (hcmp.1 h))
                  have cb' : decide (b.toNat < a.toNat) = false := decide_eq_false (fun h => hba (hcmp.1 (by omega)))
                  clear hcmp hba hr
                  go_wp2_with fail
                  go_meet
                  exact ⟨b, k5, rfl, by omega, hk9, W5, QD⟩
          case rest =>
            obtain ⟨b, k4, rfl, hk8, hk9, hW4, hQ4⟩ := hcut
            obtain ⟨i0, hi0, hz0, hz1, hz2⟩ := info_parts infoSp
            have e2 : wc.cell? ⟨w.heap.size + 1, 2, none⟩ = some (.slice A l.length c) := by rw [blk_cell hW4.out.c4]; rfl
            obtain ⟨W5, hW5⟩ : ∃ W, W = wc.alloc (.cells #[.int .u8 (a.toNat : Int), .int .u8 (b.toNat : Int)] 86) := ⟨_, rfl⟩
            have K5 : Below wc.heap.size wc W5 := by rw [hW5]; exact (Below.refl _ wc).alloc (Nat.le_refl _) _
            have S5 := Lib.hid (hW4.out.below K5)
            have N5 : Hid (∀ j u, [Value.int .u8 (a.toNat : Int), .int .u8 (b.toNat : Int)][j]? = some u → W5.cell? ((⟨wc.heap.size, 0, none⟩ : Addr).add j) = some u) := by unfold Hid; rw [hW5]; exact two_new _ _ _ _
            have L5 : Hid (w.heap.size ≤ W5.heap.size) := by have := S5.out.rd.2.size; exact this
            have HW5 := Lib.hid hW5
            have hll : l.length ≤ 1000000 := by omega
            clear K5 hW5
            go_wp2_with (at_builtin; rw [← HW5.out]; refine (wpList_append_own_at _ rfl (.tmp 91) (.tmp 95) 72 rfl w.heap.size 86 i0 _ 2 2 Tryd.underlying72 hi0 hz0 hz1 hz2 rfl (by decide) (.slice A l.length c) l.length (spv l) rfl S5.out.own ⟨wc.heap.size, 0, none⟩ 1 1 [.int .u8 (a.toNat : Int), .int .u8 (b.toNat : Int)] rfl rfl N5.out (by simp [Value.oneCell']) (by unfold maxLen; omega) (by omega) L5.out ?_))
            intro v6 w6 ho6 hg6 _ _
            obtain ⟨A6, c6, rfl⟩ := own_slice ho6
            have m4 := S5.out.more4 hg6
            have e6 : w6.cell? ⟨w.heap.size + 1, 2, none⟩ = some (.slice A l.length c) := by rw [blk_cell m4]; rfl
            have fz6 := fz_no m4 2
            have S6 := Lib.hid (S5.out.more (a, b) hg6 ho6)
            obtain ⟨l6, hl6⟩ : ∃ l6, l6 = l ++ [(a, b)] := ⟨_, rfl⟩
            have ll6 : l6.length = l.length + 1 := by rw [hl6]; simp
            have hne6 : l6 ≠ [] := by rw [hl6]; simp
            rw [← hl6] at S6 hQ4
            have HLL := Lib.hid ll6
            clear ho6 hg6 hl6 ll6 m4 S5 N5
            go_wp2
            go_roundg f
            case rel => first | exact ⟨k4, A6, c6, l6, by omega, fun _ => by omega, hk9, by omega, by have := HLL.out; omega, by rw [HLL.out]; exact S6, hQ4⟩ | ((repeat apply Exists.intro); refine ⟨?_, rfl⟩; exact ⟨k4, A6, c6, l6, by omega, fun _ => by omega, hk9, by omega, by have := HLL.out; omega, by rw [HLL.out]; exact S6, hQ4⟩)
            case measure => omega
end Go.Proofs.YtmagidkgajmhoaaDoor
