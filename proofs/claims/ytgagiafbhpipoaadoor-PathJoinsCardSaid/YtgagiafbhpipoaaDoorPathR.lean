/- PathR: the walks of the document's Above and Moved. -/
import Derived.Test.YtgagiafbhpipoaaDoorPathQ
import Derived.Deep.Slices
set_option linter.unusedVariables false
set_option linter.unusedSimpArgs false
namespace Go.Proofs.YtgagiafbhpipoaaDoor
open Go.RowKit

theorem glue_le (ps : List ByteArray) (s : Bs) (h : bytes ps = (cut s).dropLast) (hs : s.length ≤ 32) : (glue (bytes ps)).length ≤ 32 := by
  have := glue_take_len (cut s) ((cut s).length - 1)
  rw [glue_cut, ← List.dropLast_eq_take, ← h] at this
  omega
set_option maxHeartbeats 1600000 in
theorem refabove_any (s : ByteArray) (w : World) : Calls Tryd.prog 29 #[.string s] w fun e w' => ∃ q, e = .returned (.string q) ∧ dat q = aboveB (dat s) ∧ Below w.heap.size w w' := by
  go_enter Tryd.func29, Tryd.ntmps29
  go_wp2_with fail
  refine (refparts_any s w).mono ?_
  rintro e w1 ⟨A, c, ps, rfl, hps, hc, hl, hr, b1⟩
  have B1 := Lib.hid b1
  clear b1
  cases hg : goodB (dat s) with
  | false =>
    have hp : ps = [] := by
      unfold partsB at hps
      rw [hg] at hps
      simpa [bytes] using hps
    subst hp
    have M : Hid (aboveB (dat s) = []) := by unfold Hid aboveB; rw [hg]; rfl
    clear hr hg hps
    go_wp2
    go_ret
    exact ⟨ByteArray.empty, rfl, by rw [M.out]; rfl, B1.out⟩
  | true =>
    have hp2 : bytes ps = cut (dat s) := by rw [hps]; unfold partsB; rw [if_pos hg]
    have hpos : 0 < ps.length := by
      have := cut_ne (dat s)
      cases hd : ps with
      | nil => rw [hd] at hp2; exact (this hp2.symm).elim
      | cons x l => simp
    obtain ⟨g, rfl, hrow, _⟩ := hr hpos
    have HR := Lib.hid hrow
    have M : Hid (aboveB (dat s) = glue (cut (dat s)).dropLast) := by unfold Hid aboveB; rw [hg]; rfl
    have hb : bytes ps.dropLast = (cut (dat s)).dropLast := by rw [← hp2]; unfold bytes; rw [List.map_dropLast]
    have HB := Lib.hid hb
    have HS := Lib.hid (names_small hp2 hg)
    have HL : Hid ((glue (bytes ps.dropLast)).length ≤ 32) := glue_le _ _ hb (by have := good_size hg; rw [Lib.size_eq] at this; exact this)
    have RD : Hid (RdT w1 (.slice (some ⟨g, 0, none⟩) (ps.length - 1) c) ps.dropLast) := by
      have e : ps.length - 1 = ps.dropLast.length := by rw [List.length_dropLast]
      unfold Hid
      rw [e]
      exact Row.rds (fun j hj => by
        have h3 : j < ps.length := by rw [List.length_dropLast] at hj; omega
        rw [hrow j h3, List.getElem_dropLast]) c (by rw [List.length_dropLast]; omega)
    have hne : ((ps.length : Int) == 0) = false := by simp only [beq_eq_false_iff_ne, ne_eq]; omega
    clear hrow hg hps hp2 hr hb
    go_wp2_with fail
    refine (refglue_any w1 _ ps.dropLast RD.out (by rw [List.length_dropLast]; omega) (fun p hp => HS.out p (List.dropLast_subset _ hp))).mono ?_
    rintro e w2 ⟨q, rfl, hq, _, rfl⟩
    have hq := Lib.hid (hq (Nat.le_trans HL.out (by decide)))
    go_wp2
    go_ret
    exact ⟨q, rfl, by rw [hq.out, M.out, HB.out], B1.out⟩

theorem own_grow {w w' : World} {b g : Nat} {ps : List ByteArray} (h : w.grownBy w' (some b)) (hr : Row w g ps) (hg : g ≠ b) : Row w' g ps := fun j hj => by
  have := hr j hj
  exact (World.cell?_of_block (w := w) (h.block g (World.block_lt_of_cell? _ _ this) (fun e => hg (by simpa using e)))).trans this

theorem row_drop {w : World} {g : Nat} {ps : List ByteArray} (h : Row w g ps) (k : Nat) : ∀ j u, (strsV (ps.drop k))[j]? = some u → w.cell? ((⟨g, k, none⟩ : Addr).add j) = some u := fun j u hu => by
  simp only [strsV, List.getElem?_map, List.getElem?_drop, Option.map_eq_some_iff] at hu
  obtain ⟨x, hx, rfl⟩ := hu
  obtain ⟨hj, rfl⟩ := List.getElem?_eq_some_iff.1 hx
  have := h (k + j) hj
  by_cases e : j = 0
  · subst e; simpa [Addr.add] using this
  · simpa [Addr.add, e] using this
theorem strs_one {l : List ByteArray} : ∀ u ∈ strsV l, u.oneCell' = true := fun u hu => by
  simp only [strsV, List.mem_map] at hu
  obtain ⟨x, _, rfl⟩ := hu
  rfl
theorem moved_ref {p a t : Bs} (hp : goodB p = true) (ha : goodB a = true) (ht : goodB t = true) (h : coversB a p = true) : movedB p a t = if (glue (cut t ++ (cut p).drop (cut a).length)).length ≤ 32 then (glue (cut t ++ (cut p).drop (cut a).length), 0) else ([], 2) := by
  obtain ⟨r, e1, e2⟩ := covers_rest (good_ne ha) h
  have e3 : (cut p).drop (cut a).length = r := by rw [e1]; simp
  rw [e3, (e2 t).2]
  unfold movedB
  rw [hp, ha, ht, h, good_moved hp ha ht h]
  simp

set_option maxHeartbeats 6400000 in
theorem refmoved_any (p a t : ByteArray) (w : World) : Calls Tryd.prog 18 #[.string p, .string a, .string t] w fun e w' =>
    ∃ q, e = .returned (.tuple #[.string q, .int .i64 (movedB (dat p) (dat a) (dat t)).2]) ∧ dat q = (movedB (dat p) (dat a) (dat t)).1 ∧ Below w.heap.size w w' := by
  obtain ⟨i0, hi, hz0, hz1, hz2⟩ := info_parts infoStr
  have NO : ∀ w', Hid (movedB (dat p) (dat a) (dat t) = ([], 1)) → Below w.heap.size w w' → ∃ q, Ending.returned (.tuple #[.string ByteArray.empty, .int .i64 1]) = .returned (.tuple #[.string q, .int .i64 (movedB (dat p) (dat a) (dat t)).2]) ∧ dat q = (movedB (dat p) (dat a) (dat t)).1 ∧ Below w.heap.size w w' :=
    fun w' h hb => ⟨ByteArray.empty, by rw [h.out], by rw [h.out]; rfl, hb⟩
  have NO' := Lib.hid NO
  clear NO
  go_enter Tryd.func18, Tryd.ntmps18
  go_wp2_with fail
  refine (refgood_any p w).mono ?_
  rintro e w1 ⟨rfl, b1⟩
  have B1 := Lib.hid b1
  clear b1
  cases g1 : goodB (dat p) with
  | false =>
    have M := Lib.hid (moved_no (p := dat p) (a := dat a) (t := dat t) (.inl g1))
    clear g1
    go_wp2
    go_ret2
    exact NO'.out _ M B1.out
  | true =>
    have G1 := Lib.hid g1
    clear g1
    go_wp2_with fail
    refine (refgood_any a w1).mono ?_
    rintro e w2 ⟨rfl, b2⟩
    have B2 : Hid (Below w.heap.size w w2) := B1.out.trans (b2.mono B1.out.size)
    clear b2 B1
    cases g2 : goodB (dat a) with
    | false =>
      have M := Lib.hid (moved_no (p := dat p) (a := dat a) (t := dat t) (.inr (.inl g2)))
      clear g2
      go_wp2
      go_ret2
      exact NO'.out _ M B2.out
    | true =>
      have G2 := Lib.hid g2
      clear g2
      go_wp2_with fail
      refine (refgood_any t w2).mono ?_
      rintro e w3 ⟨rfl, b3⟩
      have B3 : Hid (Below w.heap.size w w3) := B2.out.trans (b3.mono B2.out.size)
      clear b3 B2
      cases g3 : goodB (dat t) with
      | false =>
        have M := Lib.hid (moved_no (p := dat p) (a := dat a) (t := dat t) (.inr (.inr (.inl g3))))
        clear g3
        go_wp2
        go_ret2
        exact NO'.out _ M B3.out
      | true =>
        have G3 := Lib.hid g3
        clear g3
        go_wp2_with fail
        refine (refcovers_any a p w3).mono ?_
        rintro e w4 ⟨rfl, b4⟩
        have B4 : Hid (Below w.heap.size w w4) := B3.out.trans (b4.mono B3.out.size)
        clear b4 B3
        cases g4 : coversB (dat a) (dat p) with
        | false =>
          have M := Lib.hid (moved_no (p := dat p) (a := dat a) (t := dat t) (.inr (.inr (.inr g4))))
          clear g4
          go_wp2
          go_ret2
          exact NO'.out _ M B4.out
        | true =>
          have HM := Lib.hid (moved_ref G1.out G2.out G3.out g4)
          have HLE : Hid ((cut (dat a)).length ≤ (cut (dat p)).length) := by
            obtain ⟨r, e, _⟩ := covers_rest (good_ne G2.out) g4
            unfold Hid
            rw [e, List.length_append]
            omega
          clear g4
          go_wp2_with fail
          refine (refparts_any t w4).mono ?_
          rintro e w5 ⟨A5, c5, pt, rfl, hpt, hc5, hl5, hr5, b5⟩
          have B5 : Hid (Below w.heap.size w w5) := B4.out.trans (b5.mono B4.out.size)
          have ht2 : bytes pt = cut (dat t) := by rw [hpt]; unfold partsB; rw [if_pos G3.out]
          have hposT : 0 < pt.length := by
            have := cut_ne (dat t)
            cases hd : pt with
            | nil => rw [hd] at ht2; exact (this ht2.symm).elim
            | cons x l => simp
          obtain ⟨g5, rfl, hr5, _⟩ := hr5 hposT
          have R5 := Lib.hid hr5
          have HT := Lib.hid ht2
          have ho1 := Lib.hid (World.ownsRow_nil w5 w.heap.size 9 1)
          have hsz5 : w.heap.size ≤ w5.heap.size := B5.out.size
          clear b5 hpt hr5 ht2 B4
          go_wp2_with (at_builtin; refine wpList_append_own_at _ rfl (.tmp 28) (.tmp 30) 32 rfl w.heap.size 9 i0 _ 1 16 Tryd.underlying32 hi hz0 hz1 hz2 rfl (by decide) (.slice none 0 0) 0 _ rfl ho1.out ⟨g5, 0, none⟩ pt.length c5 (strsV pt) rfl (by simp [strsV]) ?c1 ?c2 (by unfold maxLen; omega) (by omega) hsz5 ?_)
          case c1 =>
            intro j u hu
            exact row_drop R5.out 0 j u (by rw [List.drop_zero]; exact hu)
          case c2 => exact strs_one
          intro v6 w6 ho6 hg6 _ hb6
          have B6 : Hid (Below w.heap.size w w6) := B5.out.grown hg6 hsz5 (fun j hj => (ho1.out.lt j hj).1)
          have HO6 : Hid (w6.ownsRow w.heap.size 9 1 v6 pt.length (strsV pt)) := by
            unfold Hid
            first | exact ho6 | simpa using ho6
          clear ho6 hg6 ho1 B5
          go_wp2_with fail
          refine (refparts_any p w6).mono ?_
          rintro e w7 ⟨A7, c7, pp, rfl, hpp, hc7, hl7, hr7, b7⟩
          have B7 : Hid (Below w.heap.size w w7) := B6.out.trans (b7.mono B6.out.size)
          have hp2 : bytes pp = cut (dat p) := by rw [hpp]; unfold partsB; rw [if_pos G1.out]
          have hposP : 0 < pp.length := by
            have := cut_ne (dat p)
            cases hd : pp with
            | nil => rw [hd] at hp2; exact (this hp2.symm).elim
            | cons x l => simp
          obtain ⟨g7, rfl, hr7, hg7⟩ := hr7 hposP
          have HO7 : Hid (w7.ownsRow w.heap.size 9 1 v6 pt.length (strsV pt)) := HO6.out.kept (w' := w7) (row := none) ⟨b7.os, b7.tape, b7.output, b7.size, fun j hj _ => b7.block j hj⟩ (by
            cases hv : v6.ownBlock with
            | none => exact .inl rfl
            | some k => exact .inr (by simp))
          have FAR : Hid (∀ k, v6.ownBlock = some k → k < w6.heap.size) := fun k hk => (HO6.out.lt k hk).2
          have R7 := Lib.hid hr7
          have GG := Lib.hid hg7
          have HP := Lib.hid hp2
          clear b7 hpp hr7 hp2 B6 HO6 hg7
          go_wp2_with fail
          refine (refparts_any a w7).mono ?_
          rintro e w8 ⟨A8, c8, pa, rfl, hpa, hc8, hl8, hr8, b8⟩
          have B8 : Hid (Below w.heap.size w w8) := B7.out.trans (b8.mono B7.out.size)
          have ha2 : bytes pa = cut (dat a) := by rw [hpa]; unfold partsB; rw [if_pos G2.out]
          have HO8 : Hid (w8.ownsRow w.heap.size 9 1 v6 pt.length (strsV pt)) := HO7.out.kept (w' := w8) (row := none) ⟨b8.os, b8.tape, b8.output, b8.size, fun j hj _ => b8.block j hj⟩ (by
            cases hv : v6.ownBlock with
            | none => exact .inl rfl
            | some k => exact .inr (by simp))
          have R8 := Lib.hid (R7.out.below b8)
          have hle : pa.length ≤ pp.length := by
            have h1 := HLE.out
            rw [← ha2, ← HP.out] at h1
            simpa [bytes] using h1
          have HA := Lib.hid ha2
          have hsz8 : w.heap.size ≤ w8.heap.size := B8.out.size
          have hc7b : pp.length ≤ c7 := hc7
          clear b8 hpa ha2 B7 HO7 R7 hr8
          by_cases hcap : c7 = pa.length
          · have hdn : pp.drop pa.length = [] := List.drop_of_length_le (by omega)
            have HD := Lib.hid hdn
            clear hdn
            go_wp2_with (at_builtin; refine wpList_append_own_at _ rfl (.tmp 32) (.tmp 38) 32 rfl w.heap.size 9 i0 _ 1 16 Tryd.underlying32 hi hz0 hz1 hz2 rfl (by decide) v6 pt.length _ rfl HO8.out ⟨g7, 0, none⟩ (pp.length - pa.length) 0 (strsV (pp.drop pa.length)) rfl (by simp [strsV]) ?c1 ?c2 (by unfold maxLen; omega) (by omega) hsz8 ?_)
            case c1 => intro j u hu; rw [HD.out] at hu; simp [strsV] at hu
            case c2 => exact strs_one
            intro v9 w9 ho9 hg9 _ hb9
            have B9 : Hid (Below w.heap.size w w9) := B8.out.grown hg9 hsz8 (fun j hj => (HO8.out.lt j hj).1)
            have LE : (pt ++ pp.drop pa.length).length = pt.length + (pp.length - pa.length) := by simp
            have HO9 : Hid (w9.ownsRow w.heap.size 9 1 v9 (pt ++ pp.drop pa.length).length (strsV (pt ++ pp.drop pa.length))) := by
              unfold Hid
              rw [LE, show strsV (pt ++ pp.drop pa.length) = strsV pt ++ strsV (pp.drop pa.length) by simp [strsV]]
              exact ho9
            clear ho9 hg9 HO8 B8
            have HL : Hid (bytes (pt ++ pp.drop pa.length) = cut (dat t) ++ (cut (dat p)).drop (cut (dat a)).length) := by
              unfold Hid
              rw [← HT.out, ← HP.out, ← HA.out]
              simp [bytes]
            have HS : Hid (∀ x ∈ pt ++ pp.drop pa.length, x.size ≤ 12) := fun x hx => by
              rcases List.mem_append.1 hx with hx | hx
              · exact names_small HT.out G3.out x hx
              · exact names_small HP.out G1.out x (List.mem_of_mem_drop hx)
            have hlp : 0 < (pt ++ pp.drop pa.length).length := by rw [LE]; omega
            have hlm : (pt ++ pp.drop pa.length).length ≤ 4611686018427387904 := by rw [LE]; omega
            rw [← HL.out] at HM
            clear LE
            generalize pt ++ pp.drop pa.length = ls at HO9 HS HM hlp hlm
            obtain ⟨g9, c9, rfl, hc9, _, hr9⟩ := row_own HO9.out hlp
            have RD := Lib.hid (Row.rds hr9 c9 hc9)
            clear HO9 hr9 HL HA HP HT hb9 hb6 FAR GG
            go_wp2_with fail
            refine (refglue_any w9 _ ls RD.out hlm HS.out).mono ?_
            rintro e w10 ⟨q, rfl, hq1, hq2, rfl⟩
            by_cases h32 : (glue (bytes ls)).length ≤ 32
            · have hq := hq1 (Nat.le_trans h32 (by decide))
              have HM2 : Hid (movedB (dat p) (dat a) (dat t) = (dat q, 0)) := by unfold Hid; rw [HM.out, if_pos h32, hq]
              have hqs : q.size ≤ 32 := by rw [Lib.size_eq, show q.data.toList = dat q from rfl, hq]; exact h32
              have d32 : decide (32 < (q.size : Int)) = false := by simp; omega
              have HQ := Lib.hid hq
              clear hq1 hq2 hq hqs
              go_wp2_with fail
              refine (refglue_any w9 _ ls RD.out hlm HS.out).mono ?_
              rintro e w11 ⟨q2, rfl, hq3, _, rfl⟩
              have hqq := dat_inj ((hq3 (Nat.le_trans h32 (by decide))).trans HQ.out.symm)
              subst hqq
              clear hq3
              go_wp2
              go_ret2
              exact ⟨q2, by rw [HM2.out]; rfl, by rw [HM2.out], B9.out⟩
            · have HM2 : Hid (movedB (dat p) (dat a) (dat t) = ([], 2)) := by unfold Hid; rw [HM.out, if_neg h32]
              have hqs : 32 < q.size := by
                by_cases h100 : (glue (bytes ls)).length ≤ 100
                · rw [Lib.size_eq, show q.data.toList = dat q from rfl, hq1 h100]; omega
                · have := hq2 (by omega); omega
              have d32 : decide (32 < (q.size : Int)) = true := by simp; omega
              clear hq1 hq2 hqs
              go_wp2
              go_ret2
              exact ⟨ByteArray.empty, by rw [HM2.out]; rfl, by rw [HM2.out]; rfl, B9.out⟩
          · go_wp2_with (at_builtin; refine wpList_append_own_at _ rfl (.tmp 32) (.tmp 38) 32 rfl w.heap.size 9 i0 _ 1 16 Tryd.underlying32 hi hz0 hz1 hz2 rfl (by decide) v6 pt.length _ rfl HO8.out ⟨g7, pa.length, none⟩ (pp.length - pa.length) (c7 - pa.length) (strsV (pp.drop pa.length)) rfl (by simp [strsV]) ?c1 ?c2 (by unfold maxLen; omega) (by omega) hsz8 ?_)
            case c1 => exact row_drop R8.out pa.length
            case c2 => exact strs_one
            intro v9 w9 ho9 hg9 _ hb9
            have B9 : Hid (Below w.heap.size w w9) := B8.out.grown hg9 hsz8 (fun j hj => (HO8.out.lt j hj).1)
            have LE : (pt ++ pp.drop pa.length).length = pt.length + (pp.length - pa.length) := by simp
            have HO9 : Hid (w9.ownsRow w.heap.size 9 1 v9 (pt ++ pp.drop pa.length).length (strsV (pt ++ pp.drop pa.length))) := by
              unfold Hid
              rw [LE, show strsV (pt ++ pp.drop pa.length) = strsV pt ++ strsV (pp.drop pa.length) by simp [strsV]]
              exact ho9
            clear ho9 hg9 HO8 B8
            have HL : Hid (bytes (pt ++ pp.drop pa.length) = cut (dat t) ++ (cut (dat p)).drop (cut (dat a)).length) := by
              unfold Hid
              rw [← HT.out, ← HP.out, ← HA.out]
              simp [bytes]
            have HS : Hid (∀ x ∈ pt ++ pp.drop pa.length, x.size ≤ 12) := fun x hx => by
              rcases List.mem_append.1 hx with hx | hx
              · exact names_small HT.out G3.out x hx
              · exact names_small HP.out G1.out x (List.mem_of_mem_drop hx)
            have hlp : 0 < (pt ++ pp.drop pa.length).length := by rw [LE]; omega
            have hlm : (pt ++ pp.drop pa.length).length ≤ 4611686018427387904 := by rw [LE]; omega
            rw [← HL.out] at HM
            clear LE
            generalize pt ++ pp.drop pa.length = ls at HO9 HS HM hlp hlm
            obtain ⟨g9, c9, rfl, hc9, _, hr9⟩ := row_own HO9.out hlp
            have RD := Lib.hid (Row.rds hr9 c9 hc9)
            clear HO9 hr9 HL HA HP HT hb9 hb6 FAR GG
            go_wp2_with fail
            refine (refglue_any w9 _ ls RD.out hlm HS.out).mono ?_
            rintro e w10 ⟨q, rfl, hq1, hq2, rfl⟩
            by_cases h32 : (glue (bytes ls)).length ≤ 32
            · have hq := hq1 (Nat.le_trans h32 (by decide))
              have HM2 : Hid (movedB (dat p) (dat a) (dat t) = (dat q, 0)) := by unfold Hid; rw [HM.out, if_pos h32, hq]
              have hqs : q.size ≤ 32 := by rw [Lib.size_eq, show q.data.toList = dat q from rfl, hq]; exact h32
              have d32 : decide (32 < (q.size : Int)) = false := by simp; omega
              have HQ := Lib.hid hq
              clear hq1 hq2 hq hqs
              go_wp2_with fail
              refine (refglue_any w9 _ ls RD.out hlm HS.out).mono ?_
              rintro e w11 ⟨q2, rfl, hq3, _, rfl⟩
              have hqq := dat_inj ((hq3 (Nat.le_trans h32 (by decide))).trans HQ.out.symm)
              subst hqq
              clear hq3
              go_wp2
              go_ret2
              exact ⟨q2, by rw [HM2.out]; rfl, by rw [HM2.out], B9.out⟩
            · have HM2 : Hid (movedB (dat p) (dat a) (dat t) = ([], 2)) := by unfold Hid; rw [HM.out, if_neg h32]
              have hqs : 32 < q.size := by
                by_cases h100 : (glue (bytes ls)).length ≤ 100
                · rw [Lib.size_eq, show q.data.toList = dat q from rfl, hq1 h100]; omega
                · have := hq2 (by omega); omega
              have d32 : decide (32 < (q.size : Int)) = true := by simp; omega
              clear hq1 hq2 hqs
              go_wp2
              go_ret2
              exact ⟨ByteArray.empty, by rw [HM2.out]; rfl, by rw [HM2.out]; rfl, B9.out⟩
end Go.Proofs.YtgagiafbhpipoaaDoor
