/- PathS: the walks of the document's Same, of path.Join and the document's Join. -/
import Derived.Test.YtgagiafbhpipoaaDoorPathR
import Derived.Test.YtgagiafbhpipoaaDoorPathShelf2
import Derived.Lib.Join
set_option linter.unusedVariables false
set_option linter.unusedSimpArgs false
namespace Go.Proofs.YtgagiafbhpipoaaDoor
open Go.RowKit

theorem RdT.below {w w' : World} {v : Value} {ps : List ByteArray} (h : RdT w v ps) (hb : Below w.heap.size w w') : RdT w' v ps := by
  obtain ⟨A, c, a, b, d⟩ := h
  exact ⟨A, c, a, b, fun hp => by
    obtain ⟨g, off, e, f⟩ := d hp
    exact ⟨g, off, e, fun j hj => (hb.cell (World.block_lt_of_cell? _ _ (f j hj))).trans (f j hj)⟩⟩
theorem rdt_of {w : World} {A : Option Addr} {c : Nat} {ps : List ByteArray} {B : Nat} (hc : ps.length ≤ c) (h : 0 < ps.length → ∃ g, A = some ⟨g, 0, none⟩ ∧ Row w g ps ∧ B ≤ g) : RdT w (.slice A ps.length c) ps :=
  ⟨A, c, rfl, hc, fun hp => by
    obtain ⟨g, e, hr, _⟩ := h hp
    exact ⟨g, 0, e, fun j hj => by rw [Nat.zero_add]; exact hr j hj⟩⟩
set_option maxHeartbeats 1600000 in
theorem refsame_any (w : World) (v1 v2 : Value) (ps qs : List ByteArray) (h1 : RdT w v1 ps) (h2 : RdT w v2 qs) (hb : bytes ps = bytes qs) (hn : ps.length ≤ 33) :
    Calls Tryd.prog 26 #[v1, v2] w fun e w' => e = .returned (.bool true) ∧ Below w.heap.size w w' := by
  have hl : qs.length = ps.length := by have := congrArg List.length hb; simpa [bytes] using this.symm
  obtain ⟨A, c, rfl, hc, hr⟩ := h1
  obtain ⟨A2, c2, rfl, hc2, hr2⟩ := h2
  have HR := Lib.hid hr; have HR2 := Lib.hid hr2
  have EQ : Hid (∀ j (h : j < ps.length), dat ps[j] = dat (qs[j]'(by omega))) := fun j h => by
    have : (bytes ps)[j]? = (bytes qs)[j]? := by rw [hb]
    unfold bytes at this
    simp only [List.getElem?_map, List.getElem?_eq_getElem h, List.getElem?_eq_getElem (show j < qs.length by omega), Option.map_some, Option.some.injEq] at this
    exact this
  rw [hl]
  have hne : (((ps.length : Nat) : Int) == (ps.length : Nat)) = true := by simp
  clear hr hr2 hb
  go_enter Tryd.func26, Tryd.ntmps26
  go_wp2_with fail
  go_loopw [5, 11] (fun i i2 wr => ∃ k : Nat, k ≤ ps.length ∧ i = .int .i64 k ∧ Hid (Below w.heap.size w wr)) (fun i _ _ => ps.length - (intOf i).toNat)
  case atStart => exact ⟨0, Nat.zero_le _, rfl, Below.refl _ _⟩
  case round =>
    obtain ⟨k, hk, rfl, hb⟩ := hrel
    by_cases hlt : k < ps.length
    · have hlt2 : k < qs.length := by omega
      obtain ⟨g1, o1, rfl, f1⟩ := HR.out (by omega)
      obtain ⟨g2, o2, rfl, f2⟩ := HR2.out (by omega)
      have c1 := (hb.out.cell (World.block_lt_of_cell? _ _ (f1 k hlt))).trans (f1 k hlt)
      have c2' := (hb.out.cell (World.block_lt_of_cell? _ _ (f2 k hlt2))).trans (f2 k hlt2)
      have he := EQ.out k hlt
      generalize ps[k] = x at c1 he
      generalize qs[k] = y at c2' he
      have e1 : (x.toList == y.toList) = true := by rw [beqD]; simpa using he
      clear he f1 f2
      go_wp2_with fail
      refine wp_region_flag (fun w' => w'.cell? ⟨g1, o1 + k, none⟩ = some (.string x)) [(0, 1), (1, 1), (2, 1), (4, 1), (5, 1), (6, 1), (3, 2), (7, 0), (8, 1)] (by kernel_rfl) (by kernel_rfl) c1 ?_
      simp only [ordered, List.map_cons, List.map_nil, List.getD_cons_zero, List.getD_cons_succ]
      repeat (refine wpF_dry (fun K hK => ?_); go_simp; refine hK _ ?_; clear hK K)
      refine wpF_read (.string x) rfl (fun w' hS => by go_simp) (fun K hK => ?_)
      go_simp
      refine hK _ ?_
      clear hK K
      refine wpF_do ?_
      go_wp2_with fail
      refine ⟨c1, ?_⟩
      repeat (refine wpF_dry (fun K hK => ?_); go_simp; refine hK _ ?_; clear hK K)
      refine wpF_nil ?_
      go_wp2
      go_roundw
      case rel => exact ⟨k + 1, hlt, by go_num, hb.out.drew⟩
      case measure => simp [intOf]; omega
    · go_wp2
      go_ret
      exact ⟨rfl, hb.out⟩

theorem join_glue : ∀ ps : List Bs, Lib.join ps [47] = glue ps
  | [] => rfl
  | [a] => Lib.join_one _ _
  | a :: b :: r => by
    rw [Lib.join_cons, glue_cons _ _ (by simp), ← join_glue (b :: r), Lib.join_cons]
    unfold Lib.joinTail
    simp
theorem join_big (o c : Nat) (bk : Nat) (xs : List ByteArray) (w : World) (hcells : ∀ (j : Nat) x, xs[j]? = some x → w.cell? ⟨bk, o + j, none⟩ = some (.string x)) (hbk : bk < w.heap.size) (hN : xs.length ≤ 140737488355328) (hcap : xs.length ≤ c) (hlen : (glue (bytes xs)).length ≤ 140737488355328) :
    Calls Tryd.prog 37 #[.slice (some ⟨bk, o, none⟩) xs.length c, .string ⟨#[47]⟩] w fun e w' => ∃ q, e = .returned (.string q) ∧ dat q = glue (bytes xs) ∧ Below w.heap.size w w' := by
  have e : Lib.join (xs.map (·.data.toList)) (⟨#[47]⟩ : ByteArray).data.toList = glue (bytes xs) := join_glue (bytes xs)
  have h : Calls Tryd.prog 37 #[.slice (some ⟨bk, o, none⟩) xs.length c, .string ⟨#[47]⟩] w fun e w' => e = .returned (.string ⟨(Lib.join (xs.map (·.data.toList)) (⟨#[47]⟩ : ByteArray).data.toList).toArray⟩) ∧ Below w.heap.size w w' :=
    Any.strings_Join Tryd.lays156 Tryd.Builder_Extra_156 bk o c xs ⟨#[47]⟩ w hcells hbk hN hcap (by rw [e]; exact hlen)
  rw [e] at h
  exact h.mono fun e' w' ⟨a, b⟩ => ⟨_, a, by simp [dat], b⟩
theorem glue_few (ps : List ByteArray) (h : ∀ p ∈ ps, p.size ≤ 12) : (glue (bytes ps)).length ≤ 13 * ps.length := by
  induction ps with
  | nil => simp [bytes, glue]
  | cons a r ih =>
    have ha := h a (by simp)
    have hr := ih (fun p hp => h p (by simp [hp]))
    have ha2 := ha
    rw [Lib.size_eq] at ha2
    by_cases e : r = []
    · subst e; simp [bytes, glue]; omega
    · show (glue (dat a :: bytes r)).length ≤ _
      rw [glue_cons _ _ (by simpa [bytes] using e), List.length_append, List.length_cons]
      simp only [List.length_cons, dat]
      omega
theorem name_size {p : ByteArray} (h : nameB (dat p) = true) : p.size ≤ 12 := by
  have := (name_len h).2
  rw [← Lib.size_eq] at this
  exact this
theorem joinB_no {ps : List ByteArray} {k : Nat} (hk : k < ps.length) (h : nameB (dat ps[k]) = false) : joinB (bytes ps) = ([], 1) := by
  unfold joinB
  have h1 : ¬ bytes ps = [] := by intro e; have := congrArg List.length e; simp [bytes] at this; subst this; simp at hk
  rw [if_neg h1, if_neg]
  intro e
  have := List.all_eq_true.1 e (dat ps[k]) (List.mem_map_of_mem (List.getElem_mem hk))
  rw [h] at this
  cases this
theorem joinB_yes {ps : List ByteArray} (hp : 0 < ps.length) (h : ∀ j (hj : j < ps.length), nameB (dat ps[j]) = true) : joinB (bytes ps) = (if (glue (bytes ps)).length ≤ 32 then (glue (bytes ps), 0) else ([], 2)) ∧ (∀ p ∈ ps, nameB (dat p) = true) := by
  have h2 : ∀ p ∈ ps, nameB (dat p) = true := fun p hp => by
    obtain ⟨j, hj, rfl⟩ := List.mem_iff_getElem.1 hp
    exact h j hj
  have h1 : ¬ bytes ps = [] := by intro e; have := congrArg List.length e; simp [bytes] at this; subst this; simp at hp
  refine ⟨?_, h2⟩
  unfold joinB
  rw [if_neg h1, if_pos]
  rw [List.all_eq_true]
  intro p hp
  obtain ⟨x, hx, rfl⟩ := List.mem_map.1 hp
  exact h2 x hx

set_option maxHeartbeats 3200000 in
theorem join_any (w : World) (v : Value) (ps : List ByteArray) (hv : RdT w v ps) (hn : ps.length ≤ 4611686018427387904) :
    Calls Tryd.prog 30 #[v] w fun e w' => ∃ q, e = .returned (.tuple #[.string q, .int .i64 (joinB (bytes ps)).2]) ∧ dat q = (joinB (bytes ps)).1 ∧ Below w.heap.size w w' := by
  obtain ⟨A, c, rfl, hlc, hrow⟩ := hv
  have HR := Lib.hid hrow
  clear hrow
  by_cases h0 : ps.length = 0
  · obtain rfl : ps = [] := List.eq_nil_of_length_eq_zero h0
    go_enter Tryd.func30, Tryd.ntmps30
    go_wp2
    go_ret2
    exact ⟨ByteArray.empty, rfl, rfl, Below.refl _ _⟩
  · obtain ⟨g, off, rfl, hr⟩ := HR.out (by omega)
    have RR := Lib.hid hr
    have HP : Hid (0 < ps.length) := by unfold Hid; omega
    have q0 : ((ps.length : Int) == 0) = false := by simp only [beq_eq_false_iff_ne, ne_eq]; omega
    clear hr HR h0
    go_enter Tryd.func30, Tryd.ntmps30
    go_wp2_with fail
    go_loopw [12] (fun i wr => ∃ k : Nat, k ≤ ps.length ∧ i = .int .i64 k ∧ Hid (Below w.heap.size w wr) ∧ Hid (∀ j (hj : j < ps.length), j < k → nameB (dat ps[j]) = true)) (fun i _ => ps.length - (intOf i).toNat)
    case atStart => exact ⟨0, Nat.zero_le _, rfl, Below.refl _ _, fun j hj h => by omega⟩
    case round =>
      obtain ⟨k, hk, rfl, hb, hall⟩ := hrel
      by_cases hlt : k < ps.length
      · have c0 := (hb.out.cell (World.block_lt_of_cell? _ _ (RR.out k hlt))).trans (RR.out k hlt)
        have HA : Hid (nameB (dat ps[k]) = true → ∀ j (hj : j < ps.length), j < k + 1 → nameB (dat ps[j]) = true) := fun hn j hj h => by
          by_cases e : j = k
          · subst e; exact hn
          · exact hall.out j hj (by omega)
        have HF : Hid (nameB (dat ps[k]) = false → joinB (bytes ps) = ([], 1)) := joinB_no hlt
        generalize ps[k] = x at c0 HA HF
        go_wp2_with fail
        refine (name_any x wr).mono ?_
        rintro e w2 ⟨rfl, b2⟩
        have B2 : Hid (Below w.heap.size w w2) := hb.out.trans (b2.mono hb.out.size)
        clear b2 c0
        cases hn : nameB (dat x) with
        | true =>
          have G := Lib.hid (HA.out hn)
          clear hn HA HF
          go_wp2
          go_roundw
          case rel => exact ⟨k + 1, hlt, by go_num, B2, G⟩
          case measure => simp [intOf]; omega
        | false =>
          have hf := Lib.hid (HF.out hn)
          clear hn HA HF
          go_wp2
          go_ret2
          exact ⟨ByteArray.empty, by rw [hf.out]; rfl, by rw [hf.out]; rfl, B2.out⟩
      · obtain ⟨HJ, NM⟩ := joinB_yes HP.out (fun j hj => hall.out j hj (by omega))
        have HJ := Lib.hid HJ; have NM := Lib.hid NM
        by_cases h32 : 32 < ps.length
        · have hf : Hid (joinB (bytes ps) = ([], 2)) := by
            unfold Hid
            rw [HJ.out, if_neg (join_many (by rw [List.all_eq_true]; intro p hp; obtain ⟨x, hx, rfl⟩ := List.mem_map.1 hp; exact NM.out x hx) (by simpa [bytes] using h32))]
          have d32 : decide (32 < (ps.length : Int)) = true := by simp; omega
          have d33 : decide (32 < ps.length) = true := by simp; omega
          clear h32
          go_wp2
          go_ret2
          exact ⟨ByteArray.empty, by rw [hf.out]; rfl, by rw [hf.out]; rfl, hb.out⟩
        · have d32 : decide (32 < (ps.length : Int)) = false := by simp; omega
          have d33 : decide (32 < ps.length) = false := by simp; omega
          have hfew := glue_few ps (fun p hp => name_size (NM.out p hp))
          have JB := Lib.hid (join_big off c g ps wr (fun j x hx => by
            obtain ⟨hj, rfl⟩ := List.getElem?_eq_some_iff.1 hx
            exact (hb.out.cell (World.block_lt_of_cell? _ _ (RR.out j hj))).trans (RR.out j hj)) (by
              have : g < w.heap.size := World.block_lt_of_cell? _ _ (RR.out 0 HP.out)
              have := hb.out.size
              omega) (by omega) hlc (by omega))
          clear hfew
          go_wp2_with fail
          refine JB.out.mono ?_
          rintro e w3 ⟨q, rfl, hq, b3⟩
          have B3 : Hid (Below w.heap.size w w3) := hb.out.trans (b3.mono hb.out.size)
          have HQ := Lib.hid hq
          have GG : Hid (goodB (dat q) = decide ((glue (bytes ps)).length ≤ 32)) := by
            unfold Hid
            rw [hq]
            refine good_glue ?_ (fun p hp => by obtain ⟨x, hx, rfl⟩ := List.mem_map.1 hp; exact NM.out x hx)
            intro e
            have e2 : (bytes ps).length = 0 := by rw [e]; rfl
            rw [show (bytes ps).length = ps.length by simp [bytes]] at e2
            have e3 : 0 < ps.length := HP.out
            omega
          clear b3 hq
          go_wp2_with fail
          refine (good_any q w3).mono ?_
          rintro e w4 ⟨rfl, b4⟩
          have B4 : Hid (Below w.heap.size w w4) := B3.out.trans (b4.mono B3.out.size)
          clear b4
          cases hg : goodB (dat q) with
          | true =>
            have hf : Hid (joinB (bytes ps) = (dat q, 0)) := by
              unfold Hid
              rw [HJ.out, if_pos (by rw [GG.out] at hg; simpa using hg), HQ.out]
            clear hg
            go_wp2
            go_ret2
            exact ⟨q, by rw [hf.out]; rfl, by rw [hf.out], B4.out⟩
          | false =>
            have hf : Hid (joinB (bytes ps) = ([], 2)) := by
              unfold Hid
              rw [HJ.out, if_neg (by rw [GG.out] at hg; simpa using hg)]
            clear hg
            go_wp2
            go_ret2
            exact ⟨ByteArray.empty, by rw [hf.out]; rfl, by rw [hf.out]; rfl, B4.out⟩

set_option maxHeartbeats 3200000 in
theorem refjoin_any (w : World) (v : Value) (ps : List ByteArray) (hv : RdT w v ps) (hn : ps.length ≤ 4611686018427387904) :
    Calls Tryd.prog 31 #[v] w fun e w' => ∃ q, e = .returned (.tuple #[.string q, .int .i64 (joinB (bytes ps)).2]) ∧ dat q = (joinB (bytes ps)).1 ∧ Below w.heap.size w w' := by
  have HV := Lib.hid hv
  obtain ⟨A, c, rfl, hlc, hrow⟩ := hv
  have HR := Lib.hid hrow
  clear hrow
  go_enter Tryd.func31, Tryd.ntmps31
  go_wp2_with fail
  go_loopw [4, 5] (fun i i2 wr => ∃ k : Nat, k ≤ ps.length ∧ i = .int .i64 k ∧ wr = w ∧ Hid (∀ j (hj : j < ps.length), j < k → nameB (dat ps[j]) = true)) (fun i _ _ => ps.length - (intOf i).toNat)
  case atStart => exact ⟨0, Nat.zero_le _, rfl, rfl, fun j hj h => by omega⟩
  case round =>
    obtain ⟨k, hk, rfl, rfl, hall⟩ := hrel
    by_cases hlt : k < ps.length
    · obtain ⟨g, off, rfl, hr⟩ := HR.out (by omega)
      have c0 := hr k hlt
      have HA : Hid (nameB (dat ps[k]) = true → ∀ j (hj : j < ps.length), j < k + 1 → nameB (dat ps[j]) = true) := fun hn j hj h => by
        by_cases e : j = k
        · subst e; exact hn
        · exact hall.out j hj (by omega)
      have HF : Hid (nameB (dat ps[k]) = false → joinB (bytes ps) = ([], 1)) := joinB_no hlt
      generalize ps[k] = x at c0 HA HF
      clear hr
      go_wp2_with fail
      refine (refname_any x _).mono ?_
      rintro e w2 ⟨rfl, rfl⟩
      cases hn : nameB (dat x) with
      | true =>
        have G := Lib.hid (HA.out hn)
        clear hn HA HF c0
        go_wp2
        go_roundw
        case rel => exact ⟨k + 1, hlt, by go_num, trivial, G⟩
        case measure => simp [intOf]; omega
      | false =>
        have hf := Lib.hid (HF.out hn)
        clear hn HA HF c0
        go_wp2
        go_ret2
        exact ⟨ByteArray.empty, by rw [hf.out]; rfl, by rw [hf.out]; rfl, Below.refl _ _⟩
    · by_cases h0 : ps.length = 0
      · have q0 : ((ps.length : Int) == 0) = true := by simp only [beq_iff_eq]; omega
        have hf : Hid (joinB (bytes ps) = ([], 1)) := by
          obtain rfl : ps = [] := List.eq_nil_of_length_eq_zero h0
          rfl
        clear h0
        go_wp2
        go_ret2
        exact ⟨ByteArray.empty, by rw [hf.out]; rfl, by rw [hf.out]; rfl, Below.refl _ _⟩
      · have q0 : ((ps.length : Int) == 0) = false := by simp only [beq_eq_false_iff_ne, ne_eq]; omega
        obtain ⟨HJ, NM⟩ := joinB_yes (show 0 < ps.length by omega) (fun j hj => hall.out j hj (by omega))
        have HJ := Lib.hid HJ; have NM := Lib.hid (fun p hp => name_size (NM p hp))
        have GL := Lib.hid (refglue_any _ _ ps HV.out hn NM.out)
        clear h0
        go_wp2_with fail
        refine GL.out.mono ?_
        rintro e w2 ⟨q, rfl, hq1, hq2, rfl⟩
        by_cases h32 : (glue (bytes ps)).length ≤ 32
        · have hq := hq1 (Nat.le_trans h32 (by decide))
          have HM2 : Hid (joinB (bytes ps) = (dat q, 0)) := by unfold Hid; rw [HJ.out, if_pos h32, hq]
          have hqs : q.size ≤ 32 := by rw [Lib.size_eq, show q.data.toList = dat q from rfl, hq]; exact h32
          have d32 : decide (32 < (q.size : Int)) = false := by simp; omega
          have HQ := Lib.hid hq
          clear hq1 hq2 hq hqs
          go_wp2_with fail
          refine GL.out.mono ?_
          rintro e w11 ⟨q2, rfl, hq3, _, rfl⟩
          have hqq := dat_inj ((hq3 (Nat.le_trans h32 (by decide))).trans HQ.out.symm)
          subst hqq
          clear hq3
          go_wp2
          go_ret2
          exact ⟨q2, by rw [HM2.out]; rfl, by rw [HM2.out], Below.refl _ _⟩
        · have HM2 : Hid (joinB (bytes ps) = ([], 2)) := by unfold Hid; rw [HJ.out, if_neg h32]
          have hqs : 32 < q.size := by
            by_cases h100 : (glue (bytes ps)).length ≤ 100
            · rw [Lib.size_eq, show q.data.toList = dat q from rfl, hq1 h100]; omega
            · have := hq2 (by omega); omega
          have d32 : decide (32 < (q.size : Int)) = true := by simp; omega
          clear hq1 hq2 hqs
          go_wp2
          go_ret2
          exact ⟨ByteArray.empty, by rw [HM2.out]; rfl, by rw [HM2.out]; rfl, Below.refl _ _⟩
end Go.Proofs.YtgagiafbhpipoaaDoor
