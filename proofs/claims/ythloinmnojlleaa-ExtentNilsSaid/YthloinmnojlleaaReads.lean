/- Reads: the walk of ExtentReads (written by gen_reads.py). -/
import Derived.Test.YthloinmnojlleaaNumE
import Derived.Laws.IdiomStrings
set_option linter.unusedVariables false
set_option linter.unusedSimpArgs false
namespace Go.Proofs.Ythloinmnojlleaa
open Go.RowKit Go.ChangeShapes Go.WideShapes Go.ChangeAt

section
variable {H : Type} {enc : TypeId × Value → H} {W : World} {base : Nat} {held : Bool}
set_option maxRecDepth 100000 in
theorem open_bytesE {v : Value} {d : DataW H} {ps : List MemPlace} {r : World} (hv : Value.okWide Try.prog r .any base 40 v) (h : DataW.Trod enc Try.prog W 0 (fun _ => true) held 40 v d ps) : ∃ l, RdB W v l := by
  obtain ⟨a0, len0, cap0, rfl⟩ := okWide_slice Try.underlying40 hv
  obtain ⟨fuel, h⟩ := h
  rcases Go.Deep.open_slice1 Try.underlying40 (by kernel_rfl) h with ⟨hcs, _⟩ | ⟨a, len, cap, m, n, V, D, Pl, hcs, _, hl, hm, hmm, _, hx⟩
  · simp [Value.cells] at hcs
    obtain ⟨rfl, rfl, rfl⟩ := hcs
    exact ⟨[], none, 0, rfl, Nat.le_refl _, (fun _ => rfl), fun ad e => by cases e⟩
  · simp [Value.cells] at hcs hmm
    obtain ⟨rfl, rfl, rfl⟩ := hcs
    subst hmm
    obtain ⟨f, hf⟩ := Go.Deep.choose_lt (n := m) (p := fun i (b : UInt8) => V i = .int .u8 (b.toNat : Int)) (fun i hi => by
      obtain ⟨_, h2⟩ := hx i hi
      obtain ⟨b, hb, _, wb⟩ := DataW.trod_int Try.underlying5 h2
      have hf2 : 0 ≤ b ∧ b ≤ 255 := by simp [Lit.wf, IntKind.min, IntKind.max, IntKind.signed, IntKind.bits] at wb; omega
      refine ⟨UInt8.ofNat b.toNat, ?_⟩
      rw [ofNat_toNat (by omega), show V i = .int .u8 b by simpa using hb]
      congr 1
      omega)
    refine ⟨(List.range len0).map f, some a, m, by simp, by simpa using hl, (fun e => by cases e), fun ad e j u hu => ?_⟩
    injection e with e
    subst e
    have hj : j < len0 := by
      have := (List.getElem?_eq_some_iff.1 hu).1
      simpa [u8s] using this
    rw [(hx j (by omega)).1, hf j (by omega)]
    simpa [u8s, hj] using hu
end

set_option maxHeartbeats 3200000 in
set_option maxRecDepth 100000 in
theorem extentReads_walk (w : World) (v : Value) (L : List UInt8) (hv : RdB w v L) :
    Calls Try.prog 4 #[v] w fun e w' => e = .returned (.bool true) ∧ Below w.heap.size w w' := by
  have HV := Lib.hid hv
  obtain ⟨A, c, rfl⟩ := hv.slice
  clear hv
  by_cases h3 : 3000 < L.length
  · have d1 : decide (3000 < L.length) = true := by simpa using h3
    have d1' : decide ((3000 : Int) < (L.length : Int)) = true := by simp; omega
    clear h3
    have B0 : Hid (Below w.heap.size w w) := Below.refl _ _
    go_enter Try.func4, Try.ntmps4
    go_wp2_with fail
    refine (lives16 _).mono ?_
    rintro e wz ⟨rfl, bz⟩
    have BZ : Hid (Below w.heap.size w wz) := B0.out.trans (bz.mono B0.out.size)
    clear bz
    go_wp2
    go_ret
    exact ⟨rfl, BZ.out⟩
  · have d1 : decide (3000 < L.length) = false := by simpa using h3
    have d1' : decide ((3000 : Int) < (L.length : Int)) = false := by simp; omega
    have DC := Lib.hid (decode_any w _ L HV.out (by omega))
    have HL3 := Lib.hid h3
    clear h3
    go_enter Try.func4, Try.ntmps4
    go_wp2_with fail
    refine DC.out.mono ?_
    rintro e w1 ⟨ht, b1⟩
    have B1 := Lib.hid b1
    clear b1 DC
    cases hd : decA L with
    | none =>
      rw [hd] at ht
      subst ht
      clear hd
      go_wp2_with fail
      refine (lives16 _).mono ?_
      rintro e wz ⟨rfl, bz⟩
      have BZ : Hid (Below w.heap.size w wz) := B1.out.trans (bz.mono B1.out.size)
      clear bz
      go_wp2
      go_ret
      exact ⟨rfl, BZ.out⟩
    | some p =>
      obtain ⟨n, H⟩ := p
      rw [hd] at ht
      obtain ⟨g, F, rfl, hhas, hF⟩ := ht
      obtain ⟨hen, hok⟩ := enc_dec hd
      have OK := Lib.hid hok
      have M1 : Hid (Mine w w1 [ar F g ⟨n, H, 0⟩]) := (Mine.start w).newAr B1.out hhas hF
      have hLp : 0 < L.length := by rw [hen]; unfold Ar.enc; have := putN_pos n; simp; omega
      obtain ⟨b, o, c1, e1, _, hc⟩ := HV.out.at_ hLp
      injection e1 with e1 e2 e3
      subst e1
      have HC := Lib.hid hc
      have HEN := Lib.hid hen
      have hn1 : 1 ≤ n := hok.pos; have hn2 : n ≤ 1048576 := hok.most
      clear hc e2 hhas hF hd hen hok
      have d2 : decide (n < 1) = false := by simp; omega
      have d2' : decide ((n : Int) < 1) = false := by simp; omega
      have d3 : decide (1048576 < n) = false := by simp; omega
      have d3' : decide ((1048576 : Int) < (n : Int)) = false := by simp; omega
      have HNN := Lib.hid (And.intro hn1 hn2)
      have S0 : ∀ j (hj : j < L.length), w1.drew.cell? ⟨b, o + j, none⟩ = some (.int .u8 (L[j].toNat : Int)) := fun j hj => cell_below B1.out.drew (HC.out j hj)
      have SS := Lib.hid S0
      clear S0
      go_wp2_with fail
      refine wp_region_flag (fun w' => Hid (∀ j (hj : j < L.length), w'.cell? ⟨b, o + j, none⟩ = some (.int .u8 (L[j].toNat : Int)))) [(0, 1), (1, 1), (2, 1), (3, 1), (6, 1), (7, 2), (4, 0), (5, 0), (8, 1), (9, 1), (10, 1), (11, 1), (12, 0), (13, 1), (14, 1), (15, 1), (16, 1), (17, 0), (18, 1), (19, 1)] (by kernel_rfl) (by kernel_rfl) SS ?_
      simp only [ordered, List.map_cons, List.map_nil, List.getD_cons_zero, List.getD_cons_succ]
      repeat (refine wpF_dry (fun K hK => ?_); go_simp; refine hK _ ?_; clear hK K)
      refine wpF_read (.string ⟨L.toArray⟩) rfl (fun w' hS => by have CV := run_convert_bytes_back (P := Try.prog) w' 40 9 5 ⟨b, o, none⟩ c1 L Try.underlying40 Try.underlying5 Try.underlying9 (fun j hj => by have := hS.out j hj; simpa [Addr.add_lit] using this); go_simp) (fun K hK => ?_)
      go_simp
      refine hK _ ?_
      clear hK K
      refine wpF_do ?_
      go_wp2_with fail
      obtain ⟨va, ha⟩ := M1.out.drew.area (l1 := [])
      refine (enc_any _ F g _ va ha).mono ?_
      rintro e2 w2 ⟨v2, rfl, ho, b2⟩
      have M2 := Lib.hid (M1.out.drew.below b2)
      rw [show Ar.enc ⟨n, H, 0⟩ = L from HEN.out.symm] at ho
      have SS2 : Hid (∀ j (hj : j < L.length), w2.cell? ⟨b, o + j, none⟩ = some (.int .u8 (L[j].toNat : Int))) := fun j hj => cell_below b2 (SS.out j hj)
      obtain ⟨b3, o3, c3, rfl, _, hc3⟩ := ho.rd.at_ hLp
      have CV := run_convert_bytes_back (P := Try.prog) w2 40 9 5 ⟨b3, o3, none⟩ c3 L Try.underlying40 Try.underlying5 Try.underlying9 (fun j hj => by have := hc3 j hj; simpa [Addr.add_lit] using this)
      clear ho b2 ha hc3 M1
      go_wp2_with fail
      refine ⟨SS2, ?_⟩
      refine wpF_do ?_
      go_wp2_with fail
      clear CV
      refine ⟨SS2, ?_⟩
      repeat (refine wpF_dry (fun K hK => ?_); go_simp; refine hK _ ?_; clear hK K)
      refine wpF_do ?_
      go_wp2_with fail
      obtain ⟨va, ha⟩ := M2.out.area (l1 := [])
      refine (size_any _ F g _ va ha).mono ?_
      rintro e2 w3 ⟨rfl, rfl⟩
      clear ha
      go_wp2_with fail
      refine ⟨SS2, ?_⟩
      repeat (refine wpF_dry (fun K hK => ?_); go_simp; refine hK _ ?_; clear hK K)
      refine wpF_do ?_
      go_wp2_with fail
      obtain ⟨va, ha⟩ := M2.out.area (l1 := [])
      refine (size_any _ F g _ va ha).mono ?_
      rintro e2 w3 ⟨rfl, rfl⟩
      clear ha
      go_wp2_with fail
      refine ⟨SS2, ?_⟩
      repeat (refine wpF_dry (fun K hK => ?_); go_simp; refine hK _ ?_; clear hK K)
      refine wpF_nil ?_
      go_wp2_with fail
      obtain ⟨va, ha⟩ := M2.out.area (l1 := [])
      refine (holes_any _ F g _ va ha).mono ?_
      rintro e2 w4 ⟨vh, rfl, ho, b4⟩
      have M4 := Lib.hid (M2.out.below b4)
      have HO : Hid (w4.ownsRow w2.heap.size 30 2 vh H.length (sp H)) := ho
      obtain ⟨Ah, ch, rfl⟩ := own_slice HO.out
      have few := OK.out.few
      simp only at few
      clear ho b4 ha M2 SS SS2
      go_wp2_with fail
      go_loopw [6, 7, 50] (fun ee ii i2 wr => ∃ (q lo : Nat) (E : Int), q ≤ H.length ∧ ii = .int .i64 q ∧ ee = .int .i64 E ∧ Hid (E = (lo : Int) - 1) ∧ Hid (Lies n lo (H.drop q)) ∧ Hid (Below w4.heap.size w4 wr) ∧ Hid (Mine w wr [ar F g ⟨n, H, 0⟩])) (fun _ ii _ _ => H.length - (intOf ii).toNat)
      case atStart => exact ⟨0, 0, -1, Nat.zero_le _, rfl, rfl, by unfold Hid; omega, OK.out.lies, Below.refl _ _, M4⟩
      case round =>
        obtain ⟨q, lo, E, hq, rfl, rfl, HE, HL, BW, MW⟩ := hrel
        clear M4
        by_cases hlt : q < H.length
        · obtain ⟨g1, cc, e1, _, _, hc⟩ := row_at HO.out (by omega)
          injection e1 with e1 e2 e3
          subst e1
          obtain ⟨z1, z2⟩ := hc q hlt
          have z1 := cell_below BW.out z1; have z2 := cell_below BW.out z2
          have hdrop : H.drop q = H[q] :: H.drop (q + 1) := (List.getElem_cons_drop hlt).symm
          rw [hdrop] at HL
          generalize H[q] = x at z1 z2 HL
          clear hc e2 e3 hdrop
          obtain ⟨l1, l2, l3, l4⟩ := HL.out
          have L4 := Lib.hid l4
          have e1 : decide ((x.1 : Int) ≤ E) = false := by have := HE.out; simp; omega
          have e2 : decide ((x.2 : Int) < 1) = false := by simp; omega
          have e2' : decide (x.2 < 1) = false := by simp; omega
          obtain ⟨t, ht⟩ : ∃ t : Nat, (n : Int) - (x.1 : Int) = (t : Int) := ⟨n - x.1, by omega⟩
          have ht2 : IntKind.i64.wrap (t : Int) = (t : Int) := by have := HNN.out; rw [IntKind.wrap_i64]; omega
          have e3 : decide (t < x.2) = false := by simp; omega
          obtain ⟨r, hr⟩ : ∃ r : Nat, r = x.1 + x.2 := ⟨_, rfl⟩
          have hr1 : (x.1 : Int) + (x.2 : Int) = (r : Int) := by omega
          have hr2 : IntKind.i64.wrap (r : Int) = (r : Int) := by have := HNN.out; rw [IntKind.wrap_i64]; omega
          have HR := Lib.hid hr
          clear hr l1 l2 l3 l4
          have dq : decide (q < H.length) = true := by simpa using hlt
          go_wp2_with fail
          refine wp_region_flag (fun w' => w'.cell? ⟨g1, q * 2, none⟩ = some (.int .i64 (x.1 : Nat)) ∧ w'.cell? ⟨g1, q * 2 + 1, none⟩ = some (.int .i64 (x.2 : Nat))) [(0, 1), (1, 1), (2, 1), (3, 1), (5, 1), (4, 0), (6, 1), (7, 1), (8, 1), (9, 1), (10, 1), (11, 1), (12, 0), (13, 1), (14, 1), (15, 1), (16, 1), (17, 1), (18, 1), (19, 1), (21, 1), (23, 1), (24, 1), (25, 1), (26, 1), (20, 2), (27, 2), (22, 0), (28, 1), (29, 1), (30, 1)] (by kernel_rfl) (by kernel_rfl) ⟨z1, z2⟩ ?_
          simp only [ordered, List.map_cons, List.map_nil, List.getD_cons_zero, List.getD_cons_succ]
          repeat (refine wpF_dry (fun K hK => ?_); go_simp; refine hK _ ?_; clear hK K)
          refine wpF_do ?_
          go_wp2_with fail
          refine ⟨⟨z1, z2⟩, ?_⟩
          repeat (refine wpF_dry (fun K hK => ?_); go_simp; refine hK _ ?_; clear hK K)
          refine wpF_do ?_
          go_wp2_with fail
          refine ⟨⟨z1, z2⟩, ?_⟩
          repeat (refine wpF_dry (fun K hK => ?_); go_simp; refine hK _ ?_; clear hK K)
          refine wpF_read (.int .i64 (x.2 : Nat)) rfl (fun w' hS => by obtain ⟨s1, s2⟩ := hS; go_simp) (fun K hK => ?_)
          go_simp
          refine hK _ ?_
          clear hK K
          refine wpF_read (.int .i64 (x.1 : Nat)) rfl (fun w' hS => by obtain ⟨s1, s2⟩ := hS; go_simp) (fun K hK => ?_)
          go_simp
          refine hK _ ?_
          clear hK K
          refine wpF_do ?_
          go_wp2_with fail
          obtain ⟨va, ha⟩ := MW.out.drew.area (l1 := [])
          refine (size_any _ F g _ va ha).mono ?_
          rintro e2 w5 ⟨rfl, rfl⟩
          clear ha
          go_wp2_with fail
          refine ⟨⟨z1, z2⟩, ?_⟩
          repeat (refine wpF_dry (fun K hK => ?_); go_simp; refine hK _ ?_; clear hK K)
          refine wpF_nil ?_
          go_wp2_with fail
          refine wp_region_flag (fun w' => w'.cell? ⟨g1, q * 2, none⟩ = some (.int .i64 (x.1 : Nat)) ∧ w'.cell? ⟨g1, q * 2 + 1, none⟩ = some (.int .i64 (x.2 : Nat))) [(0, 1), (1, 1), (2, 1), (3, 1), (5, 1), (6, 1), (7, 1), (8, 1), (4, 2), (9, 0), (10, 1), (11, 1)] (by kernel_rfl) (by kernel_rfl) ⟨z1, z2⟩ ?_
          simp only [ordered, List.map_cons, List.map_nil, List.getD_cons_zero, List.getD_cons_succ]
          repeat (refine wpF_dry (fun K hK => ?_); go_simp; refine hK _ ?_; clear hK K)
          refine wpF_read (.int .i64 (x.1 : Nat)) rfl (fun w' hS => by obtain ⟨s1, s2⟩ := hS; go_simp) (fun K hK => ?_)
          go_simp
          refine hK _ ?_
          clear hK K
          refine wpF_do ?_
          go_wp2_with fail
          refine ⟨⟨z1, z2⟩, ?_⟩
          repeat (refine wpF_dry (fun K hK => ?_); go_simp; refine hK _ ?_; clear hK K)
          refine wpF_nil ?_
          go_wp2
          go_roundw
          case rel => exact ⟨q + 1, r + 1, (r : Int), hlt, by go_num, rfl, by unfold Hid; omega, by rw [HR.out]; exact L4, BW.out.drew.drew, MW.out.drew.drew⟩
          case measure => simp [intOf]; omega
        · have dq : decide (q < H.length) = false := by simpa using hlt
          go_wp2_with fail
          refine (lives16 _).mono ?_
          rintro e wz ⟨rfl, bz⟩
          have BZ : Hid (Below w.heap.size w wz) := MW.out.bel.trans (bz.mono MW.out.bel.size)
          clear bz
          go_wp2
          go_ret
          exact ⟨rfl, BZ.out⟩
end Go.Proofs.Ythloinmnojlleaa
