/- Nils: a nil area's methods; the walk of ExtentNils. -/
import Derived.Test.YthloinmnojlleaaReads
set_option linter.unusedVariables false
set_option linter.unusedSimpArgs false
namespace Go.Proofs.Ythloinmnojlleaa
open Go.RowKit Go.ChangeShapes Go.WideShapes Go.ChangeAt

section
variable {H : Type} {enc : TypeId × Value → H} {W : World} {base : Nat} {held : Bool}
set_option maxRecDepth 100000 in
theorem open_opE {v : Value} {d : DataW H} {ps : List MemPlace} {r : World} (hv : Value.okWide Try.prog r .any base 32 v) (h : DataW.Trod enc Try.prog W 0 (fun _ => true) held 32 v d ps) :
    ∃ o : OpE, v = .agg #[.int .i64 o.kind, .int .i64 o.n, .int .i64 o.rule, .int .i64 o.pos, .int .i64 o.size] ∧ o.In := by
  simp only [Value.okWide, Try.underlying32] at hv
  obtain ⟨cs, rfl, _⟩ := hv
  obtain ⟨fuel, h⟩ := h
  obtain ⟨o, ho, hin⟩ := cells_opE h
  refine ⟨o, ?_, hin⟩
  simp only [Value.cells] at ho
  congr 1
  apply Array.ext'
  simpa using ho
end

theorem alloc_nil (w : World) (n r : Int) : Calls Try.prog 11 #[.pointer none, .int .i64 n, .int .i64 r] w fun e w' => e = .returned (.tuple #[.int .i64 0, .int .i64 1]) ∧ w = w' := by
  go_enter Try.func11, Try.ntmps11
  go_wp2
  go_ret2
  exact ⟨rfl, rfl⟩
theorem plan_nil (w : World) (A : Option Addr) (n c : Nat) : Calls Try.prog 26 #[.pointer none, .slice A n c] w fun e w' => e = .returned (.tuple #[.slice none 0 0, .int .i64 1]) ∧ w = w' := by
  go_enter Try.func26, Try.ntmps26
  go_wp2
  go_ret2
  exact ⟨rfl, rfl⟩
theorem take_nil (w : World) (f s : Int) : Calls Try.prog 23 #[.pointer none, .agg #[.int .i64 f, .int .i64 s]] w fun e w' => e = .returned (.int .i64 1) ∧ Below w.heap.size w w' := by
  have b0 : Hid (∀ o, Below w.heap.size w (w.alloc o)) := fun o => (Below.refl _ w).alloc (Nat.le_refl _) _
  go_enter Try.func23, Try.ntmps23
  go_wp2
  go_ret
  exact ⟨rfl, b0.out _⟩
theorem size_nil (w : World) : Calls Try.prog 18 #[.pointer none] w fun e w' => e = .returned (.int .i64 0) ∧ w = w' := by
  go_enter Try.func18, Try.ntmps18
  go_wp2
  go_ret
  exact ⟨rfl, rfl⟩
theorem holes_nil (w : World) : Calls Try.prog 15 #[.pointer none] w fun e w' => e = .returned (.slice none 0 0) ∧ w = w' := by
  go_enter Try.func15, Try.ntmps15
  go_wp2
  go_ret
  exact ⟨rfl, rfl⟩
theorem taken_nil (w : World) : Calls Try.prog 27 #[.pointer none] w fun e w' => e = .returned (.slice none 0 0) ∧ w = w' := by
  go_enter Try.func27, Try.ntmps27
  go_wp2
  go_ret
  exact ⟨rfl, rfl⟩
theorem enc_nil (w : World) : Calls Try.prog 17 #[.pointer none] w fun e w' => e = .returned (.slice none 0 0) ∧ w = w' := by
  go_enter Try.func17, Try.ntmps17
  go_wp2
  go_ret
  exact ⟨rfl, rfl⟩
theorem free_nil (w : World) : Calls Try.prog 14 #[.pointer none] w fun e w' => e = .returned (.int .i64 0) ∧ w = w' := by
  go_enter Try.func14, Try.ntmps14
  go_wp2_with fail
  refine (holes_nil _).mono ?_
  rintro e w1 ⟨rfl, rfl⟩
  go_wp2_with fail
  go_loopw [3, 9] (fun n i wr => i = .int .i64 0 ∧ n = .int .i64 0 ∧ w = wr) (fun _ _ _ => 0)
  case atStart => exact ⟨rfl, rfl, rfl⟩
  case round =>
    obtain ⟨rfl, rfl, rfl⟩ := hrel
    go_wp2
    go_ret
    exact ⟨rfl, rfl⟩
theorem largest_nil (w : World) : Calls Try.prog 12 #[.pointer none] w fun e w' => e = .returned (.int .i64 0) ∧ w = w' := by
  go_enter Try.func12, Try.ntmps12
  go_wp2_with fail
  refine (holes_nil _).mono ?_
  rintro e w1 ⟨rfl, rfl⟩
  go_wp2_with fail
  go_loopw [3, 9] (fun n i wr => i = .int .i64 0 ∧ n = .int .i64 0 ∧ w = wr) (fun _ _ _ => 0)
  case atStart => exact ⟨rfl, rfl, rfl⟩
  case round =>
    obtain ⟨rfl, rfl, rfl⟩ := hrel
    go_wp2
    go_ret
    exact ⟨rfl, rfl⟩

set_option maxHeartbeats 3200000 in
set_option maxRecDepth 100000 in
theorem extentNils_walk (w : World) (n : Int) (_w : (Lit.int .i64 n).wf = true) (cut : Int) (_w2 : (Lit.int .i64 cut).wf = true) (v : Value) (o : OpE) (ho : v = .agg #[.int .i64 o.kind, .int .i64 o.n, .int .i64 o.rule, .int .i64 o.pos, .int .i64 o.size] ∧ o.In) :
    Calls Try.prog 8 #[.int .i64 n, .int .i64 cut, v] w fun e w' => e = .returned (.bool true) ∧ Below w.heap.size w w' := by
  obtain ⟨rfl, hin⟩ := ho
  obtain ⟨kd, on, ru, po, si⟩ := o
  clear hin
  simp only
  have r0 := blk_new w (.cells #[.int .i64 kd, .int .i64 on, .int .i64 ru, .int .i64 po, .int .i64 si] 32)
  have k1 := blk_cell r0 1; have k2 := blk_cell r0 2; have k3 := blk_cell r0 3; have k4 := blk_cell r0 4
  simp only [List.getElem?_toArray, List.getElem?_cons_zero, List.getElem?_cons_succ] at k1 k2 k3 k4
  have B0 : Hid (Below w.heap.size w (w.alloc (.cells #[.int .i64 kd, .int .i64 on, .int .i64 ru, .int .i64 po, .int .i64 si] 32))) := (Below.refl _ w).alloc (Nat.le_refl _) _
  clear r0
  go_enter Try.func8, Try.ntmps8
  go_wp2_with fail
  refine (alloc_nil _ on ru).mono ?_
  rintro e w1 ⟨rfl, rfl⟩
  go_wp2_with fail
  refine (plan_nil _ _ _ _).mono ?_
  rintro e w1 ⟨rfl, rfl⟩
  go_wp2_with fail
  refine (take_nil _ po si).mono ?_
  rintro e w1 ⟨rfl, b1⟩
  replace k3 := cell_below b1 k3; replace k4 := cell_below b1 k4
  have B1 : Hid (Below w.heap.size w w1) := B0.out.trans (b1.mono B0.out.size)
  clear b1 k1 k2 B0
  go_wp2_with fail
  refine (give_nil _ po si).mono ?_
  rintro e w2 ⟨rfl, b2⟩
  have B2 : Hid (Below w.heap.size w w2) := B1.out.trans (b2.mono B1.out.size)
  clear b2 k3 k4 B1
  go_wp2_with fail
  refine (size_nil _).mono ?_
  rintro e w3 ⟨rfl, rfl⟩
  go_wp2_with fail
  refine (free_nil _).mono ?_
  rintro e w3 ⟨rfl, rfl⟩
  go_wp2_with fail
  refine (largest_nil _).mono ?_
  rintro e w3 ⟨rfl, rfl⟩
  go_wp2_with fail
  refine (holes_nil _).mono ?_
  rintro e w3 ⟨rfl, rfl⟩
  go_wp2_with fail
  refine (taken_nil _).mono ?_
  rintro e w3 ⟨rfl, rfl⟩
  go_wp2_with fail
  refine (enc_nil _).mono ?_
  rintro e w3 ⟨rfl, rfl⟩
  go_wp2_with fail
  by_cases hn : n < 1 ∨ 1048576 < n
  · have HN := Lib.hid hn
    clear hn
    refine (new_no _ n HN.out).mono ?_
    rintro e w3 ⟨rfl, rfl⟩
    go_wp2_with fail
    refine (lives16 _).mono ?_
    rintro e wz ⟨rfl, bz⟩
    have BZ : Hid (Below w.heap.size w wz) := B2.out.trans (bz.mono B2.out.size)
    clear bz
    go_wp2
    go_ret
    exact ⟨rfl, BZ.out⟩
  · obtain ⟨m, rfl⟩ := Int.eq_ofNat_of_zero_le (show 0 ≤ n by omega)
    have HM : Hid (1 ≤ m ∧ m ≤ 1048576) := ⟨by omega, by omega⟩
    clear hn
    refine (new_yes _ m HM.out.1 HM.out.2).mono ?_
    rintro e w3 ⟨g, F, vn, rfl, ha, hF, b3⟩
    have M3 : Hid (Mine w w3 [ar F g (Ar.new m)]) := (Mine.start w).newAr (B2.out.trans (b3.mono B2.out.size)) ⟨vn, ha⟩ (fun k hk => Nat.le_trans B2.out.size (hF k hk))
    clear ha hF b3
    go_wp2_with fail
    obtain ⟨va, ha⟩ := M3.out.area (l1 := [])
    refine (enc_any _ F g _ va ha).mono ?_
    rintro e w4 ⟨vb, rfl, ho, b4⟩
    have M4 := Lib.hid (M3.out.below b4)
    have OK := Lib.hid ha.ok
    obtain ⟨E, hE⟩ : ∃ E, E = (Ar.new m).enc := ⟨_, rfl⟩
    rw [← hE] at ho
    have HE := Lib.hid hE
    have HO := Lib.hid ho
    clear b4 ha M3 hE
    by_cases hc : 0 ≤ cut ∧ cut < E.length
    · obtain ⟨k, rfl⟩ := Int.eq_ofNat_of_zero_le hc.1
      have hk : k < E.length := by omega
      obtain ⟨b, o, c, rfl, hlc, hcells⟩ := ho.rd.at_ (by omega)
      have HD : Hid (decA (E.take k) = none) := dec_short OK.out (s := E.drop k) (by rw [List.take_append_drop]; exact HE.out.symm) (by
        intro h
        have := congrArg List.length h
        rw [List.length_drop] at this
        simp at this
        omega)
      have hE3 : E.length ≤ 65536 := by
        have e : E = putN m ++ (putN 1 ++ (putN 0 ++ (putN m ++ []))) := HE.out
        have h1 := putN_len 9 m (small_pow (by have := HM.out.2; omega)) (by decide)
        have h2 := putN_len 9 0 (by decide) (by decide)
        have h3 := putN_len 9 1 (by decide) (by decide)
        rw [e]
        simp only [List.length_append, List.length_nil]
        omega
      have RD : Hid (RdB w4 (.slice (some ⟨b, o, none⟩) k c) (E.take k)) := by
        refine ⟨_, c, by rw [List.length_take, Nat.min_eq_left (by omega)], by rw [List.length_take]; omega, (fun e => by cases e), fun ad e j u hu => ?_⟩
        injection e with e
        subst e
        have hj : j < k := by
          have := (List.getElem?_eq_some_iff.1 hu).1
          rw [u8s_length, List.length_take] at this
          omega
        have := hcells j (by omega)
        rw [u8s_get _ j (by rw [List.length_take]; omega)] at hu
        injection hu with hu
        rw [List.getElem_take] at hu
        rw [← hu]
        simpa [Addr.add_lit] using this
      have DC := Lib.hid (decode_any w4 _ (E.take k) RD.out (by rw [List.length_take]; omega))
      have hkc : k ≤ c := by omega
      clear ho HO hcells hc RD
      go_wp2_with fail
      refine DC.out.mono ?_
      rintro e w5 ⟨ht, b5⟩
      rw [HD.out] at ht
      have ht : e = .returned (.tuple #[.pointer none, .int .i64 4]) := ht
      subst ht
      have B5 : Hid (Below w.heap.size w w5) := M4.out.bel.trans (b5.mono M4.out.bel.size)
      clear b5 DC
      go_wp2_with fail
      refine (lives16 _).mono ?_
      rintro e wz ⟨rfl, bz⟩
      have BZ : Hid (Below w.heap.size w wz) := B5.out.trans (bz.mono B5.out.size)
      clear bz
      go_wp2
      go_ret
      exact ⟨rfl, BZ.out⟩
    · obtain ⟨A, c, rfl⟩ := ho.slice
      have hd : decide (cut < 0) = true ∨ (decide (cut < 0) = false ∧ decide ((E.length : Int) ≤ cut) = true) := by
        by_cases h : cut < 0
        · exact .inl (by simpa using h)
        · exact .inr ⟨by simpa using h, by simp; omega⟩
      clear hc ho
      rcases hd with d1 | ⟨d1, d2⟩
      all_goals
        go_wp2_with fail
        refine (lives16 _).mono ?_
        rintro e wz ⟨rfl, bz⟩
        have BZ : Hid (Below w.heap.size w wz) := M4.out.bel.trans (bz.mono M4.out.bel.size)
        clear bz
        go_wp2
        go_ret
        exact ⟨rfl, BZ.out⟩
end Go.Proofs.Ythloinmnojlleaa
