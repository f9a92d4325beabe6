/- PathW: texts laid open; the walk of PathJoins. -/
import Derived.Test.YtgagiafbhpipoaaDoorPathG
import Derived.Test.YtgagiafbhpipoaaDoorPathS
import Derived.ProofKit
import Derived.OpenShut
import Derived.Deep.Slices
set_option linter.unusedVariables false
set_option linter.unusedSimpArgs false
namespace Go.Proofs.YtgagiafbhpipoaaDoor
open Go.RowKit Go.ChangeShapes Go.WideShapes Go.ChangeAt Go.Deep

section
variable {H : Type} {enc : TypeId × Value → H} {W : World} {base : Nat} {sp : Nat → Bool} {held : Bool}
theorem plain_addr {w : World} {a : Addr} {v : Value} (h : w.cell? (a.add 0) = some v) : a = ⟨a.block, a.off, none⟩ := by
  have e : a.add 0 = a := by unfold Addr.add; simp
  rw [e] at h
  cases a with
  | mk b o s =>
    cases s with
    | none => rfl
    | some x =>
      simp only [World.cell?] at h
      split at h <;> simp at h
theorem open_texts {v : Value} {d : DataW H} {ps : List MemPlace} {r : World} (hv : Value.okWide Tryd.prog r .any base 32 v) (h : DataW.Trod enc Tryd.prog W 0 (fun _ => true) held 32 v d ps) : ∃ l, RdS W v l := by
  obtain ⟨a0, len0, cap0, rfl⟩ := okWide_slice Tryd.underlying32 hv
  obtain ⟨fuel, hf⟩ := h
  have hf' : DataW.trod enc Tryd.prog W 0 (fun _ => true) held fuel 32 [.slice a0 len0 cap0] = some (d, ps) := by simpa [Value.cells] using hf
  rcases open_slice1 Tryd.underlying32 (by kernel_rfl) hf' with ⟨hcs, _⟩ | ⟨a, len, cap, m, n, V, D, Pl, hcs, _, hl, hm, hmm, _, hx⟩
  · simp at hcs
    obtain ⟨rfl, rfl, rfl⟩ := hcs
    exact ⟨[], none, 0, rfl, Nat.le_refl _, by decide, fun h => by simp at h⟩
  · simp at hcs hmm
    obtain ⟨rfl, rfl, rfl⟩ := hcs
    subst hmm
    obtain ⟨f, hf2⟩ := choose_lt (n := m) (p := fun i b => V i = .string b) (fun i hi => by
      obtain ⟨_, h2⟩ := hx i hi
      obtain ⟨b, hb, _⟩ := DataW.trod_string Tryd.underlying9 h2
      exact ⟨b, by simpa using hb⟩)
    refine ⟨(List.range len0).map f, some a, m, by simp, by simpa using hl, by simp [maxLen] at hm ⊢; omega, fun hp => ?_⟩
    simp at hp
    have h0 := (hx 0 (by omega)).1
    rw [hf2 0 (by omega)] at h0
    have ha := plain_addr h0
    refine ⟨a.block, a.off, by rw [← ha], fun j hj => ?_⟩
    simp at hj
    have := (hx j (by omega)).1
    rw [hf2 j (by omega), ha] at this
    simp only [Addr.add_lit] at this
    simpa using this
end

set_option maxHeartbeats 3200000 in
theorem pathJoins_walk (w : World) (v : Value) (ls : List ByteArray) (hv : RdS w v ls) (p : ByteArray) (_hp : p.size ≤ 140737488351232) :
    Calls Tryd.prog 10 #[v, .string p] w fun e w' => e = .returned (.bool true) ∧ Below w.heap.size w w' := by
  have HV := Lib.hid hv
  obtain ⟨A, c, rfl, hlc, hc, _⟩ := hv
  by_cases hn : ls.length ≤ 100
  · have q1 : decide (100 < (ls.length : Int)) = false := by simp; omega
    have q2 : decide (100 < ls.length) = false := by simp; omega
    go_enter Tryd.func10, Tryd.ntmps10
    go_wp2_with fail
    refine (short_any w _ ls HV.out (by omega)).mono ?_
    rintro e wx ⟨b0, rfl, _, rfl⟩
    cases b0 with
    | false =>
      go_wp2_with fail
      refine (lives5 _).mono ?_
      rintro e w1 ⟨rfl, b1⟩
      have B1 := Lib.hid b1
      clear b1
      go_wp2
      go_ret
      exact ⟨rfl, B1.out⟩
    | true =>
      have B0 : Hid (Below w.heap.size w (w.alloc (.cells #[.string p] 9))) := (Below.refl _ w).alloc (Nat.le_refl _) _
      have HT : Hid (RdT (w.alloc (.cells #[.string p] 9)) (.slice A ls.length c) ls) := HV.out.t.below B0.out
      go_wp2_with fail
      refine (short_any _ _ _ (rds1 _ p) (by simp)).mono ?_
      rintro e wx ⟨b0, rfl, _, rfl⟩
      cases b0 with
      | false =>
        go_wp2_with fail
        refine (lives5 _).mono ?_
        rintro e w1 ⟨rfl, b1⟩
        have B1 : Hid (Below w.heap.size w w1) := B0.out.trans (b1.mono B0.out.size)
        clear b1
        go_wp2
        go_ret
        exact ⟨rfl, B1.out⟩
      | true =>
        go_wp2_with fail
        refine (join_any _ _ ls HT.out (by omega)).mono ?_
        rintro e w1 ⟨x, rfl, hx, b1⟩
        have B1 : Hid (Below w.heap.size w w1) := B0.out.trans (b1.mono B0.out.size)
        have HT1 := Lib.hid (HT.out.below b1)
        clear b1
        go_wp2_with fail
        refine (refjoin_any _ _ ls HT1.out (by omega)).mono ?_
        rintro e w2 ⟨y, rfl, hy, b2⟩
        have B2 : Hid (Below w.heap.size w w2) := B1.out.trans (b2.mono B1.out.size)
        have hxy : y = x := dat_inj (hy.trans hx.symm)
        subst hxy
        clear b2 hx hy
        go_wp2_with fail
        refine (parts_any p w2).mono ?_
        rintro e w3 ⟨A3, c3, ps, rfl, hps, hc3, hd3, hr3, b3⟩
        have B3 : Hid (Below w.heap.size w w3) := B2.out.trans (b3.mono B2.out.size)
        have T3 := Lib.hid (rdt_of hc3 hr3)
        have hl3 : ps.length ≤ 4611686018427387904 := by omega
        have JP : Hid (joinB (bytes ps) = if goodB (dat p) then (dat p, 0) else ([], 1)) := by unfold Hid; rw [hps]; exact join_parts _
        clear b3 hps hr3
        go_wp2_with fail
        refine (join_any _ _ ps T3.out hl3).mono ?_
        rintro e w4 ⟨q, rfl, hq, b4⟩
        have B4 : Hid (Below w.heap.size w w4) := B3.out.trans (b4.mono B3.out.size)
        clear b4
        cases hg : goodB (dat p) with
        | true =>
          have J2 : joinB (bytes ps) = (dat p, 0) := by rw [JP.out, hg]; rfl
          rw [J2] at hq ⊢
          have hqp := dat_inj hq
          subst hqp
          have G := Lib.hid hg
          clear J2 hq hg JP
          go_wp2_with fail
          refine (good_any q w4).mono ?_
          rintro e w5 ⟨rfl, b5⟩
          have B5 : Hid (Below w.heap.size w w5) := B4.out.trans (b5.mono B4.out.size)
          clear b5
          rw [show goodB q.data.toList = true from G.out]
          go_wp2_with fail
          refine (lives5 _).mono ?_
          rintro e w6 ⟨rfl, b6⟩
          have B6 : Hid (Below w.heap.size w w6) := B5.out.trans (b6.mono B5.out.size)
          clear b6
          go_wp2
          go_ret
          exact ⟨rfl, B6.out⟩
        | false =>
          have J2 : joinB (bytes ps) = ([], 1) := by rw [JP.out, hg]; rfl
          rw [J2] at hq ⊢
          have G := Lib.hid hg
          clear J2 hq hg JP
          go_wp2_with fail
          refine (good_any p w4).mono ?_
          rintro e w5 ⟨rfl, b5⟩
          have B5 : Hid (Below w.heap.size w w5) := B4.out.trans (b5.mono B4.out.size)
          clear b5
          rw [show goodB p.data.toList = false from G.out]
          go_wp2_with fail
          refine (lives5 _).mono ?_
          rintro e w6 ⟨rfl, b6⟩
          have B6 : Hid (Below w.heap.size w w6) := B5.out.trans (b6.mono B5.out.size)
          clear b6
          go_wp2
          go_ret
          exact ⟨rfl, B6.out⟩
  · have q1 : decide (100 < (ls.length : Int)) = true := by simp; omega
    have q2 : decide (100 < ls.length) = true := by simp; omega
    go_enter Tryd.func10, Tryd.ntmps10
    go_wp2_with fail
    refine (lives5 _).mono ?_
    rintro e w1 ⟨rfl, b1⟩
    have B1 := Lib.hid b1
    clear b1
    go_wp2
    go_ret
    exact ⟨rfl, B1.out⟩
end Go.Proofs.YtgagiafbhpipoaaDoor
