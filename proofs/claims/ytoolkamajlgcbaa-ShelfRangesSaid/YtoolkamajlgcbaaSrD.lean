/- SrD: the walk of the law ShelfRanges (written by gen_srd.py). -/
import Derived.Test.YtoolkamajlgcbaaSrC
import Derived.Laws.AppendOwnNone
import Derived.Deep.Cut
import Derived.Deep.CutRange
import Derived.Deep.DeepCutAuto
set_option linter.unusedVariables false
set_option linter.unusedSimpArgs false
namespace Go.Proofs.Ytoolkamajlgcbaa
open Go.RowKit Go.ChangeShapes Go.WideShapes Go.ChangeAt Go.Deep

section
variable {H : Type} {enc : TypeId × Value → H} {W : World} {base : Nat} {held : Bool}
set_option maxRecDepth 100000 in
theorem open_ends {v : Value} {d : DataW H} {ps : List MemPlace} {r : World} (hv : Value.okWide Try.prog r .any base 41 v) (h : DataW.Trod enc Try.prog W 0 (fun _ => true) held 41 v d ps) : ∃ e : ByteArray × ByteArray × ByteArray, v = .agg #[.string e.1, .string e.2.1, .string e.2.2] := by
  simp only [Value.okWide, Try.underlying41] at hv
  obtain ⟨cs, rfl, _⟩ := hv
  obtain ⟨fuel, h⟩ := h
  obtain ⟨xs, n, _, _, hlen, hxs, hf⟩ := DataW.trod_array Try.underlying41 h
  have c5 : Try.prog.cellsOf 41 = 3 := by kernel_rfl
  have cs' : Try.prog.cellsOf 9 = 1 := by kernel_rfl
  rw [c5] at hlen
  simp only [Value.cells] at hlen hf
  obtain ⟨l, rfl⟩ : ∃ l : List Value, cs = l.toArray := ⟨cs.toList, by simp⟩
  simp only [List.size_toArray] at hlen
  match xs, hxs, l, hlen with
  | [y0, y1, y2], _, [a0, a1, a2], _ =>
    have h0 := hf 0 (by decide)
    have h1 := hf 1 (by decide)
    have h2 := hf 2 (by decide)
    rw [cs'] at h0 h1 h2
    simp at h0 h1 h2
    obtain ⟨s0, e0, _, _⟩ := DataW.trod_string Try.underlying9 h0
    obtain ⟨s1, e1, _, _⟩ := DataW.trod_string Try.underlying9 h1
    obtain ⟨s2, e2, _, _⟩ := DataW.trod_string Try.underlying9 h2
    simp only [List.cons.injEq, and_true] at e0 e1 e2
    subst e0 e1 e2
    exact ⟨(s0, s1, s2), rfl⟩
end
theorem rdpr_take {w : World} {A : Option Addr} {l : PL} (h : RdPr w A l) (k : Nat) : RdPr w A (l.take k) := fun hp => by
  rw [List.length_take] at hp
  obtain ⟨b, o, e, hc⟩ := h (by omega)
  refine ⟨b, o, e, fun j hj => ?_⟩
  rw [List.getElem_take]
  rw [List.length_take] at hj
  exact hc j (by omega)
theorem flatS_len {sh : List (Nat × PL)} (h : GoodS sh) : (flatS sh).length ≤ 340 * sh.length := by
  induction sh with
  | nil => simp [flatS]
  | cons x r ih =>
    have h1 := (h x (List.mem_cons_self ..)).1
    have h2 := (szL_len x.2).1
    have h3 := ih (fun y hy => h y (List.mem_cons_of_mem _ hy))
    unfold flatS at h3 ⊢
    rw [List.flatMap_cons, List.length_append, List.length_cons]
    omega
theorem rng_mem {F : PL} {a b : ByteArray} {p : ByteArray × ByteArray} (h : p ∈ rngF F a b) : p ∈ F ∧ ltB p.1 a = false ∧ ltB b p.1 = false := by
  unfold rngF at h
  rw [List.mem_filter] at h
  simp only [Bool.and_eq_true, Bool.not_eq_true'] at h
  exact ⟨h.1, h.2.1, h.2.2⟩
theorem gt_flat {a b : ByteArray} (h : ltB b a = false) : (!Op.bytesLess a.toList b.toList && !a.toList == b.toList) = false := by
  have : gtB a b = false := by rw [gtB_eq]; exact h
  simpa [gtB] using this
theorem gt_flat1 {a b : ByteArray} (h : ltB b a = true) : (!Op.bytesLess a.toList b.toList && !a.toList == b.toList) = true := by
  have : gtB a b = true := by rw [gtB_eq]; exact h
  simpa [gtB] using this
/-- append onto an own row of another own row, which may be nil. -/
theorem wpList_append_own_row {P : Program} (w : World) {ops : Array Oper} {rest : List Oper} {o : Oper} {a : Act} {Q : Exit → Act → World → Prop} (hgd : o.guard = none) (s x : Operand) (t : TypeId)
    (ho : o.op = .call { callee := .builtin .append, args := #[s, x], argTypes := #[t, t] }) (base : Nat) (e : TypeId) (i : TypeInfo) (z : Value) (size bytes : Nat) (ht : P.underlying t = some (.slice e)) (hi : P.info? e = some i) (hz : i.zero = some z) (hsize : i.size = size) (hby : i.bytes = bytes) (hzs : z.cells.size = size) (hsz : 0 < size)
    (v : Value) (n : Nat) (xs : List Value) (hs : a.eval s = v) (hown : w.ownsRow base e size v n xs)
    (u : Value) (base2 m : Nat) (news : List Value) (hx : a.eval x = u) (hu : w.ownsRow base2 e size u m news) (h1 : ∀ q ∈ news, q.oneCell' = true) (h63 : n + m ≤ maxLen) (hbytes : (n + m) * bytes ≤ 140737488355328) (hbase : base ≤ w.heap.size)
    (k : ∀ v' w', w'.ownsRow base e size v' (n + m) (xs ++ news) → w.grownBy w' v.ownBlock → wpList P ops Q rest (a.put o.dst v') w') : wpList P ops Q (o :: rest) a w := by
  rcases hu.2 with ⟨e1, h0⟩ | ⟨g, cap, cur, e1, _⟩
  · subst e1 h0
    have hn : news = [] := List.eq_nil_of_length_eq_zero (by have := hu.1; simpa using this)
    subst hn
    refine wpList_append_own_none hgd s x t ho base e i size ht hi v n xs hs hown hx ?_
    exact k v w (by rw [List.append_nil]; exact hown) ⟨rfl, rfl, rfl, Nat.le_refl _, fun _ _ _ => rfl⟩
  · subst e1
    refine wpList_append_own_at w hgd s x t ho base e i z size bytes ht hi hz hsize hby hzs hsz v n xs hs hown ⟨g, 0, none⟩ m cap news hx hu.1 (fun j q hj => hu.cells (g := g) rfl j q hj) h1 h63 hbytes hbase ?_
    intro v' w' h2 h3 _ _
    exact k v' w' h2 h3
/-- The entries of one key. -/
theorem rng_one (F : PL) (e : ByteArray) : rngF F e e = F.filter (fun p => !ltB p.1 e && !ltB e p.1) := rfl
/-- A range is put together of two that meet. -/
theorem rng_join {F : PL} (hs : Srt F) {a e b : ByteArray} (h1 : ltB e a = false) (h2 : ltB b e = false) : rngF F a e ++ (rngF F e b).drop (rngF F e e).length = rngF F a b := by
  have p3 := part3 F e hs
  have mid := mid_eq (e := e) hs
  have fl : ∀ (x y : ByteArray), rngF F x y = (F.filter (fun p => ltB p.1 e)).filter (fun p => !ltB p.1 x && !ltB y p.1) ++ ((F.filter (fun p => !ltB p.1 e && !ltB e p.1)).filter (fun p => !ltB p.1 x && !ltB y p.1) ++ (F.filter (fun p => ltB e p.1)).filter (fun p => !ltB p.1 x && !ltB y p.1)) := fun x y => by
    unfold rngF
    conv => lhs; rw [p3]
    rw [List.filter_append, List.filter_append]
  have lt_off : ∀ y, (F.filter (fun p => ltB p.1 e)).filter (fun p => !ltB p.1 e && !ltB y p.1) = [] := fun y => by
    rw [List.filter_eq_nil_iff]
    intro p hp
    have : ltB p.1 e = true := (List.mem_filter.1 hp).2
    rw [this]
    simp
  have gt_off : ∀ x, (F.filter (fun p => ltB e p.1)).filter (fun p => !ltB p.1 x && !ltB e p.1) = [] := fun x => by
    rw [List.filter_eq_nil_iff]
    intro p hp
    have : ltB e p.1 = true := (List.mem_filter.1 hp).2
    rw [this]
    simp
  have lt_same : (F.filter (fun p => ltB p.1 e)).filter (fun p => !ltB p.1 a && !ltB e p.1) = (F.filter (fun p => ltB p.1 e)).filter (fun p => !ltB p.1 a && !ltB b p.1) := List.filter_congr (fun p hp => by
    have : ltB p.1 e = true := (List.mem_filter.1 hp).2
    rw [ltB_asym this, ltB_asym (ltB_lt2 this h2)])
  have gt_same : (F.filter (fun p => ltB e p.1)).filter (fun p => !ltB p.1 e && !ltB b p.1) = (F.filter (fun p => ltB e p.1)).filter (fun p => !ltB p.1 a && !ltB b p.1) := List.filter_congr (fun p hp => by
    have : ltB e p.1 = true := (List.mem_filter.1 hp).2
    rw [ltB_asym this, ltB_asym (ltB_lt h1 this)])
  have md : ∀ x y : ByteArray, ltB e x = false → ltB y e = false → (F.filter (fun p => !ltB p.1 e && !ltB e p.1)).filter (fun p => !ltB p.1 x && !ltB y p.1) = F.filter (fun p => !ltB p.1 e && !ltB e p.1) := fun x y hx hy => by
    rcases mid with ⟨v, _, hm⟩ | ⟨_, hm⟩
    · rw [hm, List.filter_cons_of_pos (by rw [hx, hy]; rfl)]
      rfl
    · rw [hm]; rfl
  rw [rng_one, fl a e, fl e b, fl a b, lt_off b, gt_off a, lt_same, gt_same, md a e h1 (ltB_irr e), md e b (ltB_irr e) h2, md a b h1 h2, List.nil_append, List.append_nil, List.drop_left, List.append_assoc]
theorem rngF_len (F : PL) (a b : ByteArray) : (rngF F a b).length ≤ F.length := List.length_filter_le ..
set_option maxHeartbeats 6400000 in
set_option maxRecDepth 100000 in
theorem shelfRanges_walk (w : World) (v1 : Value) (l : List SOp) (h1 : RdSOps w v1 l) (E0 E1 E2 : ByteArray) (most : Int) :
    Calls Try.prog 4 #[v1, .agg #[.string E0, .string E1, .string E2], .int .i64 most] w fun e w' => e = .returned (.bool true) ∧ Below w.heap.size w w' := by
  obtain ⟨A1, c1, rfl⟩ := sops_val h1
  obtain ⟨W0, hW0⟩ : ∃ W0, W0 = w.alloc (.cells #[.string E0, .string E1, .string E2] 41) := ⟨_, rfl⟩
  have Q0 : Below w.heap.size w W0 := by rw [hW0]; exact (Below.refl _ w).alloc (Nat.le_refl _) _
  have BK : W0.heap[w.heap.size]? = some (.cells #[.string E0, .string E1, .string E2] 41 (0, 0)) := by rw [hW0]; exact blk_new w _
  have KC : Hid (∀ W, Below W0.heap.size W0 W → W.cell? ⟨w.heap.size, 0, none⟩ = some (.string E0) ∧ W.cell? ⟨w.heap.size, 1, none⟩ = some (.string E1) ∧ W.cell? ⟨w.heap.size, 2, none⟩ = some (.string E2)) := fun W hW => by
    have b := (hW.block _ (lt_of_block BK)).trans BK
    exact ⟨by rw [blk_cell b]; rfl, by rw [blk_cell b]; rfl, by rw [blk_cell b]; rfl⟩
  have H1 : Hid (RdSOps W0 (.slice A1 l.length c1) l) := by
    obtain ⟨⟨A, c, e, k1, k2, k3⟩, k4⟩ := h1
    refine ⟨⟨A, c, e, k1, k2, fun hp => ?_⟩, k4⟩
    obtain ⟨b, off, e, hc⟩ := k3 hp
    refine ⟨b, off, e, fun i hi => ?_⟩
    obtain ⟨a0, a1, a2, a3, a4, a5⟩ := hc i hi
    exact ⟨cell_below Q0 a0, cell_below Q0 a1, cell_below Q0 a2, cell_below Q0 a3, cell_below Q0 a4, cell_below Q0 a5⟩
  have Q0h := Lib.hid Q0
  have OP := Lib.hid (sopened_any W0 8 (by decide) (by decide))
  have HW0 := Lib.hid hW0
  rw [hW0] at OP
  rw [show ((8 : Nat) : Int) = 8 from rfl] at OP
  clear h1 Q0 BK hW0
  go_enter Try.func4, Try.ntmps4
  go_wp2_with fail
  refine OP.out.mono ?_
  rw [← HW0.out]
  rintro e w1 ⟨g, gj, gs, rfl, hb, hgs, q1, hj, _⟩
  have B1 := Lib.hid q1
  have S1 := Lib.hid (stt_new (lo := W0.heap.size) hb hj hgs q1.size)
  have DN := Lib.hid (done_any W0 w1 w1.heap.size gs gj g 8 [] q1 S1.out List.Pairwise.nil (by decide) (by decide) (by decide) A1 c1 l H1.out)
  clear hb hgs q1 hj OP S1
  go_wp2_with fail
  refine DN.out.mono ?_
  rintro e w2 ⟨q, rfl, L, hL, hs, hst, b2⟩
  generalize w1.heap.size = base at hst
  have B2 := Lib.hid b2; have S2 := Lib.hid hst; have SR := Lib.hid hs
  have hL2 : L.length ≤ 40 := by simpa using hL
  clear DN hL hs hst b2 B1
  cases q with
  | false =>
    go_wp2_with fail
    refine (slives_any _).mono ?_
    rintro e w9 ⟨rfl, b9⟩
    have B9 : Hid (Below w.heap.size w w9) := Q0h.out.trans ((B2.out.trans (b9.mono B2.out.size)).mono Q0h.out.size)
    clear b9
    go_wp2
    go_ret
    exact ⟨rfl, B9.out⟩
  | true =>
    obtain ⟨k0, k1, k2⟩ := KC.out w2 B2.out
    by_cases hsum : wrap64 (wrap64 ((E0.size : Int) + (E1.size : Int)) + (E2.size : Int)) ≤ 2000
    rotate_left
    · have dt : decide (2000 < wrap64 (wrap64 ((E0.size : Int) + (E1.size : Int)) + (E2.size : Int))) = true := decide_eq_true (by omega)
      have hs2 : 2000 < wrap64 (wrap64 ((E0.size : Int) + (E1.size : Int)) + (E2.size : Int)) := by omega
      go_wp2_with fail
      refine (slives_any _).mono ?_
      rintro e w9 ⟨rfl, b9⟩
      have B9 : Hid (Below w.heap.size w w9) := Q0h.out.trans ((B2.out.trans (b9.mono B2.out.size)).mono Q0h.out.size)
      clear b9
      go_wp2
      go_ret
      exact ⟨rfl, B9.out⟩
    have dt : decide (2000 < wrap64 (wrap64 ((E0.size : Int) + (E1.size : Int)) + (E2.size : Int))) = false := decide_eq_false (by omega)
    obtain ⟨F, hF⟩ : ∃ F, F = flatS (shP L) := ⟨_, rfl⟩
    have hfull := good_full S2.out.good
    have FL : F.length ≤ 13600 := by
      have := flatS_len S2.out.good
      rw [shP_len, ← hF] at this
      omega
    have RNG : Hid (∀ (a b : ByteArray) (n : Int), rngR (shP L) a b n = (rngF F a b).take n.toNat) := fun a b n => by rw [rngR_eq SR.out hfull, hF]
    have GETM : Hid (∀ a v, getK (shP L) a = some v → (a, v) ∈ F) := fun a v h => by rw [hF]; exact getK_mem h
    have GETO : Hid (∀ a v, (a, v) ∈ F → getK (shP L) a = some v) := fun a v h => by rw [hF] at h; exact getK_of_mem SR.out hfull h
    rw [← hF] at SR
    obtain ⟨X, hX⟩ : ∃ X, X = rngF F E0 E2 := ⟨_, rfl⟩
    have HX := Lib.hid hX
    have XL : X.length ≤ 13600 := by
      have := rngF_len F E0 E2
      rw [hX]; omega
    have RG1 := Lib.hid (stt_range S2.out (by omega) E0 E2 100000)
    rw [RNG.out E0 E2 100000, ← hX, show (100000 : Int).toNat = 100000 from rfl, List.take_of_length_le (show X.length ≤ 100000 by omega)] at RG1
    clear hF hX hfull
    go_wp2_with fail
    refine RG1.out.mono ?_
    rintro e w3 ⟨vx, rfl, ox, b3⟩
    obtain ⟨AX, cX, rfl, rx⟩ := lf_own ox 0
    have RX := Lib.hid rx.1
    have cXl : X.length ≤ cX := rx.2.1
    have B3 : Hid (Below W0.heap.size W0 w3) := B2.out.trans (b3.mono B2.out.size)
    have S3 : Hid (Stt w3 W0.heap.size base gs gj g 8 L) := S2.out.below b3
    clear ox rx b3 RG1 k0 k1 k2
    obtain ⟨k0, k1, k2⟩ := KC.out w3 B3.out
    have RG2 := Lib.hid (stt_range S3.out (by omega) E0 E2 most)
    rw [RNG.out E0 E2 most, ← HX.out] at RG2
    obtain ⟨Y, hY⟩ : ∃ Y, Y = X.take most.toNat := ⟨_, rfl⟩
    rw [← hY] at RG2
    have HY := Lib.hid hY
    have hYX : Y = X.take Y.length := by rw [hY, List.length_take]; rw [← List.take_eq_take_min]
    have YL : Y.length ≤ X.length := by rw [hY, List.length_take]; omega
    have emin : max 0 (min most (X.length : Int)) = (Y.length : Int) := by rw [hY, List.length_take]; omega
    have HYX := Lib.hid hYX
    clear hY hYX
    go_wp2_with fail
    refine RG2.out.mono ?_
    rintro e w4 ⟨vy, rfl, oy, b4⟩
    obtain ⟨AY, cY, rfl, ry⟩ := lf_own oy 0
    have RY := Lib.hid ry.1
    have B4 : Hid (Below W0.heap.size W0 w4) := B3.out.trans (b4.mono B3.out.size)
    have S4 : Hid (Stt w4 W0.heap.size base gs gj g 8 L) := S3.out.below b4
    have RX4 : Hid (RdPr w4 AX X) := RX.out.below b4
    clear oy ry b4 RG2 k0 k1 k2 RX
    obtain ⟨k0, k1, k2⟩ := KC.out w4 B4.out
    have SM1 := Lib.hid (psame_any w4 AY AX cY cX Y Y RY.out (by rw [HYX.out]; exact rdpr_take RX4.out _) (by omega) (by omega))
    rw [show decide (Y = Y) = true by simp] at SM1
    have ELEN : Hid (Y.length = min most.toNat X.length) := by unfold Hid; rw [HY.out, List.length_take]
    go_upto_region 6 with fail
    go_cut [12] (fun nv wx => nv = .int .i64 (Y.length : Nat) ∧ wx = w4)
    case first =>
      go_wp2_with fail
      all_goals
        go_meet
        refine ⟨?_, rfl⟩
        have := ELEN.out
        first | (congr 1; omega) | (simp; omega)
    case rest =>
      obtain ⟨rfl, hwc⟩ := hcut
      subst wc
      have dYX : (Y.length : Int) ≤ (X.length : Int) := by omega
      go_wp2_with fail
      refine SM1.out.mono ?_
      rintro e w5 ⟨rfl, b5⟩
      have B5 : Hid (Below W0.heap.size W0 w5) := B4.out.trans (b5.mono B4.out.size)
      have S5 : Hid (Stt w5 W0.heap.size base gs gj g 8 L) := S4.out.below b5
      have RX5 : Hid (RdPr w5 AX X) := RX4.out.below b5
      clear b5 SM1 k0 k1 k2 RX4 RY HY HYX YL emin dYX ELEN
      go_wp2_with fail
      go_loopw [13, 78] (fun iv iv2 wr => ∃ i : Nat, i ≤ X.length ∧ iv = .int .i64 i ∧ Hid (Below W0.heap.size W0 wr) ∧ Hid (Stt wr W0.heap.size base gs gj g 8 L) ∧ Hid (RdPr wr AX X)) (fun iv _ _ => X.length - (intOf iv).toNat)
      case atStart => exact ⟨0, Nat.zero_le _, rfl, B5, S5, RX5⟩
      case round =>
        obtain ⟨i, hi, rfl, hb, hst, hrx⟩ := hrel
        obtain ⟨k0, k1, k2⟩ := KC.out wr hb.out
        by_cases hlt : i < X.length
        · obtain ⟨bx, ox, rfl, hc⟩ := hrx.out (by omega)
          obtain ⟨y0, y1⟩ := hc i hlt
          obtain ⟨m1, m2, m3⟩ := rng_mem (show X[i] ∈ rngF F E0 E2 by rw [← HX.out]; exact List.getElem_mem hlt)
          have GT := Lib.hid (stt_get hst.out (by omega) X[i].1)
          rw [GETO.out X[i].1 X[i].2 m1] at GT
          have PV : Hid (0 < i → ∃ pk, wr.cell? ⟨bx, ox + (i - 1) * 2, none⟩ = some (.string pk) ∧ ltB pk X[i].1 = true) := fun h0 => by
            have sx : Srt X := by rw [HX.out]; exact srt_filter SR.out _
            exact ⟨X[i - 1].1, (hc (i - 1) (by omega)).1, List.pairwise_iff_getElem.1 sx (i - 1) i (by omega) hlt (by omega)⟩
          generalize X[i] = p at y0 y1 m2 m3 GT PV
          obtain ⟨xk, xv⟩ := p
          simp only [Option.getD_some, Option.isSome_some] at y0 y1 m2 m3 GT PV
          have q1 : Op.bytesLess xk.toList E0.toList = false := m2
          have q2 := gt_flat m3
          have hil : (i : Int) < (X.length : Int) := by omega
          clear hc m1 m2 m3
          go_wp2_with fail
          refine GT.out.mono ?_
          rintro e w6 ⟨rfl, b6⟩
          have B6 : Hid (Below W0.heap.size W0 w6) := hb.out.trans (b6.mono hb.out.size)
          have B7 : Hid (Below W0.heap.size W0 w6.drew) := B6.out.drew
          have S7 : Hid (Stt w6.drew W0.heap.size base gs gj g 8 L) := (hst.out.below b6).below (Below.refl _ w6).drew
          have RX7 : Hid (RdPr w6.drew (some ⟨bx, ox, none⟩) X) := (hrx.out.below b6).below (Below.refl _ w6).drew
          have y0d : w6.drew.cell? ⟨bx, ox + i * 2, none⟩ = some (.string xk) := cell_below b6 y0
          have y1d : w6.drew.cell? ⟨bx, ox + i * 2 + 1, none⟩ = some (.string xv) := cell_below b6 y1
          have k0d : w6.drew.cell? ⟨w.heap.size, 0, none⟩ = some (.string E0) := cell_below b6 k0
          have k2d : w6.drew.cell? ⟨w.heap.size, 2, none⟩ = some (.string E2) := cell_below b6 k2
          have PV7 : Hid (0 < i → ∃ pk, w6.drew.cell? ⟨bx, ox + (i - 1) * 2, none⟩ = some (.string pk) ∧ ltB pk xk = true) := fun h0 => by
            obtain ⟨pk, h1, h2⟩ := PV.out h0
            exact ⟨pk, cell_below b6 h1, h2⟩
          clear y0 y1 k0 k1 k2 b6 GT hb hst hrx PV B6
          by_cases h0 : i = 0
          · subst h0
            simp only [Nat.zero_mul, Nat.add_zero] at y0d y1d
            go_wp2_with fail
            refine wp_region_flag (fun w' => w'.cell? ⟨bx, ox, none⟩ = some (.string xk) ∧ w'.cell? ⟨bx, ox + 1, none⟩ = some (.string xv) ∧ w'.cell? ⟨w.heap.size, 0, none⟩ = some (.string E0) ∧ w'.cell? ⟨w.heap.size, 2, none⟩ = some (.string E2)) [(0, 1), (1, 1), (2, 1), (3, 1), (4, 1), (5, 1), (6, 1), (7, 1), (8, 0), (9, 1), (10, 1), (11, 1), (12, 1), (13, 1), (14, 1), (15, 1), (16, 1), (17, 1), (18, 1), (19, 1), (21, 1), (22, 1), (23, 1), (24, 1), (20, 2), (25, 0), (26, 1), (27, 1), (28, 1), (29, 1), (30, 1), (31, 1), (32, 1), (33, 1), (35, 1), (34, 2), (36, 0), (37, 1), (38, 1), (39, 1), (40, 1), (41, 1), (42, 1), (43, 1), (45, 1), (44, 2), (46, 0), (47, 1), (48, 1)] (by kernel_rfl) (by kernel_rfl) ⟨y0d, y1d, k0d, k2d⟩ ?_
            simp only [ordered, List.map_cons, List.map_nil, List.getD_cons_zero, List.getD_cons_succ]
            repeat (refine wpF_dry (fun K hK => ?_); go_simp; refine hK _ ?_; clear hK K)
            refine wpF_do ?_
            go_wp2_with fail
            refine ⟨⟨y0d, y1d, k0d, k2d⟩, ?_⟩
            repeat (refine wpF_dry (fun K hK => ?_); go_simp; refine hK _ ?_; clear hK K)
            refine wpF_skip (fun K hK => ?_)
            go_simp
            refine hK _ ?_
            clear hK K
            refine wpF_do ?_
            go_wp2_with fail
            refine ⟨⟨y0d, y1d, k0d, k2d⟩, ?_⟩
            repeat (refine wpF_dry (fun K hK => ?_); go_simp; refine hK _ ?_; clear hK K)
            refine wpF_read (.string xk) rfl (fun w' hS => by obtain ⟨s1, s2, s3, s4⟩ := hS; go_simp) (fun K hK => ?_)
            go_simp
            refine hK _ ?_
            clear hK K
            refine wpF_do ?_
            go_wp2_with fail
            refine ⟨⟨y0d, y1d, k0d, k2d⟩, ?_⟩
            repeat (refine wpF_dry (fun K hK => ?_); go_simp; refine hK _ ?_; clear hK K)
            refine wpF_read (.string xk) rfl (fun w' hS => by obtain ⟨s1, s2, s3, s4⟩ := hS; go_simp) (fun K hK => ?_)
            go_simp
            refine hK _ ?_
            clear hK K
            refine wpF_do ?_
            go_wp2_with fail
            refine ⟨⟨y0d, y1d, k0d, k2d⟩, ?_⟩
            repeat (refine wpF_dry (fun K hK => ?_); go_simp; refine hK _ ?_; clear hK K)
            refine wpF_nil ?_
            go_wp2
            go_roundw
            case rel => first | exact ⟨1, hlt, by go_num, B7, S7, RX7⟩ | ((repeat apply Exists.intro); refine ⟨?_, rfl⟩; exact ⟨1, hlt, by go_num, B7, S7, RX7⟩)
            case measure => simp [intOf]; omega
          · obtain ⟨pk, p0d, hpk⟩ := PV7.out (by omega)
            have q3 : Op.bytesLess pk.toList xk.toList = true := hpk
            obtain ⟨j, hj⟩ : ∃ j, j = i - 1 := ⟨_, rfl⟩
            rw [← hj] at p0d
            have ej : (i : Int) - 1 = (j : Int) := by omega
            have wj : IntKind.i64.wrap ((i : Int) - 1) = (j : Int) := by rw [ej, IntKind.wrap_i64]; omega
            have hjl : (j : Int) < (X.length : Int) := by omega
            have hip : (0 : Int) < (i : Int) := by omega
            have dip : decide ((0 : Int) < (i : Int)) = true := decide_eq_true hip
            have dip' : decide (0 < i) = true := decide_eq_true (by omega)
            have HJ := Lib.hid hj
            have EJ := Lib.hid ej
            clear hj hpk PV7 ej
            go_wp2_with fail
            refine wp_region_flag (fun w' => w'.cell? ⟨bx, ox + i * 2, none⟩ = some (.string xk) ∧ w'.cell? ⟨bx, ox + i * 2 + 1, none⟩ = some (.string xv) ∧ w'.cell? ⟨w.heap.size, 0, none⟩ = some (.string E0) ∧ w'.cell? ⟨w.heap.size, 2, none⟩ = some (.string E2) ∧ w'.cell? ⟨bx, ox + j * 2, none⟩ = some (.string pk)) [(0, 1), (1, 1), (2, 1), (3, 1), (4, 1), (5, 1), (6, 1), (7, 1), (8, 0), (9, 1), (10, 1), (11, 1), (12, 1), (13, 1), (14, 1), (15, 1), (16, 1), (17, 1), (18, 1), (19, 1), (21, 1), (22, 1), (23, 1), (24, 1), (20, 2), (25, 0), (26, 1), (27, 1), (28, 1), (29, 1), (30, 1), (31, 1), (32, 1), (33, 1), (35, 1), (34, 2), (36, 0), (37, 1), (38, 1), (39, 1), (40, 1), (41, 1), (42, 1), (43, 1), (45, 1), (44, 2), (46, 0), (47, 1), (48, 1)] (by kernel_rfl) (by kernel_rfl) ⟨y0d, y1d, k0d, k2d, p0d⟩ ?_
            simp only [ordered, List.map_cons, List.map_nil, List.getD_cons_zero, List.getD_cons_succ]
            repeat (refine wpF_dry (fun K hK => ?_); go_simp; refine hK _ ?_; clear hK K)
            refine wpF_do ?_
            go_wp2_with fail
            refine ⟨⟨y0d, y1d, k0d, k2d, p0d⟩, ?_⟩
            repeat (refine wpF_dry (fun K hK => ?_); go_simp; refine hK _ ?_; clear hK K)
            refine wpF_read (.string pk) rfl (fun w' hS => by obtain ⟨s1, s2, s3, s4, s5⟩ := hS; go_simp) (fun K hK => ?_)
            go_simp
            refine hK _ ?_
            clear hK K
            refine wpF_do ?_
            go_wp2_with fail
            refine ⟨⟨y0d, y1d, k0d, k2d, p0d⟩, ?_⟩
            repeat (refine wpF_dry (fun K hK => ?_); go_simp; refine hK _ ?_; clear hK K)
            refine wpF_read (.string xk) rfl (fun w' hS => by obtain ⟨s1, s2, s3, s4, s5⟩ := hS; go_simp) (fun K hK => ?_)
            go_simp
            refine hK _ ?_
            clear hK K
            refine wpF_do ?_
            go_wp2_with fail
            refine ⟨⟨y0d, y1d, k0d, k2d, p0d⟩, ?_⟩
            repeat (refine wpF_dry (fun K hK => ?_); go_simp; refine hK _ ?_; clear hK K)
            refine wpF_read (.string xk) rfl (fun w' hS => by obtain ⟨s1, s2, s3, s4, s5⟩ := hS; go_simp) (fun K hK => ?_)
            go_simp
            refine hK _ ?_
            clear hK K
            refine wpF_do ?_
            go_wp2_with fail
            refine ⟨⟨y0d, y1d, k0d, k2d, p0d⟩, ?_⟩
            repeat (refine wpF_dry (fun K hK => ?_); go_simp; refine hK _ ?_; clear hK K)
            refine wpF_nil ?_
            go_wp2
            go_roundw
            case rel => first | exact ⟨i + 1, hlt, by go_num, B7, S7, RX7⟩ | ((repeat apply Exists.intro); refine ⟨?_, rfl⟩; exact ⟨i + 1, hlt, by go_num, B7, S7, RX7⟩)
            case measure => simp [intOf]; omega
        · have hil : i = X.length := by omega
          subst hil
          have GT := Lib.hid (stt_get hst.out (by omega) E1)
          have RO1 : ∀ W, Below wr.heap.size wr W → Hid (Calls Try.prog 19 #[.pointer (some ⟨gs, 0, none⟩), .string E1, .string E1, .int .i64 5] W fun e w' => ∃ v, e = .returned v ∧ w'.ownsRow W.heap.size 47 2 v (rngF F E1 E1).length (prv (rngF F E1 E1)) ∧ Below W.heap.size W w') := fun W hW => by
            have q := stt_range (hst.out.below hW) (by omega) E1 E1 5
            rw [RNG.out E1 E1 5, List.take_of_length_le (by
              rcases mid_eq (e := E1) SR.out with ⟨v, _, hm⟩ | ⟨_, hm⟩
              · rw [rng_one, hm]; show 1 ≤ 5; omega
              · rw [rng_one, hm]; show 0 ≤ 5; omega)] at q
            exact q
          have RAB : Hid (∀ W, Below wr.heap.size wr W → ∀ a b, Calls Try.prog 19 #[.pointer (some ⟨gs, 0, none⟩), .string a, .string b, .int .i64 100000] W fun e w' => ∃ v, e = .returned v ∧ w'.ownsRow W.heap.size 47 2 v (rngF F a b).length (prv (rngF F a b)) ∧ Below W.heap.size W w') := fun W hW a b => by
            have q := stt_range (hst.out.below hW) (by omega) a b 100000
            rw [RNG.out a b 100000, show (100000 : Int).toNat = 100000 from rfl, List.take_of_length_le (by have := rngF_len F a b; omega)] at q
            exact q
          obtain ⟨oned, hOne⟩ : ∃ oned : Option ByteArray, getK (shP L) E1 = oned ∧ ((oned = none ∧ rngF F E1 E1 = []) ∨ ∃ v, oned = some v ∧ rngF F E1 E1 = [(E1, v)]) := by
            refine ⟨_, rfl, ?_⟩
            rcases mid_eq (e := E1) SR.out with ⟨v, hv, hm⟩ | ⟨hv, hm⟩
            · exact .inr ⟨v, GETO.out _ _ hv, hm⟩
            · refine .inl ⟨?_, hm⟩
              cases hg : getK (shP L) E1 with
              | none => rfl
              | some v => exact absurd rfl (hv _ (GETM.out _ _ hg))
          rw [hOne.1] at GT
          have HONE := Lib.hid hOne.2
          clear hOne
          go_wp2_with fail
          refine GT.out.mono ?_
          rintro e w6 ⟨rfl, b6⟩
          have Q6 := Lib.hid b6
          have B6 : Hid (Below W0.heap.size W0 w6) := hb.out.trans (b6.mono hb.out.size)
          have RO := RO1 w6 b6
          clear b6 GT RO1 k0 k1 k2
          obtain ⟨k0, k1, k2⟩ := KC.out w6 B6.out
          go_wp2_with fail
          refine RO.out.mono ?_
          rintro e w8 ⟨vo, rfl, oo, b8⟩
          obtain ⟨AO, cO, rfl, ro⟩ := lf_own oo 0
          have RO8 := Lib.hid ro.1
          have cOl : (rngF F E1 E1).length ≤ cO := ro.2.1
          have Q8 : Hid (Below wr.heap.size wr w8) := Q6.out.trans (b8.mono Q6.out.size)
          have B8 : Hid (Below W0.heap.size W0 w8) := B6.out.trans (b8.mono B6.out.size)
          clear oo ro b8 RO Q6 B6 k0 k1 k2
          obtain ⟨k0, k1, k2⟩ := KC.out w8 B8.out
          rcases HONE.out with ⟨rfl, hm⟩ | ⟨v1', rfl, hm⟩
          · rw [hm] at RO8 cOl ⊢
            have HM := Lib.hid hm
            simp only [Option.getD_none, Option.isSome_none, List.length_nil]
            clear hm RO8
            go_wp2_with fail
            refine wp_region_flag (fun w' => True) [(0, 1), (1, 1), (2, 1), (3, 1), (4, 1), (5, 1), (6, 1), (7, 1), (8, 1), (9, 1), (11, 1), (13, 1), (10, 2), (12, 0), (14, 1), (15, 1), (16, 1), (17, 1)] (by kernel_rfl) (by kernel_rfl) trivial ?_
            simp only [ordered, List.map_cons, List.map_nil, List.getD_cons_zero, List.getD_cons_succ]
            repeat (refine wpF_dry (fun K hK => ?_); go_simp; refine hK _ ?_; clear hK K)
            refine wpF_skip (fun K hK => ?_)
            go_simp
            refine hK _ ?_
            clear hK K
            refine wpF_do ?_
            go_wp2_with fail
            refine ⟨trivial, ?_⟩
            repeat (refine wpF_dry (fun K hK => ?_); go_simp; refine hK _ ?_; clear hK K)
            refine wpF_nil ?_
            have B9a : Hid (Below W0.heap.size W0 w8.drew) := B8.out.drew
            have Q9 : Hid (Below wr.heap.size wr w8.drew) := Q8.out.drew
            have k0d : w8.drew.cell? ⟨w.heap.size, 0, none⟩ = some (.string E0) := k0
            have k1d : w8.drew.cell? ⟨w.heap.size, 1, none⟩ = some (.string E1) := k1
            have k2d : w8.drew.cell? ⟨w.heap.size, 2, none⟩ = some (.string E2) := k2
            clear k0 k1 k2
            cases hlo : ltB E1 E0 with
            | true =>
              have q1 : Op.bytesLess E1.toList E0.toList = true := hlo
              go_wp2_with fail
              refine (slives_any _).mono ?_
              rintro e w9 ⟨rfl, b9⟩
              have B9 : Hid (Below w.heap.size w w9) := Q0h.out.trans ((B9a.out.trans (b9.mono B9a.out.size)).mono Q0h.out.size)
              clear b9
              go_wp2
              go_ret
              exact ⟨rfl, B9.out⟩
            | false =>
            have q1 : Op.bytesLess E1.toList E0.toList = false := hlo
            cases hhi : ltB E2 E1 with
            | true =>
              have q2 := gt_flat1 hhi
              go_wp2_with fail
              refine (slives_any _).mono ?_
              rintro e w9 ⟨rfl, b9⟩
              have B9 : Hid (Below w.heap.size w w9) := Q0h.out.trans ((B9a.out.trans (b9.mono B9a.out.size)).mono Q0h.out.size)
              clear b9
              go_wp2
              go_ret
              exact ⟨rfl, B9.out⟩
            | false =>
            have q2 := gt_flat hhi
            have JN := Lib.hid (rng_join SR.out hlo hhi)
            unfold Hid at JN
            rw [HM.out, ← HX.out] at JN
            simp only [List.length_nil, List.drop_zero] at JN
            have RA := Lib.hid (RAB.out w8.drew.drew Q9.out.drew E0 E1)
            have k0e : w8.drew.drew.cell? ⟨w.heap.size, 0, none⟩ = some (.string E0) := k0d
            have k1e : w8.drew.drew.cell? ⟨w.heap.size, 1, none⟩ = some (.string E1) := k1d
            have k2e : w8.drew.drew.cell? ⟨w.heap.size, 2, none⟩ = some (.string E2) := k2d
            clear hlo hhi
            obtain ⟨i0, hi0, hz0, hz1, hz2⟩ := info_parts infoPr
            go_wp2_with fail
            refine wp_region_flag (fun w' => w'.cell? ⟨w.heap.size, 0, none⟩ = some (.string E0) ∧ w'.cell? ⟨w.heap.size, 1, none⟩ = some (.string E1) ∧ w'.cell? ⟨w.heap.size, 2, none⟩ = some (.string E2)) [(0, 1), (1, 1), (3, 1), (6, 1), (7, 1), (9, 1), (2, 2), (4, 2), (8, 2), (10, 2), (5, 0), (11, 0), (12, 1), (13, 1)] (by kernel_rfl) (by kernel_rfl) ⟨k0e, k1e, k2e⟩ ?_
            simp only [ordered, List.map_cons, List.map_nil, List.getD_cons_zero, List.getD_cons_succ]
            repeat (refine wpF_dry (fun K hK => ?_); go_simp; refine hK _ ?_; clear hK K)
            refine wpF_read (.string E0) rfl (fun w' hS => by obtain ⟨s1, s2, s3⟩ := hS; go_simp) (fun K hK => ?_)
            go_simp
            refine hK _ ?_
            clear hK K
            refine wpF_read (.string E1) rfl (fun w' hS => by obtain ⟨s1, s2, s3⟩ := hS; go_simp) (fun K hK => ?_)
            go_simp
            refine hK _ ?_
            clear hK K
            refine wpF_read (.string E1) rfl (fun w' hS => by obtain ⟨s1, s2, s3⟩ := hS; go_simp) (fun K hK => ?_)
            go_simp
            refine hK _ ?_
            clear hK K
            refine wpF_read (.string E2) rfl (fun w' hS => by obtain ⟨s1, s2, s3⟩ := hS; go_simp) (fun K hK => ?_)
            go_simp
            refine hK _ ?_
            clear hK K
            refine wpF_do ?_
            go_wp2_with fail
            refine RA.out.mono ?_
            rintro e wa ⟨va, rfl, oa, ba⟩
            have Qa : Hid (Below wr.heap.size wr wa) := Q9.out.drew.trans (ba.mono Q9.out.drew.size)
            have Ba : Hid (Below W0.heap.size W0 wa) := B9a.out.drew.trans (ba.mono B9a.out.drew.size)
            have OA := Lib.hid oa
            have RB := Lib.hid (RAB.out wa Qa.out E1 E2)
            obtain ⟨k0f, k1f, k2f⟩ := KC.out wa Ba.out
            obtain ⟨Aa, ca, rfl⟩ := own_slice oa
            clear oa ba RA k0d k1d k2d k0e k1e k2e
            go_wp2_with fail
            refine ⟨⟨k0f, k1f, k2f⟩, ?_⟩
            refine wpF_do ?_
            go_wp2_with fail
            refine RB.out.mono ?_
            rintro e wb ⟨vb, rfl, ob, bb⟩
            have Qb : Hid (Below wr.heap.size wr wb) := Qa.out.trans (bb.mono Qa.out.size)
            have Bb : Hid (Below W0.heap.size W0 wb) := Ba.out.trans (bb.mono Ba.out.size)
            have OAb := Lib.hid (own_touch OA.out (Touch.of_below bb : Touch (fun _ => False) wa wb) (fun _ _ x => x))
            have OB := Lib.hid ob
            have RXb := Lib.hid (hrx.out.below Qb.out)
            obtain ⟨k0g, k1g, k2g⟩ := KC.out wb Bb.out
            obtain ⟨Ab, cb, rfl⟩ := own_slice ob
            have la := rngF_len F E0 E1
            have lb := rngF_len F E1 E2
            clear bb RB OA k0f k1f k2f
            go_wp2_with fail
            refine ⟨⟨k0g, k1g, k2g⟩, ?_⟩
            repeat (refine wpF_dry (fun K hK => ?_); go_simp; refine hK _ ?_; clear hK K)
            refine wpF_nil ?_

            obtain ⟨ra, hra⟩ : ∃ q, q = rngF F E0 E1 := ⟨_, rfl⟩
            obtain ⟨rb, hrb⟩ : ∃ q, q = rngF F E1 E2 := ⟨_, rfl⟩
            rw [← hra, ← hrb] at JN
            rw [← hra] at OAb la
            rw [← hrb] at OB lb
            simp only [← hra, ← hrb]
            clear hra hrb ob k0g k1g k2g
            go_wp2_with (at_builtin; refine (wpList_append_own_row _ rfl (.tmp 202) (.tmp 203) 43 rfl wr.heap.size 47 i0 _ 2 32 Try.underlying43 hi0 hz0 hz1 hz2 rfl (by decide) (.slice none 0 0) 0 [] rfl (World.ownsRow_nil _ _ _ _) (.slice Aa ra.length ca) _ ra.length (prv ra) rfl OAb.out (prv_one _) (by unfold maxLen; omega) (by omega) Qb.out.size ?_))
            intro vc wc1 hoc hgc
            have gc : Below wb.heap.size wb wc1 := (Below.refl _ wb).grown hgc (Nat.le_refl _) (fun j hj => by cases hj)
            have Qc : Hid (Below wr.heap.size wr wc1) := Qb.out.trans (gc.mono Qb.out.size)
            have OBc := Lib.hid (own_touch OB.out (Touch.of_below gc : Touch (fun _ => False) wb wc1) (fun _ _ x => x))
            obtain ⟨Ac, cc, rfl⟩ := own_slice hoc
            have OC := Lib.hid hoc
            clear gc hgc hoc OAb
            go_wp2_with (at_builtin; refine (wpList_append_own_row _ rfl (.tmp 205) (.tmp 206) 43 rfl wr.heap.size 47 i0 _ 2 32 Try.underlying43 hi0 hz0 hz1 hz2 rfl (by decide) (.slice Ac ra.length cc) ra.length (prv ra) rfl OC.out (.slice Ab rb.length cb) _ rb.length (prv rb) rfl OBc.out (prv_one _) (by unfold maxLen; omega) (by omega) Qc.out.size ?_))
            intro vd wd hod hgd
            have Qd : Hid (Below wr.heap.size wr wd) := Qc.out.trans ((Below.refl wr.heap.size wc1).grown hgd Qc.out.size (fun j hj => (OC.out.lt j hj).1))
            have Bd : Hid (Below W0.heap.size W0 wd) := hb.out.trans (Qd.out.mono hb.out.size)
            have RXd := Lib.hid (hrx.out.below Qd.out)
            obtain ⟨Ad, cd, rfl, RDd⟩ : ∃ A c, vd = .slice A X.length c ∧ Hid (RdPr wd A X) := by
              rw [← prv_append, JN] at hod
              obtain ⟨A, c, e1, e2⟩ := lf_own hod 0
              exact ⟨A, c, e1, e2.1⟩
            have SM := Lib.hid (psame_any wd Ad AX cd cX X X RDd.out RXd.out (by omega) (by omega))
            rw [show decide (X = X) = true by simp] at SM
            clear hod hgd
            go_wp2_with fail
            refine SM.out.mono ?_
            rintro e we ⟨rfl, be⟩
            have Be : Hid (Below W0.heap.size W0 we) := Bd.out.trans (be.mono Bd.out.size)
            clear be SM
            go_wp2_with fail
            refine (slives_any _).mono ?_
            rintro e w9 ⟨rfl, b9⟩
            have B9 : Hid (Below w.heap.size w w9) := Q0h.out.trans ((Be.out.trans (b9.mono Be.out.size)).mono Q0h.out.size)
            clear b9
            go_wp2
            go_ret
            exact ⟨rfl, B9.out⟩
          · rw [hm] at RO8 cOl ⊢
            have HM := Lib.hid hm
            simp only [Option.getD_some, Option.isSome_some, List.length_cons, List.length_nil]
            obtain ⟨bo, oo, rfl, hco⟩ := RO8.out (by show 0 < 1; omega)
            obtain ⟨o0, o1⟩ := hco 0 (by show 0 < 1; omega)
            have o0d : w8.drew.cell? ⟨bo, oo, none⟩ = some (.string E1) := o0
            have o1d : w8.drew.cell? ⟨bo, oo + 1, none⟩ = some (.string v1') := o1
            have k1z : w8.drew.cell? ⟨w.heap.size, 1, none⟩ = some (.string E1) := k1
            clear hm RO8 hco o0 o1
            go_wp2_with fail
            refine wp_region_flag (fun w' => w'.cell? ⟨bo, oo, none⟩ = some (.string E1) ∧ w'.cell? ⟨bo, oo + 1, none⟩ = some (.string v1') ∧ w'.cell? ⟨w.heap.size, 1, none⟩ = some (.string E1)) [(0, 1), (1, 1), (2, 1), (3, 1), (4, 1), (5, 1), (6, 1), (7, 1), (8, 1), (9, 1), (11, 1), (13, 1), (10, 2), (12, 0), (14, 1), (15, 1), (16, 1), (17, 1)] (by kernel_rfl) (by kernel_rfl) ⟨o0d, o1d, k1z⟩ ?_
            simp only [ordered, List.map_cons, List.map_nil, List.getD_cons_zero, List.getD_cons_succ]
            repeat (refine wpF_dry (fun K hK => ?_); go_simp; refine hK _ ?_; clear hK K)
            refine wpF_read (.agg #[.string E1, .string v1']) rfl (fun w' hS => by obtain ⟨s1, s2, s3⟩ := hS; go_simp) (fun K hK => ?_)
            go_simp
            refine hK _ ?_
            clear hK K
            refine wpF_do ?_
            go_wp2_with fail
            refine ⟨⟨o0d, o1d, k1z⟩, ?_⟩
            repeat (refine wpF_dry (fun K hK => ?_); go_simp; refine hK _ ?_; clear hK K)
            refine wpF_nil ?_
            clear o0d o1d k1z
            have B9a : Hid (Below W0.heap.size W0 w8.drew) := B8.out.drew
            have Q9 : Hid (Below wr.heap.size wr w8.drew) := Q8.out.drew
            have k0d : w8.drew.cell? ⟨w.heap.size, 0, none⟩ = some (.string E0) := k0
            have k1d : w8.drew.cell? ⟨w.heap.size, 1, none⟩ = some (.string E1) := k1
            have k2d : w8.drew.cell? ⟨w.heap.size, 2, none⟩ = some (.string E2) := k2
            clear k0 k1 k2
            cases hlo : ltB E1 E0 with
            | true =>
              have q1 : Op.bytesLess E1.toList E0.toList = true := hlo
              go_wp2_with fail
              refine (slives_any _).mono ?_
              rintro e w9 ⟨rfl, b9⟩
              have B9 : Hid (Below w.heap.size w w9) := Q0h.out.trans ((B9a.out.trans (b9.mono B9a.out.size)).mono Q0h.out.size)
              clear b9
              go_wp2
              go_ret
              exact ⟨rfl, B9.out⟩
            | false =>
            have q1 : Op.bytesLess E1.toList E0.toList = false := hlo
            cases hhi : ltB E2 E1 with
            | true =>
              have q2 := gt_flat1 hhi
              go_wp2_with fail
              refine (slives_any _).mono ?_
              rintro e w9 ⟨rfl, b9⟩
              have B9 : Hid (Below w.heap.size w w9) := Q0h.out.trans ((B9a.out.trans (b9.mono B9a.out.size)).mono Q0h.out.size)
              clear b9
              go_wp2
              go_ret
              exact ⟨rfl, B9.out⟩
            | false =>
            have q2 := gt_flat hhi
            have JN := Lib.hid (rng_join SR.out hlo hhi)
            unfold Hid at JN
            rw [HM.out, ← HX.out] at JN
            simp only [List.length_cons, List.length_nil, Nat.zero_add] at JN
            have HHI := Lib.hid hhi
            have RA := Lib.hid (RAB.out w8.drew.drew Q9.out.drew E0 E1)
            have k0e : w8.drew.drew.cell? ⟨w.heap.size, 0, none⟩ = some (.string E0) := k0d
            have k1e : w8.drew.drew.cell? ⟨w.heap.size, 1, none⟩ = some (.string E1) := k1d
            have k2e : w8.drew.drew.cell? ⟨w.heap.size, 2, none⟩ = some (.string E2) := k2d
            clear hlo hhi
            obtain ⟨i0, hi0, hz0, hz1, hz2⟩ := info_parts infoPr
            go_wp2_with fail
            refine wp_region_flag (fun w' => w'.cell? ⟨w.heap.size, 0, none⟩ = some (.string E0) ∧ w'.cell? ⟨w.heap.size, 1, none⟩ = some (.string E1) ∧ w'.cell? ⟨w.heap.size, 2, none⟩ = some (.string E2)) [(0, 1), (1, 1), (3, 1), (6, 1), (7, 1), (9, 1), (2, 2), (4, 2), (8, 2), (10, 2), (5, 0), (11, 0), (12, 1), (13, 1)] (by kernel_rfl) (by kernel_rfl) ⟨k0e, k1e, k2e⟩ ?_
            simp only [ordered, List.map_cons, List.map_nil, List.getD_cons_zero, List.getD_cons_succ]
            repeat (refine wpF_dry (fun K hK => ?_); go_simp; refine hK _ ?_; clear hK K)
            refine wpF_read (.string E0) rfl (fun w' hS => by obtain ⟨s1, s2, s3⟩ := hS; go_simp) (fun K hK => ?_)
            go_simp
            refine hK _ ?_
            clear hK K
            refine wpF_read (.string E1) rfl (fun w' hS => by obtain ⟨s1, s2, s3⟩ := hS; go_simp) (fun K hK => ?_)
            go_simp
            refine hK _ ?_
            clear hK K
            refine wpF_read (.string E1) rfl (fun w' hS => by obtain ⟨s1, s2, s3⟩ := hS; go_simp) (fun K hK => ?_)
            go_simp
            refine hK _ ?_
            clear hK K
            refine wpF_read (.string E2) rfl (fun w' hS => by obtain ⟨s1, s2, s3⟩ := hS; go_simp) (fun K hK => ?_)
            go_simp
            refine hK _ ?_
            clear hK K
            refine wpF_do ?_
            go_wp2_with fail
            refine RA.out.mono ?_
            rintro e wa ⟨va, rfl, oa, ba⟩
            have Qa : Hid (Below wr.heap.size wr wa) := Q9.out.drew.trans (ba.mono Q9.out.drew.size)
            have Ba : Hid (Below W0.heap.size W0 wa) := B9a.out.drew.trans (ba.mono B9a.out.drew.size)
            have OA := Lib.hid oa
            have RB := Lib.hid (RAB.out wa Qa.out E1 E2)
            obtain ⟨k0f, k1f, k2f⟩ := KC.out wa Ba.out
            obtain ⟨Aa, ca, rfl⟩ := own_slice oa
            clear oa ba RA k0d k1d k2d k0e k1e k2e
            go_wp2_with fail
            refine ⟨⟨k0f, k1f, k2f⟩, ?_⟩
            refine wpF_do ?_
            go_wp2_with fail
            refine RB.out.mono ?_
            rintro e wb ⟨vb, rfl, ob, bb⟩
            have Qb : Hid (Below wr.heap.size wr wb) := Qa.out.trans (bb.mono Qa.out.size)
            have Bb : Hid (Below W0.heap.size W0 wb) := Ba.out.trans (bb.mono Ba.out.size)
            have OAb := Lib.hid (own_touch OA.out (Touch.of_below bb : Touch (fun _ => False) wa wb) (fun _ _ x => x))
            have OB := Lib.hid ob
            have RXb := Lib.hid (hrx.out.below Qb.out)
            obtain ⟨k0g, k1g, k2g⟩ := KC.out wb Bb.out
            obtain ⟨Ab, cb, rfl⟩ := own_slice ob
            have la := rngF_len F E0 E1
            have lb := rngF_len F E1 E2
            clear bb RB OA k0f k1f k2f
            go_wp2_with fail
            refine ⟨⟨k0g, k1g, k2g⟩, ?_⟩
            repeat (refine wpF_dry (fun K hK => ?_); go_simp; refine hK _ ?_; clear hK K)
            refine wpF_nil ?_

            obtain ⟨ra, hra⟩ : ∃ q, q = rngF F E0 E1 := ⟨_, rfl⟩
            obtain ⟨rb, hrb⟩ : ∃ q, q = rngF F E1 E2 := ⟨_, rfl⟩
            rw [← hra, ← hrb] at JN
            rw [← hra] at OAb la
            rw [← hrb] at OB lb
            simp only [← hra, ← hrb]
            have hrb0 : 0 < rb.length := by
              have hin : (E1, v1') ∈ rngF F E1 E2 := by
                have h1 : (E1, v1') ∈ rngF F E1 E1 := by rw [HM.out]; exact List.mem_cons_self ..
                have h2 := (rng_mem h1).1
                unfold rngF
                rw [List.mem_filter]
                refine ⟨h2, ?_⟩
                show (!ltB E1 E1 && !ltB E2 E1) = true
                rw [ltB_irr, HHI.out]
                rfl
              rw [← hrb] at hin
              exact List.length_pos_of_mem hin
            clear hra hrb ob k0g k1g k2g
            obtain ⟨gb, rfl, rbb⟩ : ∃ gb, Ab = some ⟨gb, 0, none⟩ ∧ Hid (RdPr wb (some ⟨gb, 0, none⟩) rb ∧ rb.length ≤ cb) := by
              rcases OB.out.2 with ⟨_, h0⟩ | ⟨g', cap', cur', e', _⟩
              · omega
              · cases e'
                obtain ⟨A', c', e2, r1, r2, _⟩ := lf_own OB.out 0
                cases e2
                exact ⟨g', rfl, r1, r2⟩
            obtain ⟨adb, hadb, RC1⟩ := rd_from rbb.out.1 1 (by omega) rbb.out.2
            simp only [Nat.zero_add, Nat.one_mul] at hadb
            have RC1h := Lib.hid RC1
            have hb1 : (1 : Int) ≤ (rb.length : Int) := by omega
            have hb2 : rb.length ≤ cb := rbb.out.2
            have hb3 : (rb.length : Int) ≤ (cb : Int) := by omega
            clear RC1 rbb
            have RDL : (prv (rb.drop 1)).length = (rb.length - 1) * 2 := by rw [prv_len, List.length_drop]
            go_wp2_with (at_builtin; refine (wpList_append_own_row _ rfl (.tmp 202) (.tmp 203) 43 rfl wr.heap.size 47 i0 _ 2 32 Try.underlying43 hi0 hz0 hz1 hz2 rfl (by decide) (.slice none 0 0) 0 [] rfl (World.ownsRow_nil _ _ _ _) (.slice Aa ra.length ca) _ ra.length (prv ra) rfl OAb.out (prv_one _) (by unfold maxLen; omega) (by omega) Qb.out.size ?_))
            intro vc wc1 hoc hgc
            have gc : Below wb.heap.size wb wc1 := (Below.refl _ wb).grown hgc (Nat.le_refl _) (fun j hj => by cases hj)
            have Qc : Hid (Below wr.heap.size wr wc1) := Qb.out.trans (gc.mono Qb.out.size)
            have RC1c : Hid (∀ j u, (prv (rb.drop 1))[j]? = some u → wc1.cell? (adb.add j) = some u) := fun j u hj => cell_below gc (RC1h.out j u hj)
            obtain ⟨Ac, cc, rfl⟩ := own_slice hoc
            have OC := Lib.hid hoc
            clear gc hgc hoc OAb
            go_wp2_with (at_builtin; refine (wpList_append_own_at _ rfl (.tmp 205) (.tmp 206) 43 rfl wr.heap.size 47 i0 _ 2 32 Try.underlying43 hi0 hz0 hz1 hz2 rfl (by decide) (.slice Ac ra.length cc) ra.length (prv ra) rfl OC.out adb (rb.length - 1) (cb - 1) (prv (rb.drop 1)) rfl RDL RC1c.out (prv_one _) (by unfold maxLen; omega) (by omega) Qc.out.size ?_))
            intro vd wd hod hgd _ _
            have Qd : Hid (Below wr.heap.size wr wd) := Qc.out.trans ((Below.refl wr.heap.size wc1).grown hgd Qc.out.size (fun j hj => (OC.out.lt j hj).1))
            have Bd : Hid (Below W0.heap.size W0 wd) := hb.out.trans (Qd.out.mono hb.out.size)
            have RXd := Lib.hid (hrx.out.below Qd.out)
            obtain ⟨Ad, cd, rfl, RDd⟩ : ∃ A c, vd = .slice A X.length c ∧ Hid (RdPr wd A X) := by
              rw [← prv_append, show List.tail rb = rb.drop 1 from List.drop_one.symm, JN] at hod
              obtain ⟨A, c, e1, e2⟩ := lf_own hod 0
              exact ⟨A, c, e1, e2.1⟩
            have SM := Lib.hid (psame_any wd Ad AX cd cX X X RDd.out RXd.out (by omega) (by omega))
            rw [show decide (X = X) = true by simp] at SM
            clear hod hgd
            go_wp2_with fail
            refine SM.out.mono ?_
            rintro e we ⟨rfl, be⟩
            have Be : Hid (Below W0.heap.size W0 we) := Bd.out.trans (be.mono Bd.out.size)
            clear be SM
            go_wp2_with fail
            refine (slives_any _).mono ?_
            rintro e w9 ⟨rfl, b9⟩
            have B9 : Hid (Below w.heap.size w w9) := Q0h.out.trans ((Be.out.trans (b9.mono Be.out.size)).mono Q0h.out.size)
            clear b9
            go_wp2
            go_ret
            exact ⟨rfl, B9.out⟩
theorem shelfRanges_w (w : World) (v1 : Value) (l : List SOp) (h1 : RdSOps w v1 l) (v2 : Value) (e : ByteArray × ByteArray × ByteArray) (h2 : v2 = .agg #[.string e.1, .string e.2.1, .string e.2.2]) (most : Int) (_ : (Lit.int .i64 most).wf = true) :
    Calls Try.prog 4 #[v1, v2, .int .i64 most] w fun e w' => e = .returned (.bool true) ∧ Below w.heap.size w w' := by
  subst h2
  exact shelfRanges_walk w v1 l h1 e.1 e.2.1 e.2.2 most
end Go.Proofs.Ytoolkamajlgcbaa
