/- PtB: the walk of ExtentPlans (written by gen_plans2.py). -/
import Derived.Test.YthloinmnojlleaaPtA
import Derived.Test.YthloinmnojlleaaNumC
import Derived.Deep.Cut
import Derived.Deep.CutRange
import Derived.Deep.DeepCutAuto
import Derived.Deep.CutBlock
set_option linter.unusedVariables false
set_option linter.unusedSimpArgs false
namespace Go.Proofs.Ythloinmnojlleaa
open Go.RowKit

theorem conv_bytes (w' : World) (b o c : Nat) (l : List UInt8) (h : Hid (∀ j (hj : j < l.length), w'.cell? ⟨b, o + j, none⟩ = some (.int .u8 (l[j].toNat : Int)))) : (convert 40 9 (.slice (some ⟨b, o, none⟩) l.length c)).run Try.prog w' = .ok (.string ⟨l.toArray⟩) w' :=
  run_convert_bytes_back (P := Try.prog) w' 40 9 5 ⟨b, o, none⟩ c l Try.underlying40 Try.underlying5 Try.underlying9 (fun j hj => by have := h.out j hj; simpa [Addr.add_lit] using this)
theorem count_set (l : List (Nat × Nat)) (i : Nat) (h : i < l.length) (a b : Nat × Nat) : (l.set i a).count b + [l[i]].count b = l.count b + [a].count b := by
  have h1 : l.Perm (l[i] :: (l.take i ++ l.drop (i + 1))) := by
    have e : l = l.take i ++ l[i] :: l.drop (i + 1) := by rw [List.getElem_cons_drop h, List.take_append_drop]
    conv => lhs; rw [e]
    exact List.perm_middle
  have h2 : (l.set i a).Perm (a :: (l.take i ++ l.drop (i + 1))) := by
    rw [List.set_eq_take_append_cons_drop, if_pos h]
    exact List.perm_middle
  rw [h1.count_eq, h2.count_eq, List.count_cons, List.count_cons, List.count_cons, List.count_cons, List.count_nil]
  omega
theorem swap_perm (l : List (Nat × Nat)) (i j : Nat) (hi : i < l.length) (hj : j < l.length) : ((l.set i l[j]).set j l[i]).Perm l := by
  refine List.perm_iff_count.2 (fun b => ?_)
  have h1 := count_set l i hi l[j] b
  have h2 := count_set (l.set i l[j]) j (by rw [List.length_set]; exact hj) l[i] b
  have e : (l.set i l[j])[j]'(by rw [List.length_set]; exact hj) = l[j] := by
    rw [List.getElem_set]
    split
    · rfl
    · rfl
  rw [e] at h2
  omega
/-- The area, byte by byte. -/
def fl (n : Nat) : Nat → List Nat
  | 0 => List.replicate n 0
  | k + 1 => (fl n k).set k k
theorem fl_length (n : Nat) : ∀ k, (fl n k).length = n
  | 0 => by simp [fl]
  | k + 1 => by rw [fl, List.length_set, fl_length n k]
theorem fl_get {n : Nat} : ∀ {k : Nat}, k ≤ n → ∀ q, q < k → (fl n k).getD q 0 = q
  | k + 1, hk, q, hq => by
    rw [fl, getD_set (by rw [fl_length]; omega)]
    by_cases e : q = k
    · rw [if_pos e, e]
    · rw [if_neg e, fl_get (by omega) q (by omega)]
theorem mvRun_length (arr : List Nat) (m : Nat × Nat × Nat) : (mvRun arr m).length = arr.length := mvStep_length ..
theorem mvAll_length (arr : List Nat) : ∀ (U : List (Nat × Nat × Nat)), (U.foldl mvRun arr).length = arr.length := by
  intro U
  induction U generalizing arr with
  | nil => rfl
  | cons m U ih => rw [List.foldl_cons, ih, mvRun_length]
theorem mc_get : ∀ (l : List (Nat × Nat × Nat)) (k : Nat) (h : k < l.length), (mc l)[k * 3]? = some (.int .i64 (l[k].1 : Int)) ∧ (mc l)[k * 3 + 1]? = some (.int .i64 (l[k].2.1 : Int)) ∧ (mc l)[k * 3 + 2]? = some (.int .i64 (l[k].2.2 : Int))
  | x :: l, 0, h => ⟨rfl, rfl, rfl⟩
  | x :: l, k + 1, h => by
    have := mc_get l k (by simpa using h)
    rw [show (k + 1) * 3 = k * 3 + 3 by omega]
    simpa [mc] using this
/-- Moves: where they lie. -/
theorem moves_at {w : World} {b : Nat} {v : Value} {U : List (Nat × Nat × Nat)} (h : w.ownsRow b 61 3 v U.length (mc U)) (hp : 0 < U.length) : ∃ g c, v = .slice (some ⟨g, 0, none⟩) U.length c ∧ U.length ≤ c ∧ g < w.heap.size ∧
    ∀ k (hk : k < U.length), w.cell? ⟨g, k * 3, none⟩ = some (.int .i64 (U[k].1 : Int)) ∧ w.cell? ⟨g, k * 3 + 1, none⟩ = some (.int .i64 (U[k].2.1 : Int)) ∧ w.cell? ⟨g, k * 3 + 2, none⟩ = some (.int .i64 (U[k].2.2 : Int)) := by
  rcases h.2 with ⟨_, h0⟩ | ⟨g, c, cur, rfl, _, hg, h1, h2, h3, h4⟩
  · omega
  · have get : ∀ j u, j < U.length * 3 → (mc U)[j]? = some u → w.cell? ⟨g, j, none⟩ = some u := fun j u hj hu => by
      rw [blk_cell hg, ← Array.getElem?_toList, ← List.getElem?_take_of_lt hj, h4, hu]
    refine ⟨g, c, rfl, h1, lt_of_block hg, fun k hk => ?_⟩
    obtain ⟨a1, a2, a3⟩ := mc_get U k hk
    exact ⟨get _ _ (by omega) a1, get _ _ (by omega) a2, get _ _ (by omega) a3⟩

set_option maxHeartbeats 12800000 in
set_option maxRecDepth 100000 in
theorem plans_go (w : World) (n : Nat) (lv ov : Value) (l : List OpE) (ord : List Int) (h1 : 1 ≤ n) (h2 : n ≤ 300) (hl : RdE w lv l) (ho : RdI w ov ord) :
    Calls Try.prog 7 #[.int .i64 n, lv, ov] w fun e w' => e = .returned (.bool true) ∧ Below w.heap.size w w' := by
  obtain ⟨LA, lc, rfl, hlc, hlm, hlops, hlin⟩ := hl
  obtain ⟨OA, oc, rfl, hoc, hom, hocs, hoin⟩ := ho
  have HL := Lib.hid hlops; have HLI := Lib.hid hlin
  have HO := Lib.hid hocs; have HOI := Lib.hid hoin
  have HNN := Lib.hid (And.intro h1 h2)
  have dn3 : decide ((300 : Int) < (n : Int)) = false := by simp; omega
  clear hlops hlin hocs hoin
  go_enter Try.func7, Try.ntmps7
  go_wp2_with fail
  refine (new_yes _ n HNN.out.1 (by have := HNN.out.2; omega)).mono ?_
  rintro e w1 ⟨g, F, v1, rfl, hd, hF, b1⟩
  have M1 : Hid (Mine w w1 [oo none (.slice none 0 0) [], ar F g (Ar.new n)]) := ((Mine.start w).newAr b1 ⟨v1, hd⟩ hF).newOo
  have I1 : Hid (Inv n (Ar.new n) []) := inv_new HNN.out.1 (by have := HNN.out.2; omega)
  clear hd hF b1
  go_upto_block 0 with fail
  go_cut [9] (fun vv wx => ∃ (a : Ar) (F : Nat → Prop) (G : Option Nat) (L : List (Nat × Nat)), L.length ≤ 40 ∧ Hid (Inv n a L) ∧ Hid (Mine w wx [oo G vv L, ar F g a]))
  case first =>
    go_wp2_with fail
    go_loopw [9, 10, 48] (fun vv ii i2 wr => ∃ (k : Nat) (a : Ar) (F : Nat → Prop) (G : Option Nat) (L : List (Nat × Nat)), k ≤ l.length ∧ k ≤ 40 ∧ L.length ≤ k ∧ ii = .int .i64 k ∧ Hid (Inv n a L) ∧ Hid (Mine w wr [oo G vv L, ar F g a])) (fun _ ii _ _ => l.length - (intOf ii).toNat)
    case atStart => exact ⟨0, Ar.new n, F, none, [], Nat.zero_le _, by decide, Nat.le_refl _, rfl, I1, M1⟩
    case round =>
      clear M1 I1 F
      obtain ⟨k, a, F, G, L, hk, hk40, hLk, rfl, II, MM⟩ := hrel
      by_cases hlt : k < l.length ∧ k < 40
      · as_aux_lemma =>
          obtain ⟨hl1, hl2⟩ := hlt
          obtain ⟨b, off, rfl, hops⟩ := HL.out (by omega)
          have hl40 : (k : Int) < 40 := by omega
          have hin := HLI.out l[k] (List.getElem_mem hl1)
          obtain ⟨c0, c1, c2, _, _⟩ := (hops.below MM.out.bel) k hl1
          obtain ⟨vA, vc, rfl, hvc⟩ := (MM.out.oo (l1 := [])).slice
          have D0 : Hid (∀ W, Below w.heap.size w W → W.cell? ⟨b, off + k * 5 + 1, none⟩ = some (.int .i64 l[k].n) ∧ W.cell? ⟨b, off + k * 5 + 2, none⟩ = some (.int .i64 l[k].rule)) := fun W hW => by obtain ⟨_, a1, a2, _, _⟩ := (hops.below hW) k hl1; exact ⟨a1, a2⟩
          have HONI : Hid (I64 l[k].n) := hin.n
          generalize l[k].kind = kd at c0
          generalize l[k].n = on at c1 D0 HONI
          generalize l[k].rule = ru at c2 D0
          clear hops hin
          by_cases q0 : kd = 0
          · as_aux_lemma =>
              by_cases hb : on < 1 ∨ ru < 0 ∨ 4 ≤ ru
              · as_aux_lemma =>
                  have d0 : (kd == 0) = true := by simpa using q0
                  have HB := Lib.hid hb
                  have M9 := Lib.hid MM.out.drew
                  obtain ⟨c1, c2⟩ := D0.out _ M9.out.bel
                  clear q0 hb
                  go_wp2_with fail
                  refine wp_region_flag (fun w' => w'.cell? ⟨b, off + k * 5 + 1, none⟩ = some (.int .i64 on) ∧ w'.cell? ⟨b, off + k * 5 + 2, none⟩ = some (.int .i64 ru)) [(0, 1), (1, 1), (2, 1), (3, 1), (4, 1), (6, 1), (7, 1), (8, 1), (9, 1), (5, 2), (10, 0), (11, 0), (12, 1), (13, 1), (14, 1), (15, 1), (16, 1)] (by kernel_rfl) (by kernel_rfl) ⟨c1, c2⟩ ?_
                  simp only [ordered, List.map_cons, List.map_nil, List.getD_cons_zero, List.getD_cons_succ]
                  repeat (refine wpF_dry (fun K hK => ?_); go_simp; refine hK _ ?_; clear hK K)
                  refine wpF_read (.int .i64 on) rfl (fun w' hS => by obtain ⟨s1, s2⟩ := hS; go_simp) (fun K hK => ?_)
                  go_simp
                  refine hK _ ?_
                  clear hK K
                  refine wpF_do ?_
                  go_wp2_with fail
                  refine ⟨⟨c1, c2⟩, ?_⟩
                  refine wpF_do ?_
                  go_wp2_with fail
                  refine (alloc_bad _ g on ru HB.out).mono ?_
                  rintro e w4 ⟨rfl, rfl⟩
                  go_wp2_with fail
                  refine ⟨⟨c1, c2⟩, ?_⟩
                  repeat (refine wpF_dry (fun K hK => ?_); go_simp; refine hK _ ?_; clear hK K)
                  refine wpF_nil ?_
                  clear c0 c1 c2
                  go_wp2
                  go_roundw
                  case rel => first | exact ⟨k + 1, _, _, _, _, by omega, by omega, by omega, by go_num, II, M9⟩ | ((repeat apply Exists.intro); refine ⟨?_, rfl⟩; exact ⟨k + 1, _, _, _, _, by omega, by omega, by omega, by go_num, II, M9⟩)
                  case measure => simp [intOf]; omega
              · as_aux_lemma =>
                  obtain ⟨m, rfl⟩ := Int.eq_ofNat_of_zero_le (show 0 ≤ on by omega)
                  obtain ⟨r, rfl⟩ := Int.eq_ofNat_of_zero_le (show 0 ≤ ru by omega)
                  have hm1 : 1 ≤ m := by omega
                  have HR : Hid (r < 4) := by unfold Hid; omega
                  have HM1 := Lib.hid hm1
                  have d0 : (kd == 0) = true := by simpa using q0
                  have M9 := Lib.hid MM.out.drew
                  obtain ⟨c1, c2⟩ := D0.out _ M9.out.bel
                  obtain ⟨va, ha⟩ := M9.out.area (l1 := [_])
                  have AL := Lib.hid (alloc_any _ F g a va ha m r hm1 HR.out)
                  clear q0 hb ha hm1
                  go_wp2_with fail
                  refine wp_region_flag (fun w' => w'.cell? ⟨b, off + k * 5 + 1, none⟩ = some (.int .i64 (m : Nat)) ∧ w'.cell? ⟨b, off + k * 5 + 2, none⟩ = some (.int .i64 (r : Nat))) [(0, 1), (1, 1), (2, 1), (3, 1), (4, 1), (6, 1), (7, 1), (8, 1), (9, 1), (5, 2), (10, 0), (11, 0), (12, 1), (13, 1), (14, 1), (15, 1), (16, 1)] (by kernel_rfl) (by kernel_rfl) ⟨c1, c2⟩ ?_
                  simp only [ordered, List.map_cons, List.map_nil, List.getD_cons_zero, List.getD_cons_succ]
                  repeat (refine wpF_dry (fun K hK => ?_); go_simp; refine hK _ ?_; clear hK K)
                  refine wpF_read (.int .i64 (m : Nat)) rfl (fun w' hS => by obtain ⟨s1, s2⟩ := hS; go_simp) (fun K hK => ?_)
                  go_simp
                  refine hK _ ?_
                  clear hK K
                  refine wpF_do ?_
                  go_wp2_with fail
                  refine ⟨⟨c1, c2⟩, ?_⟩
                  refine wpF_do ?_
                  go_wp2_with fail
                  refine AL.out.mono ?_
                  rintro e w4 ht4
                  have hb4 := (M9.out.perm (List.Perm.swap _ _ _)).allocAr ht4
                  rcases hb4 with ⟨hc, rfl, M4⟩ | ⟨j, F', hc, rfl, M4⟩
                  · replace M4 := Lib.hid (M4.perm (List.Perm.swap _ _ _))
                    obtain ⟨c1, c2⟩ := D0.out _ M4.out.bel
                    clear ht4 hc AL
                    go_wp2_with fail
                    refine ⟨⟨c1, c2⟩, ?_⟩
                    repeat (refine wpF_dry (fun K hK => ?_); go_simp; refine hK _ ?_; clear hK K)
                    refine wpF_nil ?_
                    clear c0 c1 c2
                    go_wp2
                    go_roundw
                    case rel => first | exact ⟨k + 1, _, _, _, _, by omega, by omega, by omega, by go_num, II, M4⟩ | ((repeat apply Exists.intro); refine ⟨?_, rfl⟩; exact ⟨k + 1, _, _, _, _, by omega, by omega, by omega, by go_num, II, M4⟩)
                    case measure => simp [intOf]; omega
                  · have h0 := (inv_alloc II.out HM1.out hc II.out.ok.next).2.2
                    have hs0 := II.out.size
                    have IA := inv_alloc II.out HM1.out hc (nx := if r = 3 then (a.holes.getD j (0, 0)).1 + m else a.next) (by split; omega; exact II.out.ok.next)
                    clear h0 hs0
                    have I3 := Lib.hid IA.1
                    replace M4 := Lib.hid (M4.perm (List.Perm.swap _ _ _))
                    obtain ⟨c1, c2⟩ := D0.out _ M4.out.bel
                    generalize (a.holes.getD j (0, 0)).1 = p at M4 I3 ⊢
                    clear ht4 hc AL IA
                    go_wp2_with fail
                    refine ⟨⟨c1, c2⟩, ?_⟩
                    repeat (refine wpF_dry (fun K hK => ?_); go_simp; refine hK _ ?_; clear hK K)
                    refine wpF_nil ?_
                    have M5 : Hid (Below w4.heap.size w4 (w4.alloc (.cells #[.int .i64 (p : Nat), .int .i64 (m : Nat)] 30))) := (Below.refl _ _).alloc (Nat.le_refl _) _
                    have MB := Lib.hid (M4.out.below M5.out)
                    have N2 : Hid (∀ j u, (sp [(p, m)])[j]? = some u → (w4.alloc (.cells #[.int .i64 (p : Nat), .int .i64 (m : Nat)] 30)).cell? ((⟨w4.heap.size, 0, none⟩ : Addr).add j) = some u) := two_new w4 (.int .i64 (p : Nat)) (.int .i64 (m : Nat)) 30
                    clear c0 c2
                    go_wp2_with (at_builtin; refine wpList_append_oo rfl (.tmp 81) (.tmp 89) 28 rfl Try.underlying28 G _ L (p, m) ⟨w4.heap.size, 0, none⟩ rfl rfl (MB.out.oo (l1 := [])) (by omega) N2.out ?_)
                    intro v5 w5 G5 ho5 ht5 hg5
                    have M6 := Lib.hid (MB.out.ooTo (l1 := []) ht5 (fun k hk => (hg5 k hk).imp id (fun h => by rw [World.size_alloc]; exact h)) ho5)
                    clear ho5 ht5 hg5 N2 MB M5 c1
                    obtain ⟨A5, c5, rfl, _⟩ := (M6.out.oo (l1 := [])).slice
                    go_wp2
                    go_roundw
                    case rel => first | exact ⟨k + 1, _, _, _, _, by omega, by omega, by rw [List.length_append, List.length_singleton]; omega, by go_num, I3, M6⟩ | ((repeat apply Exists.intro); refine ⟨?_, rfl⟩; exact ⟨k + 1, _, _, _, _, by omega, by omega, by rw [List.length_append, List.length_singleton]; omega, by go_num, I3, M6⟩)
                    case measure => simp [intOf]; omega
          · as_aux_lemma =>
              by_cases hL0 : L.length = 0
              · obtain rfl := List.eq_nil_of_length_eq_zero (show L.length = 0 by omega)
                have d0 : (kd == 0) = false := by simpa using q0
                clear q0 c1 c2
                go_wp2
                go_roundw
                case rel => first | exact ⟨k + 1, _, _, _, _, by omega, by omega, by simp, by go_num, II, MM⟩ | ((repeat apply Exists.intro); refine ⟨?_, rfl⟩; exact ⟨k + 1, _, _, _, _, by omega, by omega, by simp, by go_num, II, MM⟩)
                case measure => simp [intOf]; omega
              · as_aux_lemma =>
                  have hLp : 0 < L.length := by omega
                  have d0 : (kd == 0) = false := by simpa using q0
                  have d5 : decide ((0 : Int) < (L.length : Int)) = true := by simp; omega
                  have d5' : decide (0 < L.length) = true := by simp; omega
                  have TL := (MM.out.oo (l1 := [])).tail hLp
                  obtain ⟨gg, oo_, cc, hGG, e1, hcc, hcs⟩ := (MM.out.oo (l1 := [])).at_ hLp
                  injection e1 with e1 e2 e3
                  subst e1 e3
                  obtain ⟨z0, z1, _, _⟩ := hcs 0 hLp
                  simp only [Nat.zero_mul, Nat.add_zero] at z0 z1
                  have GE := give_E II.out hLp
                  have I3 := Lib.hid (inv_give II.out hLp)
                  rw [List.take_zero, List.nil_append] at I3
                  have HTL := Lib.hid TL
                  have HGE := Lib.hid GE
                  generalize hx : L[0] = x at z0 z1 HGE I3
                  clear TL GE hcs e2 q0 c1 c2 hx
                  obtain ⟨va, ha⟩ := MM.out.area (l1 := [_])
                  have GA := Lib.hid (give_any wr F g a va ha (x.1 : Nat) (x.2 : Nat))
                  clear ha
                  have hcpos : 0 < vc := by omega
                  by_cases hc1 : vc = 1
                  · subst hc1
                    have hL1 : L.length = 1 := by omega
                    go_wp2_with fail
                    refine GA.out.mono ?_
                    rintro e w4 ⟨rfl, ht⟩
                    rw [HGE.out, if_pos rfl] at ht
                    obtain ⟨F', ht⟩ := ht
                    simp only [Int.toNat_natCast] at ht
                    have M4 := Lib.hid (MM.out.arTo (l1 := [_]) ht)
                    clear ht GA c0
                    have M5 : Hid (Mine w w4 [oo none (.slice (some ⟨gg, oo_, none⟩) 0 0) (L.drop 1), _]) := M4.out.ooTo (l1 := []) (Touch.refl _ _) (fun k hk => by cases hk) (by have := HTL.out.1 (by first | rfl | trivial); rcases this with h | ⟨g', _, _, _, hh, _⟩; exact .inl h; cases hh)
                    go_wp2
                    go_roundw
                    case rel => first | exact ⟨k + 1, _, _, _, _, by omega, by omega, by rw [List.length_drop]; omega, by go_num, I3, M5⟩ | ((repeat apply Exists.intro); refine ⟨?_, rfl⟩; exact ⟨k + 1, _, _, _, _, by omega, by omega, by rw [List.length_drop]; omega, by go_num, I3, M5⟩)
                    case measure => simp [intOf]; omega
                  · have hc2 : 1 < vc := by omega
                    have hL2 : ((L.length : Int) - 1) = ((L.length - 1 : Nat) : Int) := by omega
                    go_wp2_with fail
                    refine GA.out.mono ?_
                    rintro e w4 ⟨rfl, ht⟩
                    rw [HGE.out, if_pos rfl] at ht
                    obtain ⟨F', ht⟩ := ht
                    simp only [Int.toNat_natCast] at ht
                    have M4 := Lib.hid (MM.out.arTo (l1 := [_]) ht)
                    clear ht GA c0
                    have M5 : Hid (Mine w w4 [oo G (.slice (some ⟨gg, oo_ + 2, none⟩) (L.length - 1) (vc - 1)) (L.drop 1), _]) := M4.out.ooTo (l1 := []) (Touch.refl _ _) (fun k hk => .inl hk) (by have := (M4.out.oo (l1 := [])).tail hLp; obtain ⟨g', o', e', h'⟩ := this.2 hc2; injection e' with e'; injection e' with e1 e2; subst e1 e2; exact h')
                    go_wp2
                    go_roundw
                    case rel => first | exact ⟨k + 1, _, _, _, _, by omega, by omega, by rw [List.length_drop]; omega, by go_num, I3, M5⟩ | ((repeat apply Exists.intro); refine ⟨?_, rfl⟩; exact ⟨k + 1, _, _, _, _, by omega, by omega, by rw [List.length_drop]; omega, by go_num, I3, M5⟩)
                    case measure => simp [intOf]; omega
      · as_aux_lemma =>
          have hex : (decide (k < l.length) = true ∧ decide ((k : Int) < 40) = false) ∨ decide (k < l.length) = false := by
            by_cases h : k < l.length
            · exact .inl ⟨by simpa using h, by simp; omega⟩
            · exact .inr (by simpa using h)
          clear hlt
          rcases hex with ⟨e1, e2⟩ | e1
          all_goals
            go_wp2_with fail
            go_meet
            exact ⟨a, F, G, L, by omega, II, MM⟩
  case rest =>
    obtain ⟨a, F, G, L, hL40, II, MM⟩ := hcut
    clear M1 I1
    obtain ⟨vA, vc, rfl, hvc⟩ := (MM.out.oo (l1 := [])).slice
    go_upto_block 2 with fail
    go_cut [13] (fun ii wx => ∃ (L' : List (Nat × Nat)), L'.Perm L ∧ Hid (Mine w wx [oo G (.slice vA L.length vc) L', ar F g a]))
    case first =>
      go_wp2_with fail
      go_loopw [13, 101] (fun ii i2 wr => ∃ (k : Nat) (L' : List (Nat × Nat)), k ≤ ord.length ∧ k ≤ L.length ∧ ii = .int .i64 k ∧ Hid (L'.Perm L) ∧ Hid (Mine w wr [oo G (.slice vA L.length vc) L', ar F g a])) (fun ii _ _ => ord.length - (intOf ii).toNat)
      case atStart => exact ⟨0, L, Nat.zero_le _, Nat.zero_le _, rfl, List.Perm.refl _, MM⟩
      case round =>
        obtain ⟨k, L', hk, hkL, rfl, PL, MM2⟩ := hrel
        by_cases hlt : k < ord.length ∧ k < L.length
        · as_aux_lemma =>
            obtain ⟨hk1, hk2⟩ := hlt
            obtain ⟨b, off, rfl, hoc⟩ := HO.out (by omega)
            have z0 := cell_below MM2.out.bel (hoc k hk1)
            have hlen : L'.length = L.length := PL.out.length_eq
            have HLEN := Lib.hid hlen
            generalize ord[k] = q at z0
            clear hoc hlen
            by_cases hq : 0 ≤ q ∧ q < (L.length : Int)
            · as_aux_lemma =>
                obtain ⟨hq1, hq2⟩ := hq
                obtain ⟨q, rfl⟩ := Int.eq_ofNat_of_zero_le hq1
                have hq3 : q < L.length := by omega
                have MD := Lib.hid MM2.out.drew
                have O0 := MD.out.oo (l1 := [])
                obtain ⟨gg, o1, cc, hGG, e1, hcc, hcs⟩ := O0.at_ (by have := HLEN.out; omega)
                injection e1 with e1 e2 e3
                subst e1 e3 hGG
                rw [← HLEN.out] at O0
                obtain ⟨x0, x1, fx0, fx1⟩ := hcs k (by have := HLEN.out; omega)
                obtain ⟨y0, y1, fy0, fy1⟩ := hcs q (by have := HLEN.out; omega)
                obtain ⟨g7, o7, c7, hG7, e7, _, hcs7⟩ := (MM2.out.oo (l1 := [])).at_ (by have := HLEN.out; omega)
                injection e7 with e7 e7b e7c
                injection e7 with e7
                injection e7 with e7 e8
                subst e7 e8 e7c
                clear e7b
                obtain ⟨xx0, xx1, ffx0, ffx1⟩ := hcs7 k (by have := HLEN.out; omega)
                obtain ⟨yy0, yy1, ffy0, ffy1⟩ := hcs7 q (by have := HLEN.out; omega)
                clear hcs7
                have hkL : k < L'.length := by have := HLEN.out; omega
                have hqL : q < L'.length := by have := HLEN.out; omega
                have OS := O0.set k hkL L'[q]
                have OT := OS.1.set q (by rw [List.length_set]; exact hqL) L'[k]
                have YY : Hid (∀ W, OutO W (some gg) (.slice (some ⟨gg, o1, none⟩) (L'.set k L'[q]).length vc) (L'.set k L'[q]) → W.cell? ⟨gg, o1 + q * 2, none⟩ = some (.int .i64 (L'[q].1 : Int)) ∧ W.cell? ⟨gg, o1 + q * 2 + 1, none⟩ = some (.int .i64 (L'[q].2 : Int)) ∧ W.frozen? ⟨gg, o1 + q * 2, none⟩ = false ∧ W.frozen? ⟨gg, o1 + q * 2 + 1, none⟩ = false) := fun W hW => by
                  obtain ⟨g', o', c', _, e', _, hh⟩ := hW.at_ (by rw [List.length_set]; omega)
                  injection e' with e' _ _
                  injection e' with e'
                  injection e' with e1 e2
                  subst e1 e2
                  have h := hh q (by rw [List.length_set]; exact hqL)
                  have e : (L'.set k L'[q])[q]'(by rw [List.length_set]; exact hqL) = L'[q] := by rw [List.getElem_set]; split <;> rfl
                  rw [e] at h
                  exact h
                have M9 := Lib.hid (MD.out.ooTo (l1 := []) (OS.2.trans OT.2 (fun _ _ h => h)) (fun k hk => .inl hk) OT.1)
                rw [List.length_set, List.length_set, HLEN.out] at M9
                have P9 : Hid (((L'.set k L'[q]).set q L'[k]).Perm L) := (swap_perm L' k q hkL hqL).trans PL.out
                have YS := Lib.hid (YY.out _ OS.1)
                have O7 := MM2.out.oo (l1 := [])
                rw [← HLEN.out] at O7
                have YS7 := Lib.hid (YY.out _ (O7.set k hkL L'[q]).1)
                clear O7
                have d2 : decide (k < L.length) = true := by simpa using hk2
                have d3 : decide (q < L.length) = true := by simpa using hq3
                clear O0 OS OT YY hq1
                generalize L'.set k L'[q] = L1 at M9 P9
                generalize L1.set q L'[k] = L2 at M9 P9
                generalize L'[k] = x at x0 x1 xx0 xx1 M9
                generalize L'[q] = y at y0 y1 yy0 yy1 M9 YS YS7
                clear hcs hkL hqL HLEN
                try clear e2
                try clear hq2
                go_wp2_with fail
                refine wp_region_last (fun w' => w'.cell? ⟨gg, o1 + q * 2, none⟩ = some (.int .i64 (y.1 : Int)) ∧ w'.cell? ⟨gg, o1 + q * 2 + 1, none⟩ = some (.int .i64 (y.2 : Int))) [(0, 1), (1, 1), (2, 1), (3, 1), (4, 1), (5, 1), (6, 1), (8, 1), (9, 1), (10, 1), (7, 2), (11, 0), (12, 1), (13, 0), (14, 1)] 15 (by kernel_rfl) (by kernel_rfl) ⟨y0, y1⟩ ?_
                repeat (refine wpL_dry (fun K hK => ?_); simp only [List.getD_cons_zero, List.getD_cons_succ]; go_simp; refine hK _ ?_; clear hK K)
                refine wpL_read (.agg #[.int .i64 (y.1 : Int), .int .i64 (y.2 : Int)]) rfl (fun w' hS => by obtain ⟨s1, s2⟩ := hS; simp only [List.getD_cons_zero, List.getD_cons_succ]; go_simp) (fun K hK => ?_)
                simp only [List.getD_cons_zero, List.getD_cons_succ]
                go_simp
                refine hK _ ?_
                clear hK K
                refine wpL_do ?_
                simp only [List.getD_cons_zero, List.getD_cons_succ]
                go_wp2_with fail
                refine ⟨⟨y0, y1⟩, ?_⟩
                repeat (refine wpL_dry (fun K hK => ?_); simp only [List.getD_cons_zero, List.getD_cons_succ]; go_simp; refine hK _ ?_; clear hK K)
                refine wpL_do ?_
                simp only [List.getD_cons_zero, List.getD_cons_succ]
                go_wp2_with fail
                obtain ⟨q0, q1, qf0, qf1⟩ := YS.out
                obtain ⟨qq0, qq1, qqf0, qqf1⟩ := YS7.out
                refine ⟨⟨q0, q1⟩, ?_⟩
                repeat (refine wpL_dry (fun K hK => ?_); simp only [List.getD_cons_zero, List.getD_cons_succ]; go_simp; refine hK _ ?_; clear hK K)
                refine wpL_last ?_
                simp only [List.getD_cons_zero, List.getD_cons_succ]
                go_wp2_with fail
                refine ⟨trivial, ?_⟩
                clear x0 x1 y0 y1 xx0 xx1 yy0 yy1 q0 q1 qf0 qf1 qq0 qq1 qqf0 qqf1 YS7 fx0 fx1 fy0 fy1 ffx0 ffx1 ffy0 ffy1 YS
                go_wp2
                go_roundw
                case rel => first | exact ⟨k + 1, L2, by omega, by omega, by go_num, P9, M9⟩ | ((repeat apply Exists.intro); refine ⟨?_, rfl⟩; exact ⟨k + 1, L2, by omega, by omega, by go_num, P9, M9⟩)
                case measure => simp [intOf]; omega
            · as_aux_lemma =>
                have hex : decide (0 ≤ q) = false ∨ (decide (0 ≤ q) = true ∧ decide (q < (L.length : Int)) = false) := by
                  by_cases h : 0 ≤ q
                  · exact .inr ⟨by simpa using h, by simp; omega⟩
                  · exact .inl (by simpa using h)
                clear hq
                rcases hex with d | ⟨d, d2⟩
                all_goals
                  go_wp2
                  go_roundw
                  case rel => first | exact ⟨k + 1, L', by omega, by omega, by go_num, PL, MM2⟩ | ((repeat apply Exists.intro); refine ⟨?_, rfl⟩; exact ⟨k + 1, L', by omega, by omega, by go_num, PL, MM2⟩)
                  case measure => simp [intOf]; omega
        · as_aux_lemma =>
            have hex : decide (k < ord.length) = false ∨ (decide (k < ord.length) = true ∧ decide (k < L.length) = false) := by
              by_cases h : k < ord.length
              · exact .inr ⟨by simpa using h, by simp; omega⟩
              · exact .inl (by simpa using h)
            clear hlt
            rcases hex with d | ⟨d, d2⟩
            all_goals
              go_wp2_with fail
              go_meet
              exact ⟨L', PL.out, MM2⟩
    case rest =>
      obtain ⟨L', PL, MM2⟩ := hcut
      have I2 := Lib.hid (inv_perm II.out PL.symm)
      have HLEN : Hid (L'.length = L.length) := PL.length_eq
      have hL40' : L'.length ≤ 40 := by rw [HLEN.out]; exact hL40
      clear II MM PL
      have hLp : 0 < a.enc.length := by unfold Ar.enc; have := putN_pos a.size; simp; omega
      obtain ⟨va, ha⟩ := MM2.out.area (l1 := [_])
      have EN := Lib.hid (enc_any _ F g a va ha)
      clear ha
      go_wp2_with fail
      refine EN.out.mono ?_
      rintro e w4 ⟨v4, rfl, ho, b4⟩
      have M4 := Lib.hid (MM2.out.below b4)
      obtain ⟨b3, o3, c3, rfl, _, hc3⟩ := ho.rd.at_ hLp
      have CV := conv_bytes w4 b3 o3 c3 a.enc hc3
      clear ho b4 hc3 EN MM2
      obtain ⟨va, ha⟩ := M4.out.area (l1 := [_])
      obtain ⟨b, off, hA0, hrd⟩ : ∃ b off, (0 < L'.length → vA = some ⟨b, off, none⟩) ∧ ∀ (j : Nat) (h : j < L'.length), w4.cell? ⟨b, off + j * 2, none⟩ = some (.int .i64 (L'[j].1 : Int)) ∧ w4.cell? ⟨b, off + j * 2 + 1, none⟩ = some (.int .i64 (L'[j].2 : Int)) := by
        rcases Nat.eq_zero_or_pos L'.length with h0 | h0
        · exact ⟨0, 0, fun h => absurd h (by omega), fun j h => absurd h (by omega)⟩
        · obtain ⟨b, off, c, _, e, _, h⟩ := (M4.out.oo (l1 := [])).at_ h0
          injection e with e
          exact ⟨b, off, fun _ => e, fun j hj => ⟨(h j hj).1, (h j hj).2.1⟩⟩
      have PY := Lib.hid (plan_yes w4 F g a va ha vA b off vc L' (by omega) hA0 hrd (fun x hx => by rw [I2.out.size]; exact I2.out.inn x hx))
      rw [HLEN.out] at PY
      clear ha hA0 hrd
      go_wp2_with fail
      clear CV
      refine PY.out.mono ?_
      rintro e w5 ⟨⟨M, pm, om, hres⟩, b5⟩
      rcases hres with ⟨_, v5, rfl, ho5⟩ | ⟨⟨i, hi, hbad⟩, _⟩
      · as_aux_lemma =>
          have M5 := Lib.hid (M4.out.newMp b5 ho5)
          have HCH : Hid (Chn n 0 M) := by
            have h := inv_perm I2.out pm.symm
            exact chn_of om h.pair h.inn (fun _ _ => Nat.zero_le _)
          have PM := Lib.hid pm
          have hUl : (mvs 0 M).length ≤ 40 := by have := mvs_len 0 M; have := pm.length_eq; omega
          have MIN : Hid (∀ m ∈ mvs 0 M, 1 ≤ m.2.2 ∧ m.1 + m.2.2 ≤ n ∧ m.2.1 + m.2.2 ≤ n) := mvs_in HCH.out (Nat.le_refl _)
          have MV : Hid (∀ i (hi : i < M.length), ∀ t, t < M[i].2 → ((mvs 0 M).foldl mvRun (fl n n)).getD (sm (M.take i) + t) 0 = M[i].1 + t) := fun i hi t ht => by
            have := (moved M 0 0 (fl n n) HCH.out (Nat.le_refl _) (fl_length n n) (fun q _ hq => fl_get (Nat.le_refl _) q hq)).2.2 i hi t ht
            rwa [Nat.zero_add] at this
          obtain ⟨Um, hUm⟩ : ∃ Um, mvs 0 M = Um := ⟨_, rfl⟩
          obtain ⟨Av, cv, rfl⟩ := own_slice ho5
          rw [hUm] at M5 hUl MIN MV ⊢
          have HML : Hid (M.length = L'.length) := pm.length_eq
          clear b5 ho5 pm om PY M4 hUm
          obtain ⟨va, ha⟩ := M5.out.area (l1 := [_, _])
          have EN := Lib.hid (enc_any _ F g a va ha)
          clear ha
          go_wp2_with fail
          refine EN.out.mono ?_
          rintro e w6 ⟨v6, rfl, ho, b6⟩
          have M6 := Lib.hid (M5.out.below b6)
          obtain ⟨b3', o3', c3', rfl, _, hc3⟩ := ho.rd.at_ hLp
          have CV := conv_bytes w6 b3' o3' c3' a.enc hc3
          clear ho b6 hc3 EN M5
          have hmk : ∀ W : World, (Instr.makeSlice 59 (.int .i64 (n : Int)) (.int .i64 (n : Int))).run Try.prog W = .ok (.slice (some ⟨W.heap.size, 0, none⟩) n n) (W.alloc (.cells (madeCells #[.int .i64 0] n) 3)) := by
            intro W
            exact run_make_row' 59 3 (.int .i64 0) 8 Try.underlying59 infoI rfl .i64 .i64 n (by have := HNN.out.2; omega) (by have := HNN.out.2; omega) W
          have M7 := Lib.hid (M6.out.newRi n)
          go_wp2_with fail
          clear CV hmk
          go_loopw [19, 159] (fun ii i2 wr => ∃ k : Nat, k ≤ n ∧ ii = .int .i64 k ∧ Hid (Mine w wr [ri w6.heap.size (fl n k), mp (.slice Av Um.length cv) Um, oo G (.slice vA L.length vc) L', ar F g a])) (fun ii _ _ => n - (intOf ii).toNat)
          case atStart => exact ⟨0, Nat.zero_le _, rfl, M7⟩
          case round =>
            obtain ⟨k, hk, rfl, M8⟩ := hrel
            clear M7
            by_cases hlt : k < n
            · as_aux_lemma =>
                obtain ⟨z0, zf⟩ := M8.out.riAt (l1 := []) k (by rw [fl_length]; exact hlt)
                have M9 : Hid (Mine w (wr.setCell ⟨w6.heap.size, k, none⟩ (.int .i64 (k : Nat))) [ri w6.heap.size (fl n (k + 1)), mp (.slice Av Um.length cv) Um, oo G (.slice vA L.length vc) L', ar F g a]) := M8.out.riSet (l1 := []) k k
                go_wp2
                go_roundw
                case rel => first | exact ⟨k + 1, hlt, by go_num, M9⟩ | ((repeat apply Exists.intro); refine ⟨?_, rfl⟩; exact ⟨k + 1, hlt, by go_num, M9⟩)
                case measure => simp [intOf]; omega
            · as_aux_lemma =>
                have hkn : n = k := by omega
                subst hkn
                clear hlt hk
                go_wp2_with fail
                go_loopw [20, 168] (fun ii i2 wr => ∃ p : Nat, p ≤ Um.length ∧ ii = .int .i64 p ∧ Hid (Mine w wr [ri w6.heap.size ((Um.take p).foldl mvRun (fl n n)), mp (.slice Av Um.length cv) Um, oo G (.slice vA L.length vc) L', ar F g a])) (fun ii _ _ => Um.length - (intOf ii).toNat)
                case atStart => exact ⟨0, Nat.zero_le _, rfl, M8⟩
                case round =>
                  obtain ⟨p, hp, rfl, M9⟩ := hrel
                  clear M8
                  by_cases hlt : p < Um.length
                  · as_aux_lemma =>
                      obtain ⟨gm, cm, e1, hcm, _, hms⟩ := moves_at (M9.out.mp (l1 := [_])) (by omega)
                      injection e1 with e1 e2 e3
                      subst e1 e3
                      obtain ⟨m0, m1, m2⟩ := hms p hlt
                      have mi := MIN.out Um[p] (List.getElem_mem hlt)
                      have TK : Hid (((Um.take (p + 1)).foldl mvRun (fl n n)) = mvRun ((Um.take p).foldl mvRun (fl n n)) Um[p]) := by unfold Hid; rw [List.take_succ_eq_append_getElem hlt, List.foldl_append]; rfl
                      have HARL : Hid (((Um.take p).foldl mvRun (fl n n)).length = n) := by unfold Hid; rw [mvAll_length, fl_length]
                      generalize Um[p] = m at m0 m1 m2 mi TK
                      generalize hARe : ((Um.take p).foldl mvRun (fl n n)) = AR at M9 TK HARL
                      obtain ⟨f, t, z⟩ := m
                      simp only at m0 m1 m2 mi
                      obtain ⟨mi1, mi2, mi3⟩ := mi
                      clear hms e2 hARe
                      obtain ⟨r1, hr1⟩ : ∃ r1 : Nat, (n : Int) - (f : Int) = (r1 : Int) := ⟨n - f, by omega⟩
                      obtain ⟨r2, hr2⟩ : ∃ r2 : Nat, (n : Int) - (t : Int) = (r2 : Int) := ⟨n - t, by omega⟩
                      have hn3 := HNN.out.2
                      have wr1 : IntKind.i64.wrap (r1 : Int) = (r1 : Int) := by rw [IntKind.wrap_i64]; omega
                      have wr2 : IntKind.i64.wrap (r2 : Int) = (r2 : Int) := by rw [IntKind.wrap_i64]; omega
                      have q1 : decide (z < 1) = false := by simp; omega
                      have q1' : decide ((z : Int) < 1) = false := by simp; omega
                      have q2 : decide ((f : Int) < 0) = false := by simp
                      have q3 : decide ((t : Int) < 0) = false := by simp
                      have q4 : decide (r1 < z) = false := by simp; omega
                      have q5 : decide (r2 < z) = false := by simp; omega
                      have q4' : decide ((r1 : Int) < (z : Int)) = false := by simp; omega
                      have q5' : decide ((r2 : Int) < (z : Int)) = false := by simp; omega
                      have MB := Lib.hid (M9.out.newBk wr.heap.size rfl #[.int .i64 (f : Int), .int .i64 (t : Int), .int .i64 (z : Int)] 61)
                      have HZ := Lib.hid (And.intro mi1 (And.intro mi2 mi3))
                      have HTF : Hid (t ≤ f ∨ True) := .inr trivial
                      clear M9
                      go_wp2_with fail
                      clear q1 q1' q2 q3 q4 q5 q4' q5' wr1 wr2 hr1 hr2 m0 m1 m2
                      obtain ⟨bm, hbm⟩ : ∃ bm, bm = wr.heap.size := ⟨_, rfl⟩
                      rw [← hbm] at MB ⊢
                      clear hbm
                      go_loopw [22, 209] (fun ii i2 wz => ∃ j : Nat, j ≤ z ∧ ii = .int .i64 j ∧ Hid (Mine w wz (bk bm #[.int .i64 (f : Int), .int .i64 (t : Int), .int .i64 (z : Int)] 61 :: [ri w6.heap.size (mvStep AR f t j), mp (.slice (some ⟨gm, 0, none⟩) Um.length cv) Um, oo G (.slice vA L.length vc) L', ar F g a]))) (fun ii _ _ => z - (intOf ii).toNat)
                      case atStart => exact ⟨0, Nat.zero_le _, rfl, MB⟩
                      case round =>
                        obtain ⟨j, hj, rfl, MJ⟩ := hrel
                        clear MB
                        have hbb := MJ.out.drew.bk (l1 := [])
                        have y0 := blk_cell hbb 0; have y1 := blk_cell hbb 1; have y2 := blk_cell hbb 2
                        simp only [List.getElem?_toArray, List.getElem?_cons_zero, List.getElem?_cons_succ] at y0 y1 y2
                        have hbb2 := MJ.out.bk (l1 := [])
                        have x2 := blk_cell hbb2 2
                        simp only [List.getElem?_toArray, List.getElem?_cons_zero, List.getElem?_cons_succ] at x2
                        clear hbb hbb2
                        by_cases hjz : j < z
                        · as_aux_lemma =>
                            have hz := HZ.out
                            obtain ⟨fj, hfj⟩ : ∃ fj, fj = f + j := ⟨_, rfl⟩
                            obtain ⟨tj, htj⟩ : ∃ tj, tj = t + j := ⟨_, rfl⟩
                            have e1 : (f : Int) + (j : Int) = (fj : Int) := by omega
                            have e2 : (t : Int) + (j : Int) = (tj : Int) := by omega
                            have hn3 := HNN.out.2
                            have w1' : IntKind.i64.wrap (fj : Int) = (fj : Int) := by rw [IntKind.wrap_i64]; omega
                            have w2' : IntKind.i64.wrap (tj : Int) = (tj : Int) := by rw [IntKind.wrap_i64]; omega
                            have hfn : fj < n := by omega
                            have htn : tj < n := by omega
                            obtain ⟨c0, cf0⟩ := MJ.out.drew.riAt (l1 := [_]) fj (by rw [mvStep_length, HARL.out]; exact hfn)
                            obtain ⟨t0, tf0⟩ := MJ.out.drew.riAt (l1 := [_]) tj (by rw [mvStep_length, HARL.out]; exact htn)
                            have MS : Hid (Mine w (wr.drew.setCell ⟨w6.heap.size, tj, none⟩ (.int .i64 ((mvStep AR f t j).getD fj 0 : Nat))) (bk bm #[.int .i64 (f : Int), .int .i64 (t : Int), .int .i64 (z : Int)] 61 :: [ri w6.heap.size (mvStep AR f t (j + 1)), mp (.slice (some ⟨gm, 0, none⟩) Um.length cv) Um, oo G (.slice vA L.length vc) L', ar F g a])) := by
                              have := MJ.out.drew.riSet (l1 := [_]) tj ((mvStep AR f t j).getD fj 0)
                              rw [mvStep, ← hfj, ← htj]
                              exact this
                            have hb2 := MS.out.bk (l1 := [])
                            have s0 := blk_cell hb2 0; have s1 := blk_cell hb2 1
                            simp only [List.getElem?_toArray, List.getElem?_cons_zero, List.getElem?_cons_succ] at s0 s1
                            have S01 := Lib.hid (And.intro s0 s1)
                            clear hb2 s0 s1 hfj htj hz
                            generalize (mvStep AR f t j).getD fj 0 = vv at c0 MS S01
                            go_wp2_with fail
                            refine wp_region_flag (fun w' => w'.cell? ⟨bm, 0, none⟩ = some (.int .i64 (f : Int)) ∧ w'.cell? ⟨bm, 1, none⟩ = some (.int .i64 (t : Int))) [(0, 1), (1, 1), (3, 1), (5, 1), (6, 1), (8, 1), (2, 2), (4, 1), (7, 0), (9, 1), (10, 1), (11, 0), (12, 1), (13, 0)] (by kernel_rfl) (by kernel_rfl) ⟨y0, y1⟩ ?_
                            simp only [ordered, List.map_cons, List.map_nil, List.getD_cons_zero, List.getD_cons_succ]
                            repeat (refine wpF_dry (fun K hK => ?_); go_simp; refine hK _ ?_; clear hK K)
                            refine wpF_read (.int .i64 (t : Int)) rfl (fun w' hS => by obtain ⟨s1, s2⟩ := hS; go_simp) (fun K hK => ?_)
                            go_simp
                            refine hK _ ?_
                            clear hK K
                            repeat (refine wpF_dry (fun K hK => ?_); go_simp; refine hK _ ?_; clear hK K)
                            refine wpF_do ?_
                            go_wp2_with fail
                            refine ⟨⟨y0, y1⟩, ?_⟩
                            repeat (refine wpF_dry (fun K hK => ?_); go_simp; refine hK _ ?_; clear hK K)
                            refine wpF_do ?_
                            go_wp2_with fail
                            refine ⟨⟨y0, y1⟩, ?_⟩
                            repeat (refine wpF_dry (fun K hK => ?_); go_simp; refine hK _ ?_; clear hK K)
                            refine wpF_do ?_
                            go_wp2_with fail
                            obtain ⟨s0, s1⟩ := S01.out
                            refine ⟨⟨s0, s1⟩, ?_⟩
                            refine wpF_nil ?_
                            clear y0 y1 y2 x2 c0 t0 cf0 tf0 s0 s1
                            go_wp2
                            go_roundw
                            case rel => first | exact ⟨j + 1, hjz, by go_num, MS⟩ | ((repeat apply Exists.intro); refine ⟨?_, rfl⟩; exact ⟨j + 1, hjz, by go_num, MS⟩)
                            case measure => simp [intOf]; omega
                        · as_aux_lemma =>
                            obtain rfl : j = z := by omega
                            have M9 := Lib.hid (MJ.out.drop (l1 := []))
                            have M9' : Hid (Mine w wr [ri w6.heap.size ((Um.take (p + 1)).foldl mvRun (fl n n)), mp (.slice (some ⟨gm, 0, none⟩) Um.length cv) Um, oo G (.slice vA L.length vc) L', ar F g a]) := by unfold Hid; rw [TK.out]; exact M9.out
                            clear y0 y1 y2
                            go_wp2
                            go_roundw
                            case rel => first | exact ⟨p + 1, hlt, by go_num, M9'⟩ | ((repeat apply Exists.intro); refine ⟨?_, rfl⟩; exact ⟨p + 1, hlt, by go_num, M9'⟩)
                            case measure => simp [intOf]; omega
                  · as_aux_lemma =>
                      obtain rfl : p = Um.length := by omega
                      rw [List.take_length] at M9
                      obtain ⟨AR, hAR⟩ : ∃ AR, AR = Um.foldl mvRun (fl n n) := ⟨_, rfl⟩
                      have HARL : Hid (AR.length = n) := by unfold Hid; rw [hAR, mvAll_length, fl_length]
                      rw [← hAR] at M9 MV
                      clear hAR MIN
                      clear hlt hp
                      go_wp2_with fail
                      go_loopw [23, 24, 228] (fun av ni n2 wr => ∃ p : Nat, p ≤ M.length ∧ ni = .int .i64 p ∧ av = .int .i64 (sm (M.take p) : Nat) ∧ Hid (Mine w wr [ri w6.heap.size AR, mp (.slice Av Um.length cv) Um, oo G (.slice vA L.length vc) L', ar F g a])) (fun _ ni _ _ => M.length - (intOf ni).toNat)
                      case atStart => exact ⟨0, Nat.zero_le _, rfl, rfl, M9⟩
                      case round =>
                        obtain ⟨p, hp, rfl, rfl, MA⟩ := hrel
                        clear M9
                        have hn3 := HNN.out.2
                        by_cases hlt : p < M.length
                        · as_aux_lemma =>
                            have dpl : decide (p < L.length) = true := by have := HML.out; have := HLEN.out; simp; omega
                            have hpl : p < L.length := by have := HML.out; have := HLEN.out; omega
                            have LE := Lib.hid (least_is HCH.out PM.out MV.out p hlt)
                            have MVp := Lib.hid (MV.out p hlt)
                            have CG := chn_get HCH.out p hlt
                            rw [Nat.zero_add] at CG
                            have SNx : Hid (sm (M.take (p + 1)) = sm (M.take p) + M[p].2) := by unfold Hid; rw [List.take_succ_eq_append_getElem hlt, sm_snoc]
                            generalize M[p] = x at LE MVp CG SNx
                            generalize sm (M.take p) = at_ at LE MVp CG SNx ⊢
                            obtain ⟨cg1, cg2, cg3⟩ := CG
                            have HCG := Lib.hid (And.intro cg1 (And.intro cg2 cg3))
                            have MB := Lib.hid (MA.out.newBk wr.heap.size rfl #[.int .i64 (n : Int), .int .i64 0] 30)
                            clear MA
                            go_wp2_with fail
                            obtain ⟨bm, hbm⟩ : ∃ bm, bm = wr.heap.size := ⟨_, rfl⟩
                            rw [← hbm] at MB ⊢
                            clear hbm
                            go_loopw [26, 236] (fun ii i2 wz => ∃ j : Nat, j ≤ L'.length ∧ ii = .int .i64 j ∧ Hid (Mine w wz (bk bm #[.int .i64 ((leastK n L' (okAt AR at_) j).1 : Int), .int .i64 ((leastK n L' (okAt AR at_) j).2 : Int)] 30 :: [ri w6.heap.size AR, mp (.slice Av Um.length cv) Um, oo G (.slice vA L.length vc) L', ar F g a]))) (fun ii _ _ => L'.length - (intOf ii).toNat)
                            case atStart => exact ⟨0, Nat.zero_le _, rfl, MB⟩
                            case round =>
                              obtain ⟨j, hj, rfl, MJ⟩ := hrel
                              clear MB
                              by_cases hjl : j < L'.length
                              · as_aux_lemma =>
                                  have hjL : j < L.length := by have := HLEN.out; omega
                                  obtain ⟨gg, o1, cc, hGG, e1, hcc, hcs⟩ := (MJ.out.drew.oo (l1 := [_, _, _])).at_ (by omega)
                                  injection e1 with e1 e2 e3
                                  subst e1 e3 hGG
                                  obtain ⟨p0, p1, _, _⟩ := hcs j hjl
                                  have STEP : Hid (leastK n L' (okAt AR at_) (j + 1) = if L'[j].1 < (leastK n L' (okAt AR at_) j).1 ∧ okAt AR at_ L'[j] = true then L'[j] else leastK n L' (okAt AR at_) j) := by unfold Hid; rw [leastK, getD_get hjl]
                                  have hyn := I2.out.inn L'[j] (List.getElem_mem hjl)
                                  have hbb := MJ.out.drew.bk (l1 := [])
                                  have m0 := blk_cell hbb 0; have m1 := blk_cell hbb 1; have mf0 := blk_free hbb 0; have mf1 := blk_free hbb 1
                                  simp only [List.getElem?_toArray, List.getElem?_cons_zero, List.getElem?_cons_succ] at m0 m1
                                  have hbw := MJ.out.bk (l1 := [])
                                  have mm0 := blk_cell hbw 0; have mm1 := blk_cell hbw 1; have mmf0 := blk_free hbw 0; have mmf1 := blk_free hbw 1
                                  simp only [List.getElem?_toArray, List.getElem?_cons_zero, List.getElem?_cons_succ] at mm0 mm1
                                  clear hbw
                                  generalize L'[j] = y at p0 p1 STEP hyn
                                  generalize hls : leastK n L' (okAt AR at_) j = ls at MJ STEP m0 m1 mm0 mm1
                                  clear hcs e2 hbb hls
                                  have hjc : j < vc := by omega
                                  by_cases c1 : y.1 < ls.1
                                  · as_aux_lemma =>
                                      by_cases c2 : at_ = 0
                                      · as_aux_lemma =>
                                          have d1 : decide (y.1 < ls.1) = true := by simpa using c1
                                          have d1' : decide ((y.1 : Int) < (ls.1 : Int)) = true := by simp; omega
                                          have hok : okAt AR at_ y = true := by unfold okAt; rw [decide_eq_true c2, Bool.true_or]
                                          have d2 : (at_ == 0) = true := by simpa using c2
                                          have d2' : ((at_ : Int) == 0) = true := by simp; omega
                                          have HC2 := Lib.hid c2
                                          clear c2
                                          have EQ : Hid (leastK n L' (okAt AR at_) (j + 1) = y) := by unfold Hid; rw [STEP.out, if_pos ⟨c1, hok⟩]
                                          have MK : Hid (Mine w ((wr.drew.setCell ⟨bm, 0, none⟩ (.int .i64 (y.1 : Int))).setCell ⟨bm, 1, none⟩ (.int .i64 (y.2 : Int))) (bk bm #[.int .i64 ((leastK n L' (okAt AR at_) (j + 1)).1 : Int), .int .i64 ((leastK n L' (okAt AR at_) (j + 1)).2 : Int)] 30 :: [ri w6.heap.size AR, mp (.slice Av Um.length cv) Um, oo (some gg) (.slice (some ⟨gg, o1, none⟩) L.length vc) L', ar F g a])) := by unfold Hid; rw [EQ.out]; exact MJ.out.drew.setBk2 (l1 := [])
                                          clear STEP EQ c1 hok
                                          go_wp2_with fail
                                          refine wp_region_flag (fun w' => w'.cell? ⟨gg, o1 + j * 2, none⟩ = some (.int .i64 (y.1 : Int)) ∧ w'.cell? ⟨bm, 0, none⟩ = some (.int .i64 (ls.1 : Int))) [(0, 1), (1, 1), (2, 1), (3, 1), (5, 1), (4, 2), (6, 0), (7, 1), (8, 1), (9, 1), (10, 1), (11, 1), (12, 1), (13, 1), (14, 1), (15, 1), (17, 1), (18, 1), (19, 1), (20, 1), (16, 2), (21, 0), (22, 1), (23, 1), (24, 1)] (by kernel_rfl) (by kernel_rfl) ⟨p0, m0⟩ ?_
                                          simp only [ordered, List.map_cons, List.map_nil, List.getD_cons_zero, List.getD_cons_succ]
                                          repeat (refine wpF_dry (fun K hK => ?_); go_simp; refine hK _ ?_; clear hK K)
                                          refine wpF_read (.int .i64 (y.1 : Int)) rfl (fun w' hS => by obtain ⟨s1, s2⟩ := hS; go_simp) (fun K hK => ?_)
                                          go_simp
                                          refine hK _ ?_
                                          clear hK K
                                          refine wpF_do ?_
                                          go_wp2_with fail
                                          refine ⟨⟨p0, m0⟩, ?_⟩
                                          repeat (refine wpF_dry (fun K hK => ?_); go_simp; refine hK _ ?_; clear hK K)
                                          refine wpF_skip (fun K hK => ?_)
                                          go_simp
                                          first | refine hK _ ?_ | refine ⟨(fun hh => by cases hh), hK _ ?_⟩
                                          clear hK K
                                          refine wpF_do ?_
                                          go_wp2_with fail
                                          refine ⟨⟨p0, m0⟩, ?_⟩
                                          repeat (refine wpF_dry (fun K hK => ?_); go_simp; refine hK _ ?_; clear hK K)
                                          refine wpF_nil ?_
                                          go_wp2
                                          go_roundw
                                          case rel => first | exact ⟨j + 1, hjl, by go_num, MK⟩ | ((repeat apply Exists.intro); refine ⟨?_, rfl⟩; exact ⟨j + 1, hjl, by go_num, MK⟩)
                                          case measure => simp [intOf]; omega
                                      · as_aux_lemma =>
                                          have d2 : (at_ == 0) = false := by simpa using c2
                                          have d2' : ((at_ : Int) == 0) = false := by simp; omega
                                          obtain ⟨ap, hap⟩ : ∃ ap : Nat, ap = at_ - 1 := ⟨_, rfl⟩
                                          have e1 : (at_ : Int) - 1 = (ap : Int) := by omega
                                          have ew : IntKind.i64.wrap (ap : Int) = (ap : Int) := by rw [IntKind.wrap_i64]; omega
                                          have apn : ap < n := by omega
                                          obtain ⟨a0, _⟩ := MJ.out.drew.riAt (l1 := [_]) ap (by rw [HARL.out]; exact apn)
                                          have OKE : Hid (okAt AR at_ y = decide (AR.getD ap 0 < y.1)) := by unfold Hid okAt; rw [decide_eq_false c2, Bool.false_or, hap]
                                          generalize AR.getD ap 0 = av at a0 OKE
                                          have HC2 := Lib.hid c2
                                          clear hap c2
                                          by_cases c3 : av < y.1
                                          · as_aux_lemma =>
                                              have hok : okAt AR at_ y = true := by rw [OKE.out, decide_eq_true c3]
                                              have d3 : decide (av < y.1) = true := by simpa using c3
                                              have d3' : decide ((av : Int) < (y.1 : Int)) = true := by simp; omega
                                              have d1 : decide (y.1 < ls.1) = true := by simpa using c1
                                              have d1' : decide ((y.1 : Int) < (ls.1 : Int)) = true := by simp; omega
                                              clear c3 OKE
                                              have EQ : Hid (leastK n L' (okAt AR at_) (j + 1) = y) := by unfold Hid; rw [STEP.out, if_pos ⟨c1, hok⟩]
                                              have MK : Hid (Mine w ((wr.drew.setCell ⟨bm, 0, none⟩ (.int .i64 (y.1 : Int))).setCell ⟨bm, 1, none⟩ (.int .i64 (y.2 : Int))) (bk bm #[.int .i64 ((leastK n L' (okAt AR at_) (j + 1)).1 : Int), .int .i64 ((leastK n L' (okAt AR at_) (j + 1)).2 : Int)] 30 :: [ri w6.heap.size AR, mp (.slice Av Um.length cv) Um, oo (some gg) (.slice (some ⟨gg, o1, none⟩) L.length vc) L', ar F g a])) := by unfold Hid; rw [EQ.out]; exact MJ.out.drew.setBk2 (l1 := [])
                                              clear STEP EQ c1 hok
                                              go_wp2_with fail
                                              refine wp_region_flag (fun w' => w'.cell? ⟨gg, o1 + j * 2, none⟩ = some (.int .i64 (y.1 : Int)) ∧ w'.cell? ⟨bm, 0, none⟩ = some (.int .i64 (ls.1 : Int)) ∧ w'.cell? ⟨w6.heap.size, ap, none⟩ = some (.int .i64 (av : Int))) [(0, 1), (1, 1), (2, 1), (3, 1), (5, 1), (4, 2), (6, 0), (7, 1), (8, 1), (9, 1), (10, 1), (11, 1), (12, 1), (13, 1), (14, 1), (15, 1), (17, 1), (18, 1), (19, 1), (20, 1), (16, 2), (21, 0), (22, 1), (23, 1), (24, 1)] (by kernel_rfl) (by kernel_rfl) ⟨p0, m0, a0⟩ ?_
                                              simp only [ordered, List.map_cons, List.map_nil, List.getD_cons_zero, List.getD_cons_succ]
                                              repeat (refine wpF_dry (fun K hK => ?_); go_simp; refine hK _ ?_; clear hK K)
                                              refine wpF_read (.int .i64 (y.1 : Int)) rfl (fun w' hS => by obtain ⟨s1, s2, s3⟩ := hS; go_simp) (fun K hK => ?_)
                                              go_simp
                                              refine hK _ ?_
                                              clear hK K
                                              refine wpF_do ?_
                                              go_wp2_with fail
                                              refine ⟨⟨p0, m0, a0⟩, ?_⟩
                                              repeat (refine wpF_dry (fun K hK => ?_); go_simp; refine hK _ ?_; clear hK K)
                                              refine wpF_read (.int .i64 (y.1 : Int)) rfl (fun w' hS => by obtain ⟨s1, s2, s3⟩ := hS; go_simp) (fun K hK => ?_)
                                              go_simp
                                              refine hK _ ?_
                                              clear hK K
                                              refine wpF_do ?_
                                              go_wp2_with fail
                                              refine ⟨⟨p0, m0, a0⟩, ?_⟩
                                              repeat (refine wpF_dry (fun K hK => ?_); go_simp; refine hK _ ?_; clear hK K)
                                              refine wpF_nil ?_
                                              go_wp2
                                              go_roundw
                                              case rel => first | exact ⟨j + 1, hjl, by go_num, MK⟩ | ((repeat apply Exists.intro); refine ⟨?_, rfl⟩; exact ⟨j + 1, hjl, by go_num, MK⟩)
                                              case measure => simp [intOf]; omega
                                          · as_aux_lemma =>
                                              have d3 : decide (av < y.1) = false := by simpa using c3
                                              have d3' : decide ((av : Int) < (y.1 : Int)) = false := by simp; omega
                                              have d1 : decide (y.1 < ls.1) = true := by simpa using c1
                                              have d1' : decide ((y.1 : Int) < (ls.1 : Int)) = true := by simp; omega
                                              have EQ : Hid (leastK n L' (okAt AR at_) (j + 1) = ls) := by unfold Hid; rw [STEP.out, if_neg (fun h => by rw [OKE.out, decide_eq_false c3] at h; cases h.2)]
                                              have MK : Hid (Mine w wr.drew (bk bm #[.int .i64 ((leastK n L' (okAt AR at_) (j + 1)).1 : Int), .int .i64 ((leastK n L' (okAt AR at_) (j + 1)).2 : Int)] 30 :: [ri w6.heap.size AR, mp (.slice Av Um.length cv) Um, oo (some gg) (.slice (some ⟨gg, o1, none⟩) L.length vc) L', ar F g a])) := by unfold Hid; rw [EQ.out]; exact MJ.out.drew
                                              clear STEP EQ OKE c3 c1
                                              go_wp2_with fail
                                              refine wp_region_flag (fun w' => w'.cell? ⟨gg, o1 + j * 2, none⟩ = some (.int .i64 (y.1 : Int)) ∧ w'.cell? ⟨bm, 0, none⟩ = some (.int .i64 (ls.1 : Int)) ∧ w'.cell? ⟨w6.heap.size, ap, none⟩ = some (.int .i64 (av : Int))) [(0, 1), (1, 1), (2, 1), (3, 1), (5, 1), (4, 2), (6, 0), (7, 1), (8, 1), (9, 1), (10, 1), (11, 1), (12, 1), (13, 1), (14, 1), (15, 1), (17, 1), (18, 1), (19, 1), (20, 1), (16, 2), (21, 0), (22, 1), (23, 1), (24, 1)] (by kernel_rfl) (by kernel_rfl) ⟨p0, m0, a0⟩ ?_
                                              simp only [ordered, List.map_cons, List.map_nil, List.getD_cons_zero, List.getD_cons_succ]
                                              repeat (refine wpF_dry (fun K hK => ?_); go_simp; refine hK _ ?_; clear hK K)
                                              refine wpF_read (.int .i64 (y.1 : Int)) rfl (fun w' hS => by obtain ⟨s1, s2, s3⟩ := hS; go_simp) (fun K hK => ?_)
                                              go_simp
                                              refine hK _ ?_
                                              clear hK K
                                              refine wpF_do ?_
                                              go_wp2_with fail
                                              refine ⟨⟨p0, m0, a0⟩, ?_⟩
                                              repeat (refine wpF_dry (fun K hK => ?_); go_simp; refine hK _ ?_; clear hK K)
                                              refine wpF_read (.int .i64 (y.1 : Int)) rfl (fun w' hS => by obtain ⟨s1, s2, s3⟩ := hS; go_simp) (fun K hK => ?_)
                                              go_simp
                                              refine hK _ ?_
                                              clear hK K
                                              refine wpF_do ?_
                                              go_wp2_with fail
                                              refine ⟨⟨p0, m0, a0⟩, ?_⟩
                                              repeat (refine wpF_dry (fun K hK => ?_); go_simp; refine hK _ ?_; clear hK K)
                                              refine wpF_nil ?_
                                              go_wp2
                                              go_roundw
                                              case rel => first | exact ⟨j + 1, hjl, by go_num, MK⟩ | ((repeat apply Exists.intro); refine ⟨?_, rfl⟩; exact ⟨j + 1, hjl, by go_num, MK⟩)
                                              case measure => simp [intOf]; omega
                                  · as_aux_lemma =>
                                      have d1 : decide (y.1 < ls.1) = false := by simpa using c1
                                      have d1' : decide ((y.1 : Int) < (ls.1 : Int)) = false := by simp; omega
                                      have EQ : Hid (leastK n L' (okAt AR at_) (j + 1) = ls) := by unfold Hid; rw [STEP.out, if_neg (fun h => c1 h.1)]
                                      have MK : Hid (Mine w wr.drew (bk bm #[.int .i64 ((leastK n L' (okAt AR at_) (j + 1)).1 : Int), .int .i64 ((leastK n L' (okAt AR at_) (j + 1)).2 : Int)] 30 :: [ri w6.heap.size AR, mp (.slice Av Um.length cv) Um, oo (some gg) (.slice (some ⟨gg, o1, none⟩) L.length vc) L', ar F g a])) := by unfold Hid; rw [EQ.out]; exact MJ.out.drew
                                      clear STEP EQ
                                      go_wp2_with fail
                                      refine wp_region_flag (fun w' => w'.cell? ⟨gg, o1 + j * 2, none⟩ = some (.int .i64 (y.1 : Int)) ∧ w'.cell? ⟨bm, 0, none⟩ = some (.int .i64 (ls.1 : Int))) [(0, 1), (1, 1), (2, 1), (3, 1), (5, 1), (4, 2), (6, 0), (7, 1), (8, 1), (9, 1), (10, 1), (11, 1), (12, 1), (13, 1), (14, 1), (15, 1), (17, 1), (18, 1), (19, 1), (20, 1), (16, 2), (21, 0), (22, 1), (23, 1), (24, 1)] (by kernel_rfl) (by kernel_rfl) ⟨p0, m0⟩ ?_
                                      simp only [ordered, List.map_cons, List.map_nil, List.getD_cons_zero, List.getD_cons_succ]
                                      repeat (refine wpF_dry (fun K hK => ?_); go_simp; refine hK _ ?_; clear hK K)
                                      refine wpF_read (.int .i64 (y.1 : Int)) rfl (fun w' hS => by obtain ⟨s1, s2⟩ := hS; go_simp) (fun K hK => ?_)
                                      go_simp
                                      refine hK _ ?_
                                      clear hK K
                                      refine wpF_do ?_
                                      go_wp2_with fail
                                      refine ⟨⟨p0, m0⟩, ?_⟩
                                      repeat (refine wpF_dry (fun K hK => ?_); go_simp; refine hK _ ?_; clear hK K)
                                      refine wpF_skip (fun K hK => ?_)
                                      go_simp
                                      first | refine hK _ ?_ | refine ⟨(fun hh => by cases hh), hK _ ?_⟩
                                      clear hK K
                                      refine wpF_do ?_
                                      go_wp2_with fail
                                      refine ⟨⟨p0, m0⟩, ?_⟩
                                      repeat (refine wpF_dry (fun K hK => ?_); go_simp; refine hK _ ?_; clear hK K)
                                      refine wpF_nil ?_
                                      go_wp2
                                      go_roundw
                                      case rel => first | exact ⟨j + 1, hjl, by go_num, MK⟩ | ((repeat apply Exists.intro); refine ⟨?_, rfl⟩; exact ⟨j + 1, hjl, by go_num, MK⟩)
                                      case measure => simp [intOf]; omega
                              · as_aux_lemma =>
                                  have hjl2 : j = L'.length := by omega
                                  rw [hjl2, LE.out] at MJ
                                  clear hj hjl
                                  have hjL : j = L.length := by have := HLEN.out; omega
                                  have djl : decide (j < L.length) = false := by simp; omega
                                  have hbb := MJ.out.bk (l1 := [])
                                  have m0 := blk_cell hbb 0; have m1 := blk_cell hbb 1
                                  simp only [List.getElem?_toArray, List.getElem?_cons_zero, List.getElem?_cons_succ] at m0 m1
                                  clear hbb hjl2 hjL LE
                                  obtain ⟨r1, hr1⟩ : ∃ r1 : Nat, (n : Int) - (at_ : Int) = (r1 : Int) := ⟨n - at_, by omega⟩
                                  have wr1 : IntKind.i64.wrap (r1 : Int) = (r1 : Int) := by rw [IntKind.wrap_i64]; omega
                                  have q4 : decide (r1 < x.2) = false := by simp; omega
                                  have q4' : decide ((r1 : Int) < (x.2 : Int)) = false := by simp; omega
                                  go_wp2_with fail
                                  clear q4 q4' wr1 hr1
                                  go_loopw [27, 277] (fun ii i2 wz => ∃ j : Nat, j ≤ x.2 ∧ ii = .int .i64 j ∧ Hid (Mine w wz (bk bm #[.int .i64 (x.1 : Int), .int .i64 (x.2 : Int)] 30 :: [ri w6.heap.size AR, mp (.slice Av Um.length cv) Um, oo G (.slice vA L.length vc) L', ar F g a]))) (fun ii _ _ => x.2 - (intOf ii).toNat)
                                  case atStart => exact ⟨0, Nat.zero_le _, rfl, MJ⟩
                                  case round =>
                                    obtain ⟨i, hi, rfl, MI⟩ := hrel
                                    clear MJ m0 m1
                                    have hbb := MI.out.drew.bk (l1 := [])
                                    have m0 := blk_cell hbb 0; have m1 := blk_cell hbb 1
                                    simp only [List.getElem?_toArray, List.getElem?_cons_zero, List.getElem?_cons_succ] at m0 m1
                                    have hbb2 := MI.out.bk (l1 := [])
                                    have k1 := blk_cell hbb2 1
                                    simp only [List.getElem?_toArray, List.getElem?_cons_zero, List.getElem?_cons_succ] at k1
                                    clear hbb hbb2
                                    by_cases hix : i < x.2
                                    · as_aux_lemma =>
                                        obtain ⟨ai, hai⟩ : ∃ ai, ai = at_ + i := ⟨_, rfl⟩
                                        obtain ⟨xi, hxi⟩ : ∃ xi, xi = x.1 + i := ⟨_, rfl⟩
                                        have e1 : (at_ : Int) + (i : Int) = (ai : Int) := by omega
                                        have e2 : (x.1 : Int) + (i : Int) = (xi : Int) := by omega
                                        have w1' : IntKind.i64.wrap (ai : Int) = (ai : Int) := by rw [IntKind.wrap_i64]; omega
                                        have w2' : IntKind.i64.wrap (xi : Int) = (xi : Int) := by rw [IntKind.wrap_i64]; omega
                                        have hain : ai < n := by omega
                                        obtain ⟨a0, _⟩ := MI.out.drew.riAt (l1 := [_]) ai (by rw [HARL.out]; exact hain)
                                        rw [show AR.getD ai 0 = xi by rw [hai, hxi]; exact MVp.out i hix] at a0
                                        clear hai hxi
                                        go_wp2_with fail
                                        refine wp_region_flag (fun w' => w'.cell? ⟨w6.heap.size, ai, none⟩ = some (.int .i64 (xi : Int)) ∧ w'.cell? ⟨bm, 0, none⟩ = some (.int .i64 (x.1 : Int))) [(0, 1), (1, 1), (2, 1), (3, 1), (4, 1), (6, 1), (8, 1), (5, 2), (7, 0), (9, 1), (10, 1)] (by kernel_rfl) (by kernel_rfl) ⟨a0, m0⟩ ?_
                                        simp only [ordered, List.map_cons, List.map_nil, List.getD_cons_zero, List.getD_cons_succ]
                                        repeat (refine wpF_dry (fun K hK => ?_); go_simp; refine hK _ ?_; clear hK K)
                                        refine wpF_read (.int .i64 (xi : Int)) rfl (fun w' hS => by obtain ⟨s1, s2⟩ := hS; go_simp) (fun K hK => ?_)
                                        go_simp
                                        refine hK _ ?_
                                        clear hK K
                                        refine wpF_do ?_
                                        go_wp2_with fail
                                        refine ⟨⟨a0, m0⟩, ?_⟩
                                        repeat (refine wpF_dry (fun K hK => ?_); go_simp; refine hK _ ?_; clear hK K)
                                        refine wpF_nil ?_
                                        have MI2 := Lib.hid MI.out.drew
                                        clear a0 m0 m1 k1
                                        go_wp2
                                        go_roundw
                                        case rel => first | exact ⟨i + 1, hix, by go_num, MI2⟩ | ((repeat apply Exists.intro); refine ⟨?_, rfl⟩; exact ⟨i + 1, hix, by go_num, MI2⟩)
                                        case measure => simp [intOf]; omega
                                    · as_aux_lemma =>
                                        have hix2 : i = x.2 := by omega
                                        have MI2 := Lib.hid (MI.out.drop (l1 := []))
                                        clear m0 m1
                                        go_wp2
                                        go_roundw
                                        case rel => first | exact ⟨p + 1, hlt, by go_num, by rw [SNx.out]; go_num, MI2⟩ | ((repeat apply Exists.intro); refine ⟨?_, rfl⟩; exact ⟨p + 1, hlt, by go_num, by rw [SNx.out]; go_num, MI2⟩)
                                        case measure => simp [intOf]; omega
                        · as_aux_lemma =>
                            have hpl : decide (p < L.length) = false := by have := HML.out; have := HLEN.out; simp; omega
                            have hpl2 : p = L.length := by have := HML.out; have := HLEN.out; omega
                            have BEL := Lib.hid MA.out.bel
                            clear hpl2
                            go_wp2_with fail
                            refine (lives16 _).mono ?_
                            rintro e wz ⟨rfl, bz⟩
                            have BZ : Hid (Below w.heap.size w wz) := BEL.out.trans (bz.mono BEL.out.size)
                            clear bz
                            go_wp2
                            go_ret
                            exact ⟨rfl, BZ.out⟩
      · rw [ok_inv I2.out pm om i hi] at hbad
        cases hbad
end Go.Proofs.Ythloinmnojlleaa
