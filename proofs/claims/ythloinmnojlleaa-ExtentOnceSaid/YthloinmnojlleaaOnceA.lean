/- OnceA: the walk of ExtentOnce (written by gen_once.py). -/
import Derived.Test.YthloinmnojlleaaOnceP
import Derived.Test.YthloinmnojlleaaExtN
import Derived.Deep.Cut
import Derived.Deep.CutRange
import Derived.Deep.DeepCutAuto
set_option linter.unusedVariables false
set_option linter.unusedSimpArgs false
namespace Go.Proofs.Ythloinmnojlleaa
open Go.RowKit

/-- A box of the call's own. -/
def bx (g : Nat) (cs : Array Value) (t : TypeId) : Part := ⟨fun k => k = g, fun w => w.heap[g]? = some (.cells cs t (0, 0))⟩
theorem bx_good {w : World} {g : Nat} {cs : Array Value} {t : TypeId} (h : w.heap[g]? = some (.cells cs t (0, 0))) : (bx g cs t).Good w :=
  ⟨h, fun k hk => by have := lt_of_block h; have e : k = g := hk; omega, fun w w' S h ht hS => blk_touch ht h (hS g rfl)⟩
theorem Mine.box {w0 w : World} {l1 l2 : List Part} {g : Nat} {cs : Array Value} {t : TypeId} (h : Mine w0 w (l1 ++ bx g cs t :: l2)) : w.heap[g]? = some (.cells cs t (0, 0)) := (Sep.get (p := bx g cs t) h.sep).P
theorem Mine.newBx {w0 w : World} {ps : List Part} (h : Mine w0 w ps) (g : Nat) (hg : g = w.heap.size) (cs : Array Value) (t : TypeId) : Mine w0 (w.alloc (.cells cs t)) (bx g cs t :: ps) := by
  subst hg
  exact h.new ((Below.refl _ w).alloc (Nat.le_refl _) _) (fun k e => Nat.le_of_eq (show w.heap.size = k from (show k = w.heap.size from e).symm)) (bx_good (blk_new w _))

theorem once_alloc {w0 w w' : World} {l1 l2 : List Part} {F : Nat → Prop} {g n m r : Nat} {a : Ar} {L : List (Nat × Nat)} {e : Ending} (I : Inv n a L) (hm : 1 ≤ m) (h : Mine w0 w (l1 ++ ar F g a :: l2)) (ht : AllocTo w F g a m r e w') :
    (e = .returned (.tuple #[.int .i64 0, .int .i64 5]) ∧ a.largest < m ∧ Mine w0 w' (l1 ++ ar F g a :: l2)) ∨
    ∃ p a2 F2, e = .returned (.tuple #[.int .i64 (p : Nat), .int .i64 0]) ∧ Mine w0 w' (l1 ++ ar F2 g a2 :: l2) ∧ Inv n a2 (L ++ [(p, m)]) ∧ (∀ x ∈ L, Dis x (p, m)) ∧ p + m ≤ n := by
  unfold AllocTo at ht
  cases hc : choose a.holes m (bet r a.next) a.holes.length with
  | none =>
    rw [hc] at ht
    exact .inl ⟨ht.1, none_largest hm hc, h.below ht.2⟩
  | some j =>
    rw [hc] at ht
    obtain ⟨he, F2, ht⟩ := ht
    have h0 := (inv_alloc I hm hc I.ok.next).2.2
    have hs := I.size
    obtain ⟨i1, i2, i3⟩ := inv_alloc I hm hc (nx := if r = 3 then (a.holes.getD j (0, 0)).1 + m else a.next) (by
      split
      · omega
      · exact I.ok.next)
    exact .inr ⟨_, _, F2, he, h.arTo ht, i1, i2, i3⟩
theorem once_give {w0 w w' : World} {l1 l2 : List Part} {F : Nat → Prop} {g n k : Nat} {a : Ar} {L : List (Nat × Nat)} {e : Ending} (I : Inv n a L) (hk : k < L.length) (h : Mine w0 w (l1 ++ ar F g a :: l2)) (ht : GiveTo w F g a L[k].1 L[k].2 e w') :
    ∃ a2 F2, e = .returned (.int .i64 0) ∧ Mine w0 w' (l1 ++ ar F2 g a2 :: l2) ∧ Inv n a2 (L.take k ++ L.drop (k + 1)) ∧ a2.giveE L[k].1 L[k].2 = 8 := by
  obtain ⟨h1, h2⟩ := ht
  have hE := give_E I hk
  rw [hE] at h1 h2
  rw [if_pos rfl] at h2
  obtain ⟨F2, h2⟩ := h2
  exact ⟨_, F2, h1, h.arTo h2, inv_give I hk, give_E2 I hk⟩
theorem give_not {w w' : World} {F : Nat → Prop} {g : Nat} {a : Ar} {f s x : Int} {e : Ending} (hE : a.giveE f s = x) (hx : x ≠ 0) (ht : GiveTo w F g a f s e w') : e = .returned (.int .i64 x) ∧ Below w.heap.size w w' := by
  obtain ⟨h1, h2⟩ := ht
  rw [hE] at h1 h2
  rw [if_neg hx] at h2
  exact ⟨h1, h2⟩
theorem tot_take {L : List (Nat × Nat)} {q : Nat} (h : q < L.length) : tot (L.take (q + 1)) = tot (L.take q) + L[q].2 := by
  rw [List.take_succ_eq_append_getElem h, tot_append, tot_cons, tot_nil]
  omega
theorem tot_take_le (L : List (Nat × Nat)) (q : Nat) : tot (L.take q) ≤ tot L := by
  have := tot_two L q
  omega

theorem OutV.drew {w : World} {v : Value} {L : List (Nat × Nat)} (h : OutV w v L) : OutV w.drew v L := h.touch (S := fun _ => False) (Touch.of_below (Below.refl _ w).drew) (fun _ _ x => x)
theorem OutV.cutS {w : World} {g c k : Nat} {L : List (Nat × Nat)} (h : OutV w (.slice (some ⟨g, 0, none⟩) L.length c) L) (hk : k ≤ L.length) : OutV w (.slice (some ⟨g, 0, none⟩) k k) (L.take k) := by
  obtain ⟨A, c1, e, _, _, hr⟩ := h.rd
  injection e with e1 e2 e3
  have hl : (L.take k).length = k := by rw [List.length_take]; omega
  refine .inr ⟨g, by rw [hl], h.lt g rfl, fun j u hu => hr _ e1.symm j u ?_⟩
  rw [sp_take, List.getElem?_take] at hu
  split at hu
  · exact hu
  · cases hu
theorem RdSp.dropS {w : World} {g c : Nat} {L : List (Nat × Nat)} (h : RdSp w (.slice (some ⟨g, 0, none⟩) L.length c) L) (k : Nat) (hk : k ≤ L.length) (c' : Nat) (hc : L.length - k ≤ c') (o : Nat) (ho : o = k * 2 ∨ k = L.length) : RdSp w (.slice (some ⟨g, o, none⟩) (L.length - k) c') (L.drop k) := by
  obtain ⟨A, c1, e, _, _, hr⟩ := h
  injection e with e1 e2 e3
  refine ⟨_, c', by rw [List.length_drop], by rw [List.length_drop]; exact hc, (fun e => by cases e), fun ad e j u hu => ?_⟩
  injection e with e
  subst e
  rw [sp_drop, List.getElem?_drop] at hu
  rcases ho with rfl | rfl
  · have := hr _ e1.symm (k * 2 + j) u hu
    by_cases e0 : j = 0
    · subst e0
      by_cases k0 : k * 2 = 0
      · simpa [Addr.add, k0] using this
      · simpa [Addr.add, k0] using this
    · have e2 : ¬ k * 2 + j = 0 := by omega
      simpa [Addr.add, e0, e2] using this
  · have := (List.getElem?_eq_some_iff.1 hu).1
    rw [sp_length] at this
    omega

set_option maxHeartbeats 6400000 in
set_option maxRecDepth 100000 in
theorem once_yes (w : World) (n : Nat) (v : Value) (l : List OpE) (h1 : 1 ≤ n) (h2 : n ≤ 1048576) (hv : RdE w v l) :
    Calls Try.prog 3 #[.int .i64 n, v] w fun e w' => e = .returned (.bool true) ∧ Below w.heap.size w w' := by
  obtain ⟨OA, oc, rfl, hlc, hoc, hops, hin⟩ := hv
  have HOPS := Lib.hid hops
  have HIN := Lib.hid hin
  clear hops hin
  go_enter Try.func3, Try.ntmps3
  go_wp2_with fail
  refine (new_yes _ n h1 h2).mono ?_
  rintro e w1 ⟨g, F, v1, rfl, hd, hF, b1⟩
  have M1 : Hid (Mine w w1 [ar F g (Ar.new n), rs (.slice none 0 0) []]) := ((Mine.start w).newOut).newAr b1 ⟨v1, hd⟩ hF
  have I1 : Hid (Inv n (Ar.new n) []) := inv_new h1 h2
  clear hd hF b1
  go_wp2_with fail
  go_loopw [7, 8, 30] (fun out i i2 wr => ∃ (k : Nat) (a : Ar) (L : List (Nat × Nat)) (F : Nat → Prop), k ≤ l.length ∧ k ≤ 60 ∧ L.length ≤ k ∧ i = .int .i64 k ∧ Hid (Mine w wr [ar F g a, rs out L]) ∧ Hid (Inv n a L)) (fun _ i _ _ => l.length - (intOf i).toNat)
  case atStart => exact ⟨0, _, _, _, Nat.zero_le _, by decide, Nat.le_refl _, rfl, M1, I1⟩
  case round =>
    obtain ⟨k, a, L, F, hk, hk6, hL, rfl, MM, II⟩ := hrel
    rename World => w9
    clear M1 I1
    by_cases hlt : k < l.length ∧ k < 60
    · obtain ⟨hl1, hl2⟩ := hlt
      obtain ⟨b, off, rfl, ho⟩ := HOPS.out (by omega)
      obtain ⟨c0, c1, c2, c3, c4⟩ := (ho.below MM.out.bel) k hl1
      have HO := Lib.hid (HIN.out l[k] (List.getElem_mem hl1))
      have hl60 : (k : Int) < 60 := by omega
      clear ho
      generalize l[k] = o at c0 c1 c2 c3 c4 HO
      obtain ⟨kd, on, ru, po, si⟩ := o
      simp only at c0 c1 c2 c3 c4
      have HON : Hid (I64 on) := HO.out.n
      obtain ⟨A, c, rfl⟩ := (MM.out.out (l1 := [_])).slice
      have M2 := Lib.hid (MM.out.newBx _ rfl #[.int .i64 kd, .int .i64 on, .int .i64 ru, .int .i64 po, .int .i64 si] 32)
      clear MM HO
      have r0 := M2.out.box (l1 := [])
      have k0 := blk_cell r0 0; have k1 := blk_cell r0 1; have k2 := blk_cell r0 2
      simp only [List.getElem?_toArray, List.getElem?_cons_zero, List.getElem?_cons_succ] at k0 k1 k2
      clear r0
      go_upto_if 46 with fail
      go_cut [7] (fun vv wx => ∃ (a2 : Ar) (F2 : Nat → Prop) (L2 : List (Nat × Nat)), L2.length ≤ k + 1 ∧ Hid (Inv n a2 L2) ∧ Hid (Mine w wx [ar F2 g a2, rs vv L2]))
      case first =>
        by_cases q0 : kd = 0
        · as_aux_lemma =>
            have d0 : (kd == 0) = true := by simpa using q0
            have HQ := Lib.hid q0
            clear q0
            by_cases hb : on < 1 ∨ ru < 0 ∨ 4 ≤ ru
            · have HB := Lib.hid hb
              clear hb
              go_wp2_with fail
              refine (alloc_bad _ g on ru HB.out).mono ?_
              rintro e w3 ⟨rfl, rfl⟩
              go_wp2_with fail
              refine wp_region_flag (fun _ => True) [(0, 1), (1, 1), (2, 1), (3, 1), (5, 1), (4, 2), (6, 0), (7, 1), (8, 1)] (by kernel_rfl) (by kernel_rfl) trivial ?_
              simp only [ordered, List.map_cons, List.map_nil, List.getD_cons_zero, List.getD_cons_succ]
              repeat (refine wpF_dry (fun K hK => ?_); go_simp; refine hK _ ?_; clear hK K)
              refine wpF_skip (fun K hK => ?_)
              go_simp
              first | refine hK _ ?_ | refine ⟨(fun hh => by cases hh), hK _ ?_⟩
              clear hK K
              refine wpF_do ?_
              go_wp2_with fail
              refine ⟨trivial, ?_⟩
              repeat (refine wpF_dry (fun K hK => ?_); go_simp; refine hK _ ?_; clear hK K)
              refine wpF_nil ?_
              go_wp2
              go_roundw
              case rel => exact ⟨k + 1, a, L, F, by omega, by omega, by omega, by go_num, (M2.out.drew.drop (l1 := [])), II.out⟩
              case measure => simp [intOf]; omega
            · obtain ⟨m, rfl⟩ := Int.eq_ofNat_of_zero_le (show 0 ≤ on by omega)
              obtain ⟨rr, rfl⟩ := Int.eq_ofNat_of_zero_le (show 0 ≤ ru by omega)
              have hm1 : 1 ≤ m := by omega
              have hr4 : rr < 4 := by omega
              clear hb
              obtain ⟨va, ha⟩ := M2.out.area (l1 := [_])
              have AC := Lib.hid (alloc_any _ F g a va ha m rr hm1 hr4)
              have HN1 := Lib.hid hm1
              clear ha hm1 hr4
              go_wp2_with fail
              refine AC.out.mono ?_
              rintro e w3 ht
              have HT := once_alloc (l1 := [_]) II.out HN1.out M2.out ht
              clear ht AC M2
              rcases HT with ⟨rfl, hla, M3⟩ | HSO
              · have LG : decide (m ≤ a.largest) = false := by simp; omega
                clear hla
                have M3 := Lib.hid M3
                replace k1 := (blk_cell (M3.out.box (l1 := [])) 1)
                simp only [List.getElem?_toArray, List.getElem?_cons_zero, List.getElem?_cons_succ] at k1
                clear k0 k2
                go_wp2_with fail
                refine wp_region_flag (fun w' => w'.cell? ⟨w9.heap.size, 1, none⟩ = some (.int .i64 (m : Nat))) [(0, 1), (1, 1), (2, 1), (3, 1), (5, 1), (4, 2), (6, 0), (7, 1), (8, 1)] (by kernel_rfl) (by kernel_rfl) k1 ?_
                simp only [ordered, List.map_cons, List.map_nil, List.getD_cons_zero, List.getD_cons_succ]
                repeat (refine wpF_dry (fun K hK => ?_); go_simp; refine hK _ ?_; clear hK K)
                refine wpF_read (.int .i64 (m : Nat)) rfl (fun w' hS => by obtain s1 := hS; go_simp) (fun K hK => ?_)
                go_simp
                refine hK _ ?_
                clear hK K
                refine wpF_do ?_
                go_wp2_with fail
                obtain ⟨va, ha⟩ := M3.out.drew.area (l1 := [_])
                refine (largest_any _ F g a va ha).mono ?_
                rintro e w4 ⟨rfl, b4⟩
                have M4 := Lib.hid (M3.out.drew.below b4)
                replace k1 := cell_below b4 k1
                clear b4 ha
                go_wp2_with fail
                refine ⟨k1, ?_⟩
                repeat (refine wpF_dry (fun K hK => ?_); go_simp; refine hK _ ?_; clear hK K)
                refine wpF_nil ?_
                go_wp2
                go_roundw
                case rel => exact ⟨k + 1, a, L, F, by omega, by omega, by omega, by go_num, (M4.out.drop (l1 := [])), II.out⟩
                case measure => simp [intOf]; omega
              · obtain ⟨p, a2, F2, rfl, M3, I3, DI, hpm⟩ := HSO
                have M3 := Lib.hid M3
                have I3 := Lib.hid I3
                have DI := Lib.hid DI
                go_wp2_with fail
                go_loopw [12, 67] (fun i i2 wl => ∃ q : Nat, q ≤ L.length ∧ i = .int .i64 q ∧ Hid (Mine w wl [bx w9.heap.size #[.int .i64 kd, .int .i64 (m : Nat), .int .i64 (rr : Nat), .int .i64 po, .int .i64 si] 32, ar F2 g a2, rs (.slice A L.length c) L])) (fun i _ _ => L.length - (intOf i).toNat)
                case atStart => exact ⟨0, Nat.zero_le _, rfl, M3⟩
                case round =>
                  obtain ⟨q, hq, rfl, ML⟩ := hrel
                  clear M3
                  by_cases hql : q < L.length
                  · obtain ⟨g1, c1, e1, _, _, hc⟩ := (ML.out.out (l1 := [_, _])).at_ (by omega)
                    injection e1 with e1 e2 e3
                    obtain ⟨z1, z2⟩ := hc q hql
                    subst e1
                    clear hc e2 e3
                    replace k1 := (blk_cell (ML.out.box (l1 := [])) 1)
                    simp only [List.getElem?_toArray, List.getElem?_cons_zero, List.getElem?_cons_succ] at k1
                    have HY := DI.out L[q] (List.getElem_mem hql)
                    have HI := II.out.inn _ (List.getElem_mem hql)
                    unfold Dis at HY
                    simp only at HY
                    generalize L[q] = x at z1 z2 HY HI
                    obtain ⟨r, hr⟩ : ∃ r : Nat, r = x.1 + x.2 := ⟨_, rfl⟩
                    have hr1 : (x.1 : Int) + (x.2 : Int) = (r : Int) := by omega
                    have hr2 : IntKind.i64.wrap (r : Int) = (r : Int) := by rw [IntKind.wrap_i64]; omega
                    obtain ⟨t, ht⟩ : ∃ t : Nat, t = p + m := ⟨_, rfl⟩
                    have ht1 : (p : Int) + (m : Int) = (t : Int) := by omega
                    have ht2 : IntKind.i64.wrap (t : Int) = (t : Int) := by rw [IntKind.wrap_i64]; omega
                    by_cases q1 : p < r
                    · have d1 : decide (p < r) = true := by simp; omega
                      have d2 : decide (x.1 < t) = false := by simp; omega
                      clear HY HI q1 hr ht
                      go_wp2_with fail
                      refine wp_region_flag (fun w' => w'.cell? ⟨g1, q * 2, none⟩ = some (.int .i64 (x.1 : Nat)) ∧ w'.cell? ⟨g1, q * 2 + 1, none⟩ = some (.int .i64 (x.2 : Nat)) ∧ w'.cell? ⟨w9.heap.size, 1, none⟩ = some (.int .i64 (m : Nat))) [(0, 1), (1, 1), (2, 1), (3, 1), (4, 1), (6, 1), (7, 1), (8, 1), (9, 1), (5, 2), (10, 0), (11, 1), (12, 1), (13, 1), (14, 1), (15, 1), (16, 1), (17, 1), (19, 1), (20, 1), (18, 2), (21, 0), (22, 1), (23, 1), (24, 1)] (by kernel_rfl) (by kernel_rfl) ⟨z1, z2, k1⟩ ?_
                      simp only [ordered, List.map_cons, List.map_nil, List.getD_cons_zero, List.getD_cons_succ]
                      repeat (refine wpF_dry (fun K hK => ?_); go_simp; refine hK _ ?_; clear hK K)
                      refine wpF_read (.int .i64 (x.1 : Nat)) rfl (fun w' hS => by obtain ⟨s1, s2, s3⟩ := hS; go_simp) (fun K hK => ?_)
                      go_simp
                      refine hK _ ?_
                      clear hK K
                      refine wpF_do ?_
                      go_wp2_with fail
                      refine ⟨⟨z1, z2, k1⟩, ?_⟩
                      repeat (refine wpF_dry (fun K hK => ?_); go_simp; refine hK _ ?_; clear hK K)
                      refine wpF_read (.int .i64 (x.1 : Nat)) rfl (fun w' hS => by obtain ⟨s1, s2, s3⟩ := hS; go_simp) (fun K hK => ?_)
                      go_simp
                      refine hK _ ?_
                      clear hK K
                      refine wpF_do ?_
                      go_wp2_with fail
                      refine ⟨⟨z1, z2, k1⟩, ?_⟩
                      repeat (refine wpF_dry (fun K hK => ?_); go_simp; refine hK _ ?_; clear hK K)
                      refine wpF_nil ?_
                      go_wp2
                      go_roundw
                      case rel => exact ⟨q + 1, hql, by go_num, ML.out.drew⟩
                      case measure => simp [intOf]; omega
                    · have d1 : decide (p < r) = false := by simp; omega
                      clear HY HI q1 hr ht
                      go_wp2_with fail
                      refine wp_region_flag (fun w' => w'.cell? ⟨g1, q * 2, none⟩ = some (.int .i64 (x.1 : Nat)) ∧ w'.cell? ⟨g1, q * 2 + 1, none⟩ = some (.int .i64 (x.2 : Nat)) ∧ w'.cell? ⟨w9.heap.size, 1, none⟩ = some (.int .i64 (m : Nat))) [(0, 1), (1, 1), (2, 1), (3, 1), (4, 1), (6, 1), (7, 1), (8, 1), (9, 1), (5, 2), (10, 0), (11, 1), (12, 1), (13, 1), (14, 1), (15, 1), (16, 1), (17, 1), (19, 1), (20, 1), (18, 2), (21, 0), (22, 1), (23, 1), (24, 1)] (by kernel_rfl) (by kernel_rfl) ⟨z1, z2, k1⟩ ?_
                      simp only [ordered, List.map_cons, List.map_nil, List.getD_cons_zero, List.getD_cons_succ]
                      repeat (refine wpF_dry (fun K hK => ?_); go_simp; refine hK _ ?_; clear hK K)
                      refine wpF_read (.int .i64 (x.1 : Nat)) rfl (fun w' hS => by obtain ⟨s1, s2, s3⟩ := hS; go_simp) (fun K hK => ?_)
                      go_simp
                      refine hK _ ?_
                      clear hK K
                      refine wpF_do ?_
                      go_wp2_with fail
                      refine ⟨⟨z1, z2, k1⟩, ?_⟩
                      repeat (refine wpF_dry (fun K hK => ?_); go_simp; refine hK _ ?_; clear hK K)
                      refine wpF_skip (fun K hK => ?_)
                      go_simp
                      first | refine hK _ ?_ | refine ⟨(fun hh => by cases hh), hK _ ?_⟩
                      clear hK K
                      refine wpF_do ?_
                      go_wp2_with fail
                      refine ⟨⟨z1, z2, k1⟩, ?_⟩
                      repeat (refine wpF_dry (fun K hK => ?_); go_simp; refine hK _ ?_; clear hK K)
                      refine wpF_nil ?_
                      go_wp2
                      go_roundw
                      case rel => exact ⟨q + 1, hql, by go_num, ML.out.drew⟩
                      case measure => simp [intOf]; omega
                  · obtain rfl : q = L.length := by omega
                    replace k1 := (blk_cell (ML.out.box (l1 := [])) 1)
                    simp only [List.getElem?_toArray, List.getElem?_cons_zero, List.getElem?_cons_succ] at k1
                    have HX : Hid (RdSp (wr.alloc (.cells #[.int .i64 (p : Nat), .int .i64 (m : Nat)] 30)) (.slice (some ⟨wr.heap.size, 0, none⟩) 1 1) [(p, m)]) := ⟨_, 1, rfl, Nat.le_refl _, (fun e => by cases e), fun ad e j u hu => by injection e with e; subst e; exact rdsp_lit wr p m _ j u hu⟩
                    have MA := Lib.hid (ML.out.alloc (.cells #[.int .i64 (p : Nat), .int .i64 (m : Nat)] 30))
                    clear ML
                    go_wp2_with (at_builtin; refine wpList_append_out rfl (.tmp 98) (.tmp 103) 28 rfl Try.underlying28 _ _ L [(p, m)] rfl rfl (MA.out.out (l1 := [_, _])) HX.out (by simp; omega) ?_)
                    intro v5 w5 ho5 hg5 ha5
                    try (rw [← World.size_alloc wr (.cells #[.int .i64 (p : Nat), .int .i64 (m : Nat)] 30)] at ha5)
                    have M5 := Lib.hid (MA.out.grow (l1 := [_, _]) hg5 ha5 ho5)
                    clear ho5 hg5 ha5 HX MA
                    go_wp2_with fail
                    go_meet
                    exact ⟨_, _, _, by rw [List.length_append, List.length_singleton]; omega, I3, Lib.hid (M5.out.drop (l1 := []))⟩
        · as_aux_lemma =>
            have d0 : (kd == 0) = false := by simpa using q0
            have HQ := Lib.hid q0
            clear q0
            by_cases hL0 : L.length = 0
            · obtain rfl := List.eq_nil_of_length_eq_zero (show L.length = 0 by omega)
              go_wp2_with fail
              go_meet
              exact ⟨_, _, _, by simp, II, Lib.hid (M2.out.drop (l1 := []))⟩
            · have hLp : 0 < L.length := by omega
              go_upto_if 110 with fail
              go_cut [13] (fun vv wx => ∃ kk : Nat, kk < L.length ∧ vv = .int .i64 kk ∧ Hid (Mine w wx [ar F g a, rs (.slice A L.length c) L]))
              case first =>
                by_cases hp : 0 < on
                · obtain ⟨m, rfl⟩ := Int.eq_ofNat_of_zero_le (show 0 ≤ on by omega)
                  go_wp2_with fail
                  go_meet
                  exact ⟨m % L.length, Nat.mod_lt _ hLp, (by first | rfl | simp), Lib.hid (M2.out.drop (l1 := []))⟩
                · have d1 : decide (0 < on) = false := by simpa using hp
                  go_wp2_with fail
                  go_meet
                  exact ⟨0, hLp, rfl, Lib.hid (M2.out.drop (l1 := []))⟩
              case rest =>
                obtain ⟨kk, hK, rfl, M2⟩ := hcut
                obtain ⟨g1, cc, e1, hcc, _, hc⟩ := (M2.out.out (l1 := [_])).at_ (by omega)
                injection e1 with e1 e2 e3
                obtain ⟨z1, z2⟩ := hc kk hK
                have HLC := Lib.hid hcc
                subst e1 e3
                clear hc e2 hcc
                obtain ⟨va, ha⟩ := M2.out.area (l1 := [])
                have GV := Lib.hid (give_any _ F g a va ha L[kk].1 L[kk].2)
                have GI := Lib.hid (fun (e : Ending) (w' : World) => once_give (l1 := []) (e := e) (w' := w') II.out hK M2.out)
                clear ha
                obtain ⟨x, hx⟩ : ∃ x, x = L[kk] := ⟨_, rfl⟩
                rw [← hx] at z1 z2 GV GI
                have HX := Lib.hid hx
                clear hx
                go_wp2_with fail
                refine GV.out.mono ?_
                rintro e w3 ht
                obtain ⟨a2, F2, rfl, M3, I3, h8⟩ := GI.out e w3 ht
                have M3 := Lib.hid M3
                have I3 := Lib.hid I3
                have H8 := Lib.hid h8
                clear ht h8 GV GI M2 II
                obtain ⟨g2, c2, e1, _, _, hc⟩ := (M3.out.out (l1 := [_])).at_ (by omega)
                injection e1 with e1 e2 e3
                injection e1 with e1
                injection e1 with e1
                obtain ⟨z1, z2⟩ := hc kk hK
                rw [HX.out.symm] at z1 z2
                subst e1
                clear hc e2 e3
                obtain ⟨vb, hb⟩ := M3.out.area (l1 := [])
                have GV := Lib.hid (give_any _ F2 g a2 vb hb x.1 x.2)
                clear hb
                go_wp2_with fail
                refine GV.out.mono ?_
                rintro e w4 ht
                obtain ⟨rfl, b4⟩ := give_not H8.out (by decide) ht
                have M4 := Lib.hid (M3.out.below b4)
                clear ht b4 GV M3 z1 z2
                obtain ⟨m, hm⟩ : ∃ m, m = kk + 1 := ⟨_, rfl⟩
                have hm1 : (kk : Int) + 1 = (m : Int) := by omega
                have hm2 : IntKind.i64.wrap (m : Int) = (m : Int) := by rw [IntKind.wrap_i64]; omega
                have hkm : kk ≤ L.length := by omega
                have hml : m ≤ L.length := by omega
                have hlc2 : L.length ≤ c := HLC.out
                have hmc : m ≤ c := by omega
                have hkc : kk ≤ c := by omega
                have HM := Lib.hid hm
                clear hm
                go_wp2_with fail
                by_cases hcap : m = c
                · subst hcap
                  refine wp_region_flag (fun _ => True) [(0, 1), (1, 1), (2, 1), (3, 1), (4, 1), (5, 1), (6, 1), (7, 1), (8, 0), (9, 1)] (by kernel_rfl) (by kernel_rfl) trivial ?_
                  simp only [ordered, List.map_cons, List.map_nil, List.getD_cons_zero, List.getD_cons_succ]
                  repeat (refine wpF_dry (fun K hK => ?_); go_simp; refine hK _ ?_; clear hK K)
                  refine wpF_do ?_
                  go_wp2_with (at_builtin; refine wpList_append_out rfl (.tmp 135) (.tmp 139) 28 rfl Try.underlying28 _ _ (L.take kk) (L.drop m) rfl rfl ((M4.out.out (l1 := [_])).drew.cutS hkm) (rdsp_nil _ (L := L.drop m) (by rw [List.length_drop]; omega)) (by simp; omega) ?_)
                  intro v5 w5 ho5 hg5 ha5
                  have M5 := Lib.hid (M4.out.drew.grow (l1 := [_]) hg5 ha5 ho5)
                  rw [HM.out] at M5
                  clear ho5 hg5 ha5
                  go_wp2_with fail
                  refine ⟨trivial, ?_⟩
                  repeat (refine wpF_dry (fun K hK => ?_); go_simp; refine hK _ ?_; clear hK K)
                  refine wpF_nil ?_
                  go_wp2_with fail
                  go_meet
                  exact ⟨_, _, _, by rw [List.length_append, List.length_take, List.length_drop]; omega, I3, M5⟩
                · have hcap' : ¬ c = m := fun e => hcap e.symm
                  refine wp_region_flag (fun _ => True) [(0, 1), (1, 1), (2, 1), (3, 1), (4, 1), (5, 1), (6, 1), (7, 1), (8, 0), (9, 1)] (by kernel_rfl) (by kernel_rfl) trivial ?_
                  simp only [ordered, List.map_cons, List.map_nil, List.getD_cons_zero, List.getD_cons_succ]
                  repeat (refine wpF_dry (fun K hK => ?_); go_simp; refine hK _ ?_; clear hK K)
                  refine wpF_do ?_
                  go_wp2_with (at_builtin; refine wpList_append_out rfl (.tmp 135) (.tmp 139) 28 rfl Try.underlying28 _ _ (L.take kk) (L.drop m) rfl rfl ((M4.out.out (l1 := [_])).drew.cutS hkm) ((M4.out.out (l1 := [_])).drew.rd.dropS m hml _ (by omega) _ (by omega)) (by simp; omega) ?_)
                  intro v5 w5 ho5 hg5 ha5
                  have M5 := Lib.hid (M4.out.drew.grow (l1 := [_]) hg5 ha5 ho5)
                  rw [HM.out] at M5
                  clear ho5 hg5 ha5
                  go_wp2_with fail
                  refine ⟨trivial, ?_⟩
                  repeat (refine wpF_dry (fun K hK => ?_); go_simp; refine hK _ ?_; clear hK K)
                  refine wpF_nil ?_
                  go_wp2_with fail
                  go_meet
                  exact ⟨_, _, _, by rw [List.length_append, List.length_take, List.length_drop]; omega, I3, M5⟩
      case rest =>
        as_aux_lemma =>
          obtain ⟨a2, F2, L2, hlen, I3, M5⟩ := hcut
          obtain ⟨A, c, rfl⟩ := (M5.out.out (l1 := [_])).slice
          generalize hcl : L2.length = cl at M5 hlen ⊢
          have HCL := Lib.hid hcl
          have hlen : L2.length ≤ k + 1 := by omega
          clear hcl c0 c1 c2 c3 c4 k0 k1 k2 M2 II
          go_wp2_with fail
          obtain ⟨va, ha⟩ := M5.out.area (l1 := [])
          refine (free_any _ F2 g a2 va ha).mono ?_
          rintro e wf ⟨rfl, bf⟩
          have MF := Lib.hid (M5.out.below bf)
          clear bf ha M5
          go_wp2_with fail
          go_loopw [14, 15, 143] (fun nn i i2 wl => ∃ q : Nat, q ≤ L2.length ∧ i = .int .i64 q ∧ nn = .int .i64 (a2.free + tot (L2.take q) : Nat) ∧ Hid (Mine w wl [ar F2 g a2, rs (.slice A cl c) L2])) (fun _ i _ _ => L2.length - (intOf i).toNat)
          case atStart => exact ⟨0, Nat.zero_le _, rfl, by rw [List.take_zero, tot_nil, Nat.add_zero], MF⟩
          case round =>
            obtain ⟨q, hq, rfl, rfl, ML⟩ := hrel
            clear MF
            by_cases hql : q < L2.length
            · have hqd : q < cl := by have := HCL.out; omega
              obtain ⟨g1, c1, e1, _, _, hc⟩ := (ML.out.out (l1 := [_])).at_ (by omega)
              injection e1 with e1 e2 e3
              obtain ⟨z1, z2⟩ := hc q hql
              have TT := Lib.hid (tot_take hql)
              have HY := Lib.hid (I3.out.inn _ (List.getElem_mem hql))
              have HT : a2.free + tot (L2.take q) + L2[q].2 ≤ n := by rw [Nat.add_assoc, ← TT.out]; have := I3.out.sum; have := tot_take_le L2 (q + 1); omega
              generalize L2[q] = y at z1 z2 TT HY HT
              generalize hs : a2.free + tot (L2.take q) = s at HT ⊢
              subst e1
              clear hc e2 e3
              obtain ⟨r, hr⟩ : ∃ r : Nat, r = s + y.2 := ⟨_, rfl⟩
              have hr1 : (s : Int) + (y.2 : Int) = (r : Int) := by omega
              have hr2 : IntKind.i64.wrap (r : Int) = (r : Int) := by rw [IntKind.wrap_i64]; omega
              have d1 : decide ((y.1 : Int) < 0) = false := by simp
              obtain ⟨t, ht⟩ : ∃ t : Nat, (n : Int) - (y.1 : Int) = (t : Int) := ⟨n - y.1, by have := HY.out; omega⟩
              have ht2 : IntKind.i64.wrap (t : Int) = (t : Int) := by rw [IntKind.wrap_i64]; omega
              have d2 : decide (t < y.2) = false := by have := HY.out; simp; omega
              have HR := Lib.hid hr
              have HS := Lib.hid hs
              clear hr hs HT
              go_wp2_with fail
              refine wp_region_flag (fun w' => w'.cell? ⟨g1, q * 2, none⟩ = some (.int .i64 (y.1 : Nat)) ∧ w'.cell? ⟨g1, q * 2 + 1, none⟩ = some (.int .i64 (y.2 : Nat))) [(0, 1), (1, 1), (2, 1), (3, 1), (4, 0), (5, 1), (6, 1), (7, 1), (8, 1), (9, 1), (10, 1), (12, 1), (13, 1), (14, 1), (15, 1), (16, 1), (11, 2), (17, 0), (18, 1), (19, 1), (20, 1)] (by kernel_rfl) (by kernel_rfl) ⟨z1, z2⟩ ?_
              simp only [ordered, List.map_cons, List.map_nil, List.getD_cons_zero, List.getD_cons_succ]
              repeat (refine wpF_dry (fun K hK => ?_); go_simp; refine hK _ ?_; clear hK K)
              refine wpF_do ?_
              go_wp2_with fail
              refine ⟨⟨z1, z2⟩, ?_⟩
              repeat (refine wpF_dry (fun K hK => ?_); go_simp; refine hK _ ?_; clear hK K)
              refine wpF_read (.int .i64 (y.2 : Nat)) rfl (fun w' hS => by obtain ⟨s1, s2⟩ := hS; go_simp) (fun K hK => ?_)
              go_simp
              refine hK _ ?_
              clear hK K
              refine wpF_do ?_
              go_wp2_with fail
              refine ⟨⟨z1, z2⟩, ?_⟩
              repeat (refine wpF_dry (fun K hK => ?_); go_simp; refine hK _ ?_; clear hK K)
              refine wpF_nil ?_
              go_wp2
              go_roundw
              case rel => exact ⟨q + 1, hql, by go_num, congrArg (Value.int .i64) (by rw [TT.out, HR.out, ← HS.out, Nat.add_assoc]), ML.out.drew⟩
              case measure => simp [intOf]; omega
            · obtain rfl : q = L2.length := by omega
              have hqd : decide (L2.length < cl) = false := by have := HCL.out; simp; omega
              have HS : a2.free + tot (L2.take L2.length) = n := by rw [List.take_length]; exact I3.out.sum
              rw [HS]
              clear HS
              go_wp2_with fail
              obtain ⟨va, ha⟩ := ML.out.area (l1 := [])
              refine (holes_any _ F2 g a2 va ha).mono ?_
              rintro e wh ⟨vh, rfl, ho, bh⟩
              obtain ⟨Ah, ch, rfl⟩ := own_slice ho
              have HOL := Lib.hid ho
              have MH := Lib.hid (ML.out.below bh)
              clear bh ha ML ho
              have few := I3.out.ok.few
              have LI := Lib.hid I3.out.ok.lies
              go_wp2_with fail
              go_loopw [17, 182] (fun i i2 wl => ∃ q : Nat, 1 ≤ q ∧ (q = 1 ∨ q ≤ a2.holes.length) ∧ i = .int .i64 q ∧ Hid (Below wh.heap.size wh wl) ∧ Hid (Mine w wl [ar F2 g a2, rs (.slice A cl c) L2])) (fun i _ _ => a2.holes.length - (intOf i).toNat)
              case atStart => exact ⟨1, by decide, .inl rfl, rfl, Below.refl _ _, MH⟩
              case round =>
                obtain ⟨q, hq1, hq2, rfl, BL, ML⟩ := hrel
                clear MH
                by_cases hql : q < a2.holes.length
                · obtain ⟨p, hp⟩ : ∃ p, q = p + 1 := ⟨q - 1, by omega⟩
                  obtain ⟨g1, c1, e1, _, _, hc⟩ := row_at HOL.out (by omega)
                  injection e1 with e1 e2 e3
                  subst e1
                  clear e2 e3
                  have hpl : p < a2.holes.length := by omega
                  obtain ⟨z1, z2⟩ := hc p hpl
                  obtain ⟨z3, z4⟩ := hc q hql
                  clear hc z4
                  have z1 := cell_below BL.out z1
                  have z2 := cell_below BL.out z2
                  have z3 := cell_below BL.out z3
                  have LT : a2.holes[p].1 + a2.holes[p].2 < a2.holes[q].1 := by have := lies_mono LI.out p q (by omega) hql; omega
                  have LE : a2.holes[q].1 ≤ a2.size := by have := (lies_get LI.out q hql).2; omega
                  have HMO := I3.out.ok.most
                  generalize a2.holes[p] = x at z1 z2 LT
                  generalize a2.holes[q] = y at z3 LT LE
                  have hs1 : (q : Int) - 1 = (p : Int) := by omega
                  have hs2 : IntKind.i64.wrap (p : Int) = (p : Int) := by rw [IntKind.wrap_i64]; omega
                  have d0 : decide (p < a2.holes.length) = true := by simpa using hpl
                  obtain ⟨r, hr⟩ : ∃ r : Nat, (x.1 : Int) + (x.2 : Int) = (r : Int) := ⟨x.1 + x.2, by omega⟩
                  have hr2 : IntKind.i64.wrap (r : Int) = (r : Int) := by rw [IntKind.wrap_i64]; omega
                  have d1 : decide (y.1 ≤ r) = false := by simp; omega
                  have HP := Lib.hid hp
                  have HLT := Lib.hid (And.intro hql (And.intro LT LE))
                  clear hp hq1 hq2 LT LE
                  go_wp2_with fail
                  refine wp_region_flag (fun w' => w'.cell? ⟨g1, p * 2, none⟩ = some (.int .i64 (x.1 : Nat)) ∧ w'.cell? ⟨g1, p * 2 + 1, none⟩ = some (.int .i64 (x.2 : Nat)) ∧ w'.cell? ⟨g1, q * 2, none⟩ = some (.int .i64 (y.1 : Nat))) [(0, 1), (1, 1), (2, 1), (3, 1), (4, 1), (6, 1), (7, 1), (8, 1), (9, 1), (10, 1), (13, 1), (14, 1), (15, 1), (16, 1), (5, 2), (11, 2), (12, 1), (17, 0), (18, 1)] (by kernel_rfl) (by kernel_rfl) ⟨z1, z2, z3⟩ ?_
                  simp only [ordered, List.map_cons, List.map_nil, List.getD_cons_zero, List.getD_cons_succ]
                  repeat (refine wpF_dry (fun K hK => ?_); go_simp; refine hK _ ?_; clear hK K)
                  refine wpF_read (.int .i64 (x.1 : Nat)) rfl (fun w' hS => by obtain ⟨s1, s2, s3⟩ := hS; go_simp) (fun K hK => ?_)
                  go_simp
                  refine hK _ ?_
                  clear hK K
                  refine wpF_read (.int .i64 (x.2 : Nat)) rfl (fun w' hS => by obtain ⟨s1, s2, s3⟩ := hS; go_simp) (fun K hK => ?_)
                  go_simp
                  refine hK _ ?_
                  clear hK K
                  repeat (refine wpF_dry (fun K hK => ?_); go_simp; refine hK _ ?_; clear hK K)
                  refine wpF_do ?_
                  go_wp2_with fail
                  refine ⟨⟨z1, z2, z3⟩, ?_⟩
                  repeat (refine wpF_dry (fun K hK => ?_); go_simp; refine hK _ ?_; clear hK K)
                  refine wpF_nil ?_
                  go_wp2
                  go_roundw
                  case rel => exact ⟨q + 1, by omega, .inr hql, by go_num, BL.out.drew, ML.out.drew⟩
                  case measure => simp [intOf]; omega
                · have hqd : decide (q < a2.holes.length) = false := by simpa using hql
                  clear hq2
                  go_wp2
                  go_roundw
                  case rel => exact ⟨k + 1, a2, L2, F2, by omega, by omega, hlen, by go_num, ML, I3⟩
                  case measure => simp [intOf]; omega
    · have hex : (decide (k < l.length) = true ∧ decide ((k : Int) < 60) = false) ∨ decide (k < l.length) = false := by
        by_cases h : k < l.length
        · exact .inl ⟨by simpa using h, by simp; omega⟩
        · exact .inr (by simpa using h)
      have BEL : Hid (Below w.heap.size w w9) := MM.out.bel
      clear hlt MM II
      rcases hex with ⟨e1, e2⟩ | e1
      all_goals
        go_wp2_with fail
        refine (lives16 _).mono ?_
        rintro e wz ⟨rfl, bz⟩
        have BZ : Hid (Below w.heap.size w wz) := BEL.out.trans (bz.mono BEL.out.size)
        clear bz
        go_wp2
        go_ret
        exact ⟨rfl, BZ.out⟩
end Go.Proofs.Ythloinmnojlleaa
