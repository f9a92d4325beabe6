/- LawOne: the walk of DiskOne. -/
import Derived.Test.YtfkonndbgmmckaaSep
import Derived.Test.YtfkonndbgmmckaaOneP
import Derived.Lib.Strings
set_option linter.unusedVariables false
set_option linter.unusedSimpArgs false
namespace Go.Proofs.Ytfkonndbgmmckaa
open Go.RowKit

theorem infoBool : (Try.prog.info? 4).map (fun i => (i.zero, i.size, i.bytes)) = some (some (.bool false), 1, 1) := by kernel_rfl
def trues (k n : Nat) : List Bool := List.replicate k true ++ List.replicate (n - k) false
theorem trues_length {k n : Nat} (h : k ≤ n) : (trues k n).length = n := by simp [trues]; omega
theorem trues_set {k n : Nat} (h : k < n) : ((trues k n).map Value.bool).set k (.bool true) = (trues (k + 1) n).map Value.bool := by
  rw [← List.map_set]
  congr 1
  apply List.ext_getElem
  · simp [trues_length (Nat.le_of_lt h), trues_length h]
  · intro i h1 h2
    simp only [trues, List.getElem_set, List.getElem_append, List.getElem_replicate, List.length_replicate]
    by_cases e : k = i
    · subst e; simp
    · rw [if_neg e]
      by_cases e2 : i < k
      · simp [e2, show i < k + 1 by omega]
      · simp [e2, show ¬ i < k + 1 by omega]
theorem trues_all (n : Nat) : trues n n = List.replicate n true := by simp [trues]
theorem own_bools0 (W : World) (n : Nat) (hn : n ≤ maxLen) : (W.alloc (.cells (madeCells #[.bool false] n) 4)).ownsRow 0 4 1 (.slice (some ⟨W.heap.size, 0, none⟩) n n) n ((trues 0 n).map Value.bool) := by
  have h := World.ownsRow_lit (base := 0) (e := 4) (size := 1) W (madeCells #[.bool false] n) n (Nat.zero_le _) hn (by simp [size_madeCells])
  rw [toList_madeCells_one] at h
  simpa [trues] using h

theorem toList_inj {a b : ByteArray} (h : a.toList = b.toList) : a = b := by
  rw [Lib.toList_data, Lib.toList_data] at h
  cases a; cases b
  simp only [ByteArray.mk.injEq]
  exact Array.toList_inj.1 h
theorem beqS (a b : ByteArray) : (a.toList == b.toList) = decide (a = b) := by
  rw [Bool.eq_iff_iff]
  simp only [beq_iff_eq, decide_eq_true_eq]
  exact ⟨toList_inj, fun h => by rw [h]⟩
/-- Is the t-th of the steps a write of x at i? -/
def hit (l : List OpV) (x : ByteArray) (i t : Nat) : Bool := match l[t]? with
  | some o => o.kind == 0 && (o.at_ == (i : Int)) && decide (x = o.text)
  | none => false
theorem hit_is (l : List OpV) (x : ByteArray) (i t : Nat) (h : t < l.length) : hit l x i t = (l[t].kind == 0 && (l[t].at_ == (i : Int)) && decide (x = l[t].text)) := by
  unfold hit; rw [List.getElem?_eq_getElem h]
theorem hit_eq {l : List OpV} {x : ByteArray} {i t : Nat} {o : OpV} (k0 : o.kind = 0) (k1 : o.at_ = (i : Int)) (h : hit l x i t = (o.kind == 0 && (o.at_ == (i : Int)) && decide (x = o.text))) : hit l x i t = (x.toList == (Dk.rep (filledN o.long) o.fill).toList) := by
  have e1 : (o.kind == 0) = true := by rw [k0]; rfl
  have e2 : (o.at_ == (i : Int)) = true := by rw [k1]; exact beq_self_eq_true _
  rw [h, e1, e2, beqS, Bool.true_and, Bool.true_and]
  rfl
theorem step_no {l : List OpV} {x y : ByteArray} {i t : Nat} (h : false = true ∨ (¬ x = y ∧ ∀ t', t' < t → hit l x i t' = false)) (ht : hit l x i t = false) : Hid (false = true ∨ (¬ x = y ∧ ∀ t', t' < t + 1 → hit l x i t' = false)) := by
  rcases h with h | ⟨h1, h2⟩
  · cases h
  · exact .inr ⟨h1, fun t' ht' => by
      rcases Nat.lt_or_ge t' t with h3 | h3
      · exact h2 t' h3
      · obtain rfl : t' = t := by omega
        exact ht⟩
theorem step_hit {l : List OpV} {x y : ByteArray} {i t : Nat} {b : Bool} (h : false = true ∨ (¬ x = y ∧ ∀ t', t' < t → hit l x i t' = false)) (ht : hit l x i t = b) : Hid (b = true ∨ (¬ x = y ∧ ∀ t', t' < t + 1 → hit l x i t' = false)) := by
  cases b with
  | true => exact .inl rfl
  | false => exact step_no h ht
theorem start_no {l : List OpV} {x y : ByteArray} {i : Nat} {b : Bool} (h : ¬ x = y) : Hid (b = true ∨ (¬ x = y ∧ ∀ t', t' < 0 → hit l x i t' = false)) := .inr ⟨h, fun t' ht => by omega⟩
theorem no_hit {l : List OpV} {x y : ByteArray} {i t : Nat} (h : false = true ∨ (¬ x = y ∧ ∀ t', t' < t → hit l x i t' = false)) (hk : x = y ∨ ∃ o ∈ l.take 60, o.kind = 0 ∧ o.at_ = i ∧ x = o.text) (ht : l.length ≤ t ∨ 60 ≤ t) : False := by
  rcases h with h | ⟨h1, h2⟩
  · cases h
  · rcases hk with hk | ⟨o, ho, k0, k1, k2⟩
    · exact h1 hk
    · obtain ⟨t', ht', e⟩ := List.getElem_of_mem ho
      rw [List.length_take] at ht'
      have hl : t' < l.length := by omega
      have := h2 t' (by omega)
      rw [hit_is l x i t' hl] at this
      rw [List.getElem_take] at e
      rw [e] at this
      simp [k0, k1, k2] at this

set_option maxHeartbeats 3200000 in
set_option maxRecDepth 100000 in
theorem one_yes (w : World) (n : Nat) (v : Value) (l : List OpV) (h1 : 1 ≤ n) (h2 : n ≤ 40) (hv : RdOps w v l) (A : Option Addr) (pc : Nat) (picks : List Bool) (hp : RdB w (.slice A picks.length pc) picks) (hp3 : picks.length ≤ 300) :
    Calls Try.prog 3 #[.int .i64 n, v, .slice A picks.length pc] w fun e w' => e = .returned (.bool true) ∧ Below w.heap.size w w' := by
  have hv' := Lib.hid hv
  have hp' := Lib.hid hp
  obtain ⟨OA, oc, rfl, hlc, hoc, hops⟩ := hv
  have HOPS := Lib.hid hops
  have q3 : decide (300 < picks.length) = false := by simpa using hp3
  clear hops hp
  go_enter Try.func3, Try.ntmps3
  go_wp2_with fail
  refine (made_yes w n _ l h1 h2 hv'.out).mono ?_
  rintro e w1 ⟨g1, F1, rfl, hd, hF, b0⟩
  have few : Hid (Few 60 (madeD n (l.take 60))) := (Few.made n (l.take 60)).mono (by simp; omega)
  have facts := Lib.hid (made_up n (l.take 60))
  have OK := Lib.hid hd.ok
  obtain ⟨D, hD⟩ : ∃ D, D = madeD n (l.take 60) := ⟨_, rfl⟩
  rw [← hD] at hd few facts OK
  clear hD
  have M : Hid (Mine w w1 [dk F1 g1 D]) := (Mine.start w).newDk b0 hd hF
  have hwl : Hid (D.waits.length ≤ 60) := few.out.waits
  clear hd hF b0
  go_wp2_with fail
  refine (clone_h (M.out.get (l1 := [])) (by have := hwl.out; omega)).mono ?_
  rintro e w2 ⟨g2, F2, rfl, hd, hF, b⟩
  have M2 : Hid (Mine w w2 [dk F2 g2 D, dk F1 g1 D]) := M.out.newDk b hd hF
  clear hd hF b M
  go_wp2_with fail
  refine (clone_h (M2.out.get (l1 := [_])) (by have := hwl.out; omega)).mono ?_
  rintro e w3 ⟨g3, F3, rfl, hd, hF, b⟩
  have M3 : Hid (Mine w w3 [dk F3 g3 D, dk F2 g2 D, dk F1 g1 D]) := M2.out.newDk b hd hF
  clear hd hF b M2
  go_wp2_with fail
  refine (fail_h (M3.out.get (l1 := [_])) (by have := hwl.out; omega) _ [] (nilB _) (fun hp => by simp at hp)).mono ?_
  rintro e w4 ⟨rfl, F4, h4⟩
  have M4 : Hid (Mine w w4 [dk F3 g3 D, dk F4 g2 (D.fail []), dk F1 g1 D]) := M3.out.dk (l1 := [_]) h4
  clear h4 M3
  go_wp2_with fail
  refine (all_any (M4.out.get (l1 := [_, _])) (by have := hwl.out; omega)).mono ?_
  rintro e w5 ⟨vl, rfl, ho, b⟩
  have M5 : Hid (Mine w w5 [rw_ vl D.all, dk F3 g3 D, dk F4 g2 (D.fail []), dk F1 g1 D]) := M4.out.newRow b (by rw [all_length]; exact ho)
  clear ho b M4
  go_wp2_with fail
  refine (waits_h (M5.out.get (l1 := [_, _, _]))).mono ?_
  rintro e w' ⟨rfl, rfl⟩
  obtain ⟨m, hm⟩ : ∃ m, m = D.waits.length := ⟨_, rfl⟩
  rw [← hm]
  have hm60 : m ≤ 60 := by rw [hm]; exact hwl.out
  have HM := Lib.hid hm
  clear hm
  have hmk : ∀ W : World, (Instr.makeSlice 23 (.int .i64 (m : Int)) (.int .i64 (m : Int))).run Try.prog W = .ok (.slice (some ⟨W.heap.size, 0, none⟩) m m) (W.alloc (.cells (madeCells #[.bool false] m) 4)) := by
    intro W
    exact run_make_row' 23 4 (.bool false) 1 Try.underlying23 infoBool rfl .i64 .i64 m (by omega) (by omega) W
  go_wp2_with fail
  have hown := own_bools0 w5 m (by unfold maxLen; omega)
  have Mb : Hid (Mine w (w5.alloc (.cells (madeCells #[.bool false] m) 4)) [rw_ vl D.all, dk F3 g3 D, dk F4 g2 (D.fail []), dk F1 g1 D]) := M5.out.below ((Below.refl _ w5).alloc (Nat.le_refl _) _)
  have far := Lib.hid (M5.out.far (Nat.le_refl _))
  have hwb : Hid (w.heap.size ≤ w5.heap.size) := M5.out.bel.size
  clear hmk M5
  go_loopw [12, 47] (fun i i2 wr => ∃ k : Nat, k ≤ m ∧ i = .int .i64 k ∧ Hid (wr.ownsRow 0 4 1 (.slice (some ⟨w5.heap.size, 0, none⟩) m m) m ((trues k m).map Value.bool)) ∧ Hid (Mine w wr [rw_ vl D.all, dk F3 g3 D, dk F4 g2 (D.fail []), dk F1 g1 D]) ∧ w5.heap.size < wr.heap.size) (fun i _ _ => m - (intOf i).toNat)
  case atStart => exact ⟨0, Nat.zero_le _, rfl, hown, Mb, by simp⟩
  case round =>
    obtain ⟨k, hk, rfl, ho, Mk, hsz⟩ := hrel
    clear hown Mb
    by_cases hlt : k < m
    · have hc : ∃ x, wr.cell? ⟨w5.heap.size, k, none⟩ = some x := by
        have := ho.out.cellAt k (by omega)
        rw [this, List.getElem?_eq_getElem (by simp [trues_length hk]; exact hlt)]
        exact ⟨_, rfl⟩
      obtain ⟨x, hx⟩ := hc
      have hfz := ho.out.frozenAt (g := w5.heap.size) k
      go_wp2
      go_roundw
      case rel =>
        refine ⟨k + 1, by omega, by go_num, ?_, Mk.out.store far.out hwb.out _ _, by simpa using hsz⟩
        have st := (ho.out.stored k (.bool true)).1
        rw [trues_set hlt] at st
        exact st
      case measure => simp [intOf]; omega
    · obtain rfl : k = m := by omega
      have hb : Hid (RdB wr (.slice (some ⟨w5.heap.size, 0, none⟩) k k) (trues k k)) := by
        have := bools_read (l := trues k k) (g := w5.heap.size) (c := k) (b := 0) (w := wr) (by rw [trues_length (Nat.le_refl _)]; exact ho.out) (by rw [trues_length (Nat.le_refl _)]; omega)
        rwa [trues_length (Nat.le_refl _)] at this
      have hlen : Hid ((trues k k).length = k) := trues_length (Nat.le_refl _)
      have hfar1 : Hid (0 < (trues k k).length → ∀ j, (Value.slice (some ⟨w5.heap.size, 0, none⟩) k k).ownBlock = some j → ¬ F3 j) := fun _ j hj hf => far.out (dk F3 g3 D) (by simp) j hf (by simpa [Value.ownBlock] using hj.symm)
      clear ho far
      go_wp2_with fail
      refine (fail_h (Mk.out.get (l1 := [_])) (by have := hwl.out; omega) _ (trues k k) hb.out hfar1.out).mono ?_
      rintro e w6 ⟨rfl, F6, h6⟩
      have M6 : Hid (Mine w w6 [rw_ vl D.all, dk F6 g3 (D.fail (trues k k)), dk F4 g2 (D.fail []), dk F1 g1 D]) := Mk.out.dk (l1 := [_]) h6
      clear h6 Mk hb hfar1
      go_wp2_with fail
      have hpk : Hid (RdB w6 (.slice A picks.length pc) picks) := Rd.below hp'.out M6.out.bel
      have hfar2 : Hid (0 < picks.length → ∀ j, (Value.slice A picks.length pc).ownBlock = some j → ¬ F1 j) := hp'.out.far (Nat.le_refl _) (M6.out.abv (dk F1 g1 D) (by simp))
      refine (fail_h (M6.out.get (l1 := [_, _, _])) (by have := hwl.out; omega) _ picks hpk.out hfar2.out).mono ?_
      rintro e w7 ⟨rfl, F7, h7⟩
      have M7 : Hid (Mine w w7 [rw_ vl D.all, dk F6 g3 (D.fail (trues k k)), dk F4 g2 (D.fail []), dk F7 g1 (D.fail picks)]) := M6.out.dk (l1 := [_, _, _]) h7
      clear h7 M6 hpk hfar2
      go_wp2_with fail
      refine (start_h (M7.out.get (l1 := [_, _]))).mono ?_
      rintro e w8 ⟨rfl, F8, h8⟩
      rw [(fail_start D []).1]
      have M8 : Hid (Mine w w8 [rw_ vl D.all, dk F6 g3 (D.fail (trues k k)), dk F8 g2 (D.fail []).start, dk F7 g1 (D.fail picks)]) := M7.out.dk (l1 := [_, _]) h8
      clear h8 M7
      go_wp2_with fail
      refine (start_h (M8.out.get (l1 := [_, _, _]))).mono ?_
      rintro e w9 ⟨rfl, F9, h9⟩
      rw [(fail_start D picks).1]
      have M9 : Hid (Mine w w9 [rw_ vl D.all, dk F6 g3 (D.fail (trues k k)), dk F8 g2 (D.fail []).start, dk F9 g1 (D.fail picks).start]) := M8.out.dk (l1 := [_, _, _]) h9
      clear h9 M8
      go_wp2_with fail
      refine (start_h (M9.out.get (l1 := [_]))).mono ?_
      rintro e w10 ⟨rfl, F10, h10⟩
      rw [(fail_start D (trues k k)).1]
      have M10 : Hid (Mine w w10 [rw_ vl D.all, dk F10 g3 (D.fail (trues k k)).start, dk F8 g2 (D.fail []).start, dk F9 g1 (D.fail picks).start]) := M9.out.dk (l1 := [_]) h10
      clear h10 M9
      have fs : ∀ p, (D.fail p).start.waits.length < 9223372036854775807 := fun p => by rw [(fail_start D p).2]; simp [Dk.fail, Dk.settled]
      have FS := Lib.hid fs
      have fl : ∀ p, (D.fail p).start.l.length = D.l.length := fun p => by rw [(fail_start D p).2]; simp [Dk.fail, Dk.settled, Dk.settle_length]
      have FL := Lib.hid fl
      clear fs fl
      go_wp2_with fail
      refine (all_any (M10.out.get (l1 := [_, _])) (FS.out _)).mono ?_
      rintro e w11 ⟨vk, rfl, ho, b⟩
      have M11 : Hid (Mine w w11 [rw_ vk (D.fail []).start.all, rw_ vl D.all, dk F10 g3 (D.fail (trues k k)).start, dk F8 g2 (D.fail []).start, dk F9 g1 (D.fail picks).start]) := M10.out.newRow b (by rw [all_length]; exact ho)
      clear ho b M10
      go_wp2_with fail
      refine (all_any (M11.out.get (l1 := [_, _, _, _])) (FS.out _)).mono ?_
      rintro e w12 ⟨vn, rfl, ho, b⟩
      have M12 : Hid (Mine w w12 [rw_ vn (D.fail picks).start.all, rw_ vk (D.fail []).start.all, rw_ vl D.all, dk F10 g3 (D.fail (trues k k)).start, dk F8 g2 (D.fail []).start, dk F9 g1 (D.fail picks).start]) := M11.out.newRow b (by rw [all_length]; exact ho)
      clear ho b M11
      go_wp2_with fail
      refine (all_any (M12.out.get (l1 := [_, _, _])) (FS.out _)).mono ?_
      rintro e w13 ⟨vm, rfl, ho, b⟩
      have M13 : Hid (Mine w w13 [rw_ vm (D.fail (trues k k)).start.all, rw_ vn (D.fail picks).start.all, rw_ vk (D.fail []).start.all, rw_ vl D.all, dk F10 g3 (D.fail (trues k k)).start, dk F8 g2 (D.fail []).start, dk F9 g1 (D.fail picks).start]) := M12.out.newRow b (by rw [all_length]; exact ho)
      clear ho b M12
      -- the four rows, laid open
      have dpos : 0 < D.l.length := OK.out.pos
      have dmost := OK.out.most
      obtain ⟨r1, ro⟩ := M13.out.row (l1 := [])
      obtain ⟨gm, cm, rfl, am⟩ := row_at ro (by rw [all_length, FL.out]; exact dpos)
      obtain ⟨r2, ro⟩ := M13.out.row (l1 := [_])
      obtain ⟨gn, cn, rfl, an⟩ := row_at ro (by rw [all_length, FL.out]; exact dpos)
      obtain ⟨r3, ro⟩ := M13.out.row (l1 := [_, _])
      obtain ⟨gk, ck, rfl, ak⟩ := row_at ro (by rw [all_length, FL.out]; exact dpos)
      obtain ⟨r4, ro⟩ := M13.out.row (l1 := [_, _, _])
      obtain ⟨gl, cl, rfl, al⟩ := row_at ro (by rw [all_length]; exact dpos)
      simp only [all_length, FL.out] at am an ak al
      have AM := Lib.hid am; have AN := Lib.hid an; have AK := Lib.hid ak; have AL := Lib.hid al
      have BEL : Hid (Below w.heap.size w w13) := M13.out.bel
      have OKS := Lib.hid (one_ok D (l.take 60) facts.out.1 facts.out.2 OK.out picks (trues k k) (by rw [trues_all, HM.out]))
      clear am an ak al ro M13 OK FS
      have e1 : Hid ((D.fail (trues k k)).start.all.length = D.l.length) := by unfold Hid; rw [all_length, FL.out]
      have e2 : Hid ((D.fail picks).start.all.length = D.l.length) := by unfold Hid; rw [all_length, FL.out]
      have e3 : Hid ((D.fail []).start.all.length = D.l.length) := by unfold Hid; rw [all_length, FL.out]
      have e4 : Hid (D.all.length = D.l.length) := by unfold Hid; rw [all_length]
      rw [e1.out, e2.out, e3.out, e4.out]
      obtain ⟨lm, hlm⟩ : ∃ lm, lm = (D.fail (trues k k)).start.all := ⟨_, rfl⟩
      obtain ⟨ln, hln⟩ : ∃ ln, ln = (D.fail picks).start.all := ⟨_, rfl⟩
      obtain ⟨lk, hlk⟩ : ∃ lk, lk = (D.fail []).start.all := ⟨_, rfl⟩
      obtain ⟨ll, hll⟩ : ∃ ll, ll = D.all := ⟨_, rfl⟩
      rw [← hlm] at AM OKS; rw [← hln] at AN OKS; rw [← hlk] at AK OKS; rw [← hll] at AL OKS
      obtain ⟨N, hN⟩ : ∃ N, N = D.l.length := ⟨_, rfl⟩
      rw [← hN] at AM AN AK AL OKS dpos dmost ⊢
      clear hlm hln hlk hll hN e1 e2 e3 e4 FL HM facts few hwl
      go_wp2_with fail
      go_loopw [16, 81] (fun i i2 wr => ∃ j : Nat, j ≤ N ∧ i = .int .i64 j ∧ Hid (Below w13.heap.size w13 wr)) (fun i _ _ => N - (intOf i).toNat)
      case atStart => exact ⟨0, Nat.zero_le _, rfl, Below.refl _ _⟩
      case round =>
        obtain ⟨i, hi, rfl, hb⟩ := hrel
        by_cases hlt : i < N
        · have cn_ := cell_below hb.out (AN.out i hlt)
          have ck_ := cell_below hb.out (AK.out i hlt)
          have cl_ := cell_below hb.out (AL.out i hlt)
          have cm_ := cell_below hb.out (AM.out i hlt)
          have HOK := Lib.hid (OKS.out i hlt)
          obtain ⟨xn, hxn⟩ : ∃ x, x = ln.getD i ByteArray.empty := ⟨_, rfl⟩
          obtain ⟨xk, hxk⟩ : ∃ x, x = lk.getD i ByteArray.empty := ⟨_, rfl⟩
          obtain ⟨xl, hxl⟩ : ∃ x, x = ll.getD i ByteArray.empty := ⟨_, rfl⟩
          obtain ⟨xm, hxm⟩ : ∃ x, x = lm.getD i ByteArray.empty := ⟨_, rfl⟩
          rw [← hxn] at cn_ HOK; rw [← hxk] at ck_ HOK; rw [← hxl] at cl_ HOK; rw [← hxm] at cm_ HOK
          have HXN := Lib.hid hxn; have HXM := Lib.hid hxm; have HXL := Lib.hid hxl
          clear hxn hxm hxl hxk
          have cm2 : ∀ W, Below w13.heap.size w13 W → W.cell? ⟨gm, i, none⟩ = some (.string xm) := fun W hW => by rw [HXM.out]; exact cell_below hW (AM.out i hlt)
          have hmx : Hid ((xm.toList == xl.toList) = true) := by unfold Hid; rw [beqS]; simpa using HOK.out.2
          have CM2 := Lib.hid cm2
          clear cm2
          have hmx' := hmx.out
          by_cases hnk : xn = xk
          · have e : (xn.toList == xk.toList) = true := by rw [beqS]; simpa using hnk
            clear hnk
            go_wp2_with fail
            refine wp_region_flag (fun w' => w'.cell? ⟨gn, i, none⟩ = some (.string xn) ∧ w'.cell? ⟨gk, i, none⟩ = some (.string xk) ∧ w'.cell? ⟨gl, i, none⟩ = some (.string xl)) [(0, 1), (1, 1), (2, 1), (4, 1), (5, 1), (6, 1), (3, 2), (7, 0), (8, 1), (9, 1), (10, 1), (11, 1), (12, 1), (14, 1), (15, 1), (16, 1), (13, 2), (17, 0), (18, 1), (19, 1), (20, 1)] (by kernel_rfl) (by kernel_rfl) ⟨cn_, ck_, cl_⟩ ?_
            simp only [ordered, List.map_cons, List.map_nil, List.getD_cons_zero, List.getD_cons_succ]
            repeat (refine wpF_dry (fun K hK => ?_); go_simp; refine hK _ ?_; clear hK K)
            refine wpF_read (.string xn) rfl (fun w' hS => ?_) (fun K hK => ?_)
            · obtain ⟨s1, s2, s3⟩ := hS
              go_simp
            go_simp
            refine hK _ ?_
            clear hK K
            refine wpF_do ?_
            go_wp2_with fail
            refine ⟨⟨cn_, ck_, cl_⟩, ?_⟩
            repeat (refine wpF_dry (fun K hK => ?_); go_simp; refine hK _ ?_; clear hK K)
            refine wpF_skip (fun K hK => ?_)
            go_simp
            refine hK _ ?_
            clear hK K
            refine wpF_do ?_
            go_wp2_with fail
            refine ⟨⟨cn_, ck_, cl_⟩, ?_⟩
            repeat (refine wpF_dry (fun K hK => ?_); go_simp; refine hK _ ?_; clear hK K)
            refine wpF_nil ?_
            go_wp2_with fail
            go_loopw [17, 18, 107] (fun okv j j2 wr2 => ∃ (t : Nat) (b : Bool), t ≤ l.length ∧ t ≤ 60 ∧ j = .int .i64 t ∧ okv = .bool b ∧ Hid (b = true ∨ (¬ xn = xk ∧ ∀ t', t' < t → hit l xn i t' = false)) ∧ Hid (Below w13.heap.size w13 wr2)) (fun _ j _ _ => l.length - (intOf j).toNat)
            case atStart => exact ⟨0, _, Nat.zero_le _, by decide, rfl, rfl, .inl rfl, hb.out.drew⟩
            case round =>
              obtain ⟨t, b, ht, ht6, rfl, rfl, hbt, hb2⟩ := hrel
              cases b with
              | true =>
                by_cases e1 : t < l.length
                · by_cases e2 : (t : Int) < 60
                  all_goals
                    go_wp2_with fail
                    refine wp_region_flag (fun w' => w'.cell? ⟨gm, i, none⟩ = some (.string xm)) [(0, 1), (1, 1), (2, 1), (3, 1), (4, 1), (5, 1), (7, 1), (8, 1), (9, 1), (6, 2), (10, 0), (11, 1), (12, 1)] (by kernel_rfl) (by kernel_rfl) (CM2.out _ hb2.out.drew) ?_
                    simp only [ordered, List.map_cons, List.map_nil, List.getD_cons_zero, List.getD_cons_succ]
                    have cl2 := cell_below hb2.out (AL.out i hlt)
                    rw [← HXL.out] at cl2
                    repeat (refine wpF_dry (fun K hK => ?_); go_simp; refine hK _ ?_; clear hK K)
                    refine wpF_read (.string xm) rfl (fun w' hS => by go_simp) (fun K hK => ?_)
                    go_simp
                    refine hK _ ?_
                    clear hK K
                    refine wpF_do ?_
                    go_wp2_with fail
                    refine ⟨CM2.out _ hb2.out.drew, ?_⟩
                    repeat (refine wpF_dry (fun K hK => ?_); go_simp; refine hK _ ?_; clear hK K)
                    refine wpF_nil ?_
                    go_wp2
                    go_roundw
                    case rel => exact ⟨i + 1, by omega, by go_num, hb2.out.drew⟩
                    case measure => simp [intOf]; omega
                · go_wp2_with fail
                  refine wp_region_flag (fun w' => w'.cell? ⟨gm, i, none⟩ = some (.string xm)) [(0, 1), (1, 1), (2, 1), (3, 1), (4, 1), (5, 1), (7, 1), (8, 1), (9, 1), (6, 2), (10, 0), (11, 1), (12, 1)] (by kernel_rfl) (by kernel_rfl) (CM2.out _ hb2.out.drew) ?_
                  simp only [ordered, List.map_cons, List.map_nil, List.getD_cons_zero, List.getD_cons_succ]
                  have cl2 := cell_below hb2.out (AL.out i hlt)
                  rw [← HXL.out] at cl2
                  repeat (refine wpF_dry (fun K hK => ?_); go_simp; refine hK _ ?_; clear hK K)
                  refine wpF_read (.string xm) rfl (fun w' hS => by go_simp) (fun K hK => ?_)
                  go_simp
                  refine hK _ ?_
                  clear hK K
                  refine wpF_do ?_
                  go_wp2_with fail
                  refine ⟨CM2.out _ hb2.out.drew, ?_⟩
                  repeat (refine wpF_dry (fun K hK => ?_); go_simp; refine hK _ ?_; clear hK K)
                  refine wpF_nil ?_
                  go_wp2
                  go_roundw
                  case rel => exact ⟨i + 1, by omega, by go_num, hb2.out.drew⟩
                  case measure => simp [intOf]; omega
              | false =>
                by_cases e1 : t < l.length
                · by_cases e2 : (t : Int) < 60
                  · obtain ⟨gb, off, rfl, ho⟩ := HOPS.out (by omega)
                    obtain ⟨c0, c1, c2, c3, c4, c5⟩ := (ho.below (BEL.out.trans (hb2.out.mono BEL.out.size))) t e1
                    have cn2 := cell_below hb2.out (AN.out i hlt)
                    rw [← HXN.out] at cn2
                    clear c5 ho
                    have HH := Lib.hid (hit_is l xn i t e1)
                    obtain ⟨o, hoo⟩ : ∃ o, o = l[t] := ⟨_, rfl⟩
                    rw [← hoo] at c0 c1 c2 c3 c4 HH
                    clear hoo
                    unfold OpV.pv at c4
                    by_cases k0 : o.kind = 0
                    · rw [k0] at c0
                      by_cases k1 : o.at_ = (i : Int)
                      · rw [k1] at c1
                        have HT : Hid (hit l xn i t = (xn.toList == (Dk.rep (filledN o.long) o.fill).toList)) := hit_eq k0 k1 HH.out
                        have k0' := Lib.hid k0; have k1' := Lib.hid k1
                        clear k0 k1 cn_ ck_ cl_ cm_
                        go_wp2_with fail
                        refine wp_region_flag (fun w' => w'.cell? ⟨gn, i, none⟩ = some (.string xn)) [(0, 1), (1, 1), (2, 1), (3, 1), (4, 0), (5, 1), (6, 1), (7, 1), (8, 1), (9, 1), (10, 1), (12, 1), (11, 0), (13, 1), (14, 1), (15, 1), (16, 1), (17, 1), (18, 1), (20, 1), (21, 1), (22, 1), (19, 2), (23, 0), (24, 0), (25, 1), (26, 1), (27, 1)] (by kernel_rfl) (by kernel_rfl) cn2 ?_
                        simp only [ordered, List.map_cons, List.map_nil, List.getD_cons_zero, List.getD_cons_succ]
                        repeat (refine wpF_dry (fun K hK => ?_); go_simp; refine hK _ ?_; clear hK K)
                        refine wpF_do ?_
                        go_wp2_with fail
                        refine ⟨cn2, ?_⟩
                        repeat (refine wpF_dry (fun K hK => ?_); go_simp; refine hK _ ?_; clear hK K)
                        refine wpF_do ?_
                        go_wp2_with fail
                        refine ⟨cn2, ?_⟩
                        repeat (refine wpF_dry (fun K hK => ?_); go_simp; refine hK _ ?_; clear hK K)
                        refine wpF_read (.string xn) rfl (fun w' hS => by go_simp) (fun K hK => ?_)
                        go_simp
                        refine hK _ ?_
                        clear hK K
                        refine wpF_do ?_
                        go_wp2_with fail
                        refine ⟨cn2, ?_⟩
                        refine wpF_do ?_
                        go_wp2_with fail
                        refine (filled_any wr.drew _ _ o.long o.fill _ _ _).mono ?_
                        rintro e w20 ⟨rfl, b20⟩
                        have cn3 : w20.cell? ⟨gn, i, none⟩ = some (.string xn) := cell_below b20 cn2
                        have B20 : Hid (Below w13.heap.size w13 w20) := (hb2.out.drew).trans (b20.mono hb2.out.size)
                        clear b20
                        go_wp2_with fail
                        refine ⟨cn3, ?_⟩
                        repeat (refine wpF_dry (fun K hK => ?_); go_simp; refine hK _ ?_; clear hK K)
                        refine wpF_nil ?_
                        go_wp2
                        go_roundw
                        case rel =>
                          refine ⟨t + 1, _, by omega, by omega, by go_num, rfl, ?_, B20⟩
                          exact step_hit hbt.out HT.out
                        case measure => simp [intOf]; omega
                      · have k1n : (o.at_ == (i : Int)) = false := by simpa using k1
                        have HT : Hid (hit l xn i t = false) := by unfold Hid; rw [HH.out]; simp [k1]
                        clear k0 k1 cn_ ck_ cl_ cm_
                        go_wp2_with fail
                        refine wp_region_flag (fun _ => True) [(0, 1), (1, 1), (2, 1), (3, 1), (4, 0), (5, 1), (6, 1), (7, 1), (8, 1), (9, 1), (10, 1), (12, 1), (11, 0), (13, 1), (14, 1), (15, 1), (16, 1), (17, 1), (18, 1), (20, 1), (21, 1), (22, 1), (19, 2), (23, 0), (24, 0), (25, 1), (26, 1), (27, 1)] (by kernel_rfl) (by kernel_rfl) trivial ?_
                        simp only [ordered, List.map_cons, List.map_nil, List.getD_cons_zero, List.getD_cons_succ]
                        repeat (refine wpF_dry (fun K hK => ?_); go_simp; refine hK _ ?_; clear hK K)
                        refine wpF_do ?_
                        go_wp2_with fail
                        refine ⟨trivial, ?_⟩
                        repeat (refine wpF_dry (fun K hK => ?_); go_simp; refine hK _ ?_; clear hK K)
                        refine wpF_do ?_
                        go_wp2_with fail
                        refine ⟨trivial, ?_⟩
                        repeat (refine wpF_dry (fun K hK => ?_); go_simp; refine hK _ ?_; clear hK K)
                        refine wpF_skip (fun K hK => ?_)
                        go_simp
                        refine hK _ ?_
                        clear hK K
                        refine wpF_do ?_
                        go_wp2_with fail
                        refine ⟨trivial, ?_⟩
                        refine wpF_do ?_
                        go_wp2_with fail
                        refine ⟨trivial, ?_⟩
                        repeat (refine wpF_dry (fun K hK => ?_); go_simp; refine hK _ ?_; clear hK K)
                        refine wpF_nil ?_
                        go_wp2
                        go_roundw
                        case rel => exact ⟨t + 1, false, by omega, by omega, by go_num, rfl, step_no hbt.out HT.out, hb2.out.drew⟩
                        case measure => simp [intOf]; omega
                    · have k0n : (o.kind == 0) = false := by simpa using k0
                      have HT : Hid (hit l xn i t = false) := by unfold Hid; rw [HH.out]; simp [k0]
                      clear k0 cn_ ck_ cl_ cm_
                      go_wp2_with fail
                      refine wp_region_flag (fun _ => True) [(0, 1), (1, 1), (2, 1), (3, 1), (4, 0), (5, 1), (6, 1), (7, 1), (8, 1), (9, 1), (10, 1), (12, 1), (11, 0), (13, 1), (14, 1), (15, 1), (16, 1), (17, 1), (18, 1), (20, 1), (21, 1), (22, 1), (19, 2), (23, 0), (24, 0), (25, 1), (26, 1), (27, 1)] (by kernel_rfl) (by kernel_rfl) trivial ?_
                      simp only [ordered, List.map_cons, List.map_nil, List.getD_cons_zero, List.getD_cons_succ]
                      repeat (refine wpF_dry (fun K hK => ?_); go_simp; refine hK _ ?_; clear hK K)
                      refine wpF_do ?_
                      go_wp2_with fail
                      refine ⟨trivial, ?_⟩
                      repeat (refine wpF_dry (fun K hK => ?_); go_simp; refine hK _ ?_; clear hK K)
                      refine wpF_do ?_
                      go_wp2_with fail
                      refine ⟨trivial, ?_⟩
                      repeat (refine wpF_dry (fun K hK => ?_); go_simp; refine hK _ ?_; clear hK K)
                      refine wpF_skip (fun K hK => ?_)
                      go_simp
                      refine hK _ ?_
                      clear hK K
                      refine wpF_do ?_
                      go_wp2_with fail
                      refine ⟨trivial, ?_⟩
                      refine wpF_do ?_
                      go_wp2_with fail
                      refine ⟨trivial, ?_⟩
                      repeat (refine wpF_dry (fun K hK => ?_); go_simp; refine hK _ ?_; clear hK K)
                      refine wpF_nil ?_
                      go_wp2
                      go_roundw
                      case rel => exact ⟨t + 1, false, by omega, by omega, by go_num, rfl, step_no hbt.out HT.out, hb2.out.drew⟩
                      case measure => simp [intOf]; omega
                  · exact (no_hit hbt.out HOK.out.1 (by omega)).elim
                · exact (no_hit hbt.out HOK.out.1 (by omega)).elim
          · have e : (xn.toList == xk.toList) = false := by rw [beqS]; simpa using hnk
            have hne := Lib.hid hnk
            clear hnk
            go_wp2_with fail
            refine wp_region_flag (fun w' => w'.cell? ⟨gn, i, none⟩ = some (.string xn) ∧ w'.cell? ⟨gk, i, none⟩ = some (.string xk) ∧ w'.cell? ⟨gl, i, none⟩ = some (.string xl)) [(0, 1), (1, 1), (2, 1), (4, 1), (5, 1), (6, 1), (3, 2), (7, 0), (8, 1), (9, 1), (10, 1), (11, 1), (12, 1), (14, 1), (15, 1), (16, 1), (13, 2), (17, 0), (18, 1), (19, 1), (20, 1)] (by kernel_rfl) (by kernel_rfl) ⟨cn_, ck_, cl_⟩ ?_
            simp only [ordered, List.map_cons, List.map_nil, List.getD_cons_zero, List.getD_cons_succ]
            repeat (refine wpF_dry (fun K hK => ?_); go_simp; refine hK _ ?_; clear hK K)
            refine wpF_read (.string xn) rfl (fun w' hS => ?_) (fun K hK => ?_)
            · obtain ⟨s1, s2, s3⟩ := hS
              go_simp
            go_simp
            refine hK _ ?_
            clear hK K
            refine wpF_do ?_
            go_wp2_with fail
            refine ⟨⟨cn_, ck_, cl_⟩, ?_⟩
            repeat (refine wpF_dry (fun K hK => ?_); go_simp; refine hK _ ?_; clear hK K)
            refine wpF_read (.string xn) rfl (fun w' hS => ?_) (fun K hK => ?_)
            · obtain ⟨s1, s2, s3⟩ := hS
              go_simp
            go_simp
            refine hK _ ?_
            clear hK K
            refine wpF_do ?_
            go_wp2_with fail
            refine ⟨⟨cn_, ck_, cl_⟩, ?_⟩
            repeat (refine wpF_dry (fun K hK => ?_); go_simp; refine hK _ ?_; clear hK K)
            refine wpF_nil ?_
            go_wp2_with fail
            go_loopw [17, 18, 107] (fun okv j j2 wr2 => ∃ (t : Nat) (b : Bool), t ≤ l.length ∧ t ≤ 60 ∧ j = .int .i64 t ∧ okv = .bool b ∧ Hid (b = true ∨ (¬ xn = xk ∧ ∀ t', t' < t → hit l xn i t' = false)) ∧ Hid (Below w13.heap.size w13 wr2)) (fun _ j _ _ => l.length - (intOf j).toNat)
            case atStart => exact ⟨0, _, Nat.zero_le _, by decide, rfl, rfl, start_no hne.out, hb.out.drew⟩
            case round =>
              obtain ⟨t, b, ht, ht6, rfl, rfl, hbt, hb2⟩ := hrel
              cases b with
              | true =>
                by_cases e1 : t < l.length
                · by_cases e2 : (t : Int) < 60
                  all_goals
                    go_wp2_with fail
                    refine wp_region_flag (fun w' => w'.cell? ⟨gm, i, none⟩ = some (.string xm)) [(0, 1), (1, 1), (2, 1), (3, 1), (4, 1), (5, 1), (7, 1), (8, 1), (9, 1), (6, 2), (10, 0), (11, 1), (12, 1)] (by kernel_rfl) (by kernel_rfl) (CM2.out _ hb2.out.drew) ?_
                    simp only [ordered, List.map_cons, List.map_nil, List.getD_cons_zero, List.getD_cons_succ]
                    have cl2 := cell_below hb2.out (AL.out i hlt)
                    rw [← HXL.out] at cl2
                    repeat (refine wpF_dry (fun K hK => ?_); go_simp; refine hK _ ?_; clear hK K)
                    refine wpF_read (.string xm) rfl (fun w' hS => by go_simp) (fun K hK => ?_)
                    go_simp
                    refine hK _ ?_
                    clear hK K
                    refine wpF_do ?_
                    go_wp2_with fail
                    refine ⟨CM2.out _ hb2.out.drew, ?_⟩
                    repeat (refine wpF_dry (fun K hK => ?_); go_simp; refine hK _ ?_; clear hK K)
                    refine wpF_nil ?_
                    go_wp2
                    go_roundw
                    case rel => exact ⟨i + 1, by omega, by go_num, hb2.out.drew⟩
                    case measure => simp [intOf]; omega
                · go_wp2_with fail
                  refine wp_region_flag (fun w' => w'.cell? ⟨gm, i, none⟩ = some (.string xm)) [(0, 1), (1, 1), (2, 1), (3, 1), (4, 1), (5, 1), (7, 1), (8, 1), (9, 1), (6, 2), (10, 0), (11, 1), (12, 1)] (by kernel_rfl) (by kernel_rfl) (CM2.out _ hb2.out.drew) ?_
                  simp only [ordered, List.map_cons, List.map_nil, List.getD_cons_zero, List.getD_cons_succ]
                  have cl2 := cell_below hb2.out (AL.out i hlt)
                  rw [← HXL.out] at cl2
                  repeat (refine wpF_dry (fun K hK => ?_); go_simp; refine hK _ ?_; clear hK K)
                  refine wpF_read (.string xm) rfl (fun w' hS => by go_simp) (fun K hK => ?_)
                  go_simp
                  refine hK _ ?_
                  clear hK K
                  refine wpF_do ?_
                  go_wp2_with fail
                  refine ⟨CM2.out _ hb2.out.drew, ?_⟩
                  repeat (refine wpF_dry (fun K hK => ?_); go_simp; refine hK _ ?_; clear hK K)
                  refine wpF_nil ?_
                  go_wp2
                  go_roundw
                  case rel => exact ⟨i + 1, by omega, by go_num, hb2.out.drew⟩
                  case measure => simp [intOf]; omega
              | false =>
                by_cases e1 : t < l.length
                · by_cases e2 : (t : Int) < 60
                  · obtain ⟨gb, off, rfl, ho⟩ := HOPS.out (by omega)
                    obtain ⟨c0, c1, c2, c3, c4, c5⟩ := (ho.below (BEL.out.trans (hb2.out.mono BEL.out.size))) t e1
                    have cn2 := cell_below hb2.out (AN.out i hlt)
                    rw [← HXN.out] at cn2
                    clear c5 ho
                    have HH := Lib.hid (hit_is l xn i t e1)
                    obtain ⟨o, hoo⟩ : ∃ o, o = l[t] := ⟨_, rfl⟩
                    rw [← hoo] at c0 c1 c2 c3 c4 HH
                    clear hoo
                    unfold OpV.pv at c4
                    by_cases k0 : o.kind = 0
                    · rw [k0] at c0
                      by_cases k1 : o.at_ = (i : Int)
                      · rw [k1] at c1
                        have HT : Hid (hit l xn i t = (xn.toList == (Dk.rep (filledN o.long) o.fill).toList)) := hit_eq k0 k1 HH.out
                        have k0' := Lib.hid k0; have k1' := Lib.hid k1
                        clear k0 k1 cn_ ck_ cl_ cm_
                        go_wp2_with fail
                        refine wp_region_flag (fun w' => w'.cell? ⟨gn, i, none⟩ = some (.string xn)) [(0, 1), (1, 1), (2, 1), (3, 1), (4, 0), (5, 1), (6, 1), (7, 1), (8, 1), (9, 1), (10, 1), (12, 1), (11, 0), (13, 1), (14, 1), (15, 1), (16, 1), (17, 1), (18, 1), (20, 1), (21, 1), (22, 1), (19, 2), (23, 0), (24, 0), (25, 1), (26, 1), (27, 1)] (by kernel_rfl) (by kernel_rfl) cn2 ?_
                        simp only [ordered, List.map_cons, List.map_nil, List.getD_cons_zero, List.getD_cons_succ]
                        repeat (refine wpF_dry (fun K hK => ?_); go_simp; refine hK _ ?_; clear hK K)
                        refine wpF_do ?_
                        go_wp2_with fail
                        refine ⟨cn2, ?_⟩
                        repeat (refine wpF_dry (fun K hK => ?_); go_simp; refine hK _ ?_; clear hK K)
                        refine wpF_do ?_
                        go_wp2_with fail
                        refine ⟨cn2, ?_⟩
                        repeat (refine wpF_dry (fun K hK => ?_); go_simp; refine hK _ ?_; clear hK K)
                        refine wpF_read (.string xn) rfl (fun w' hS => by go_simp) (fun K hK => ?_)
                        go_simp
                        refine hK _ ?_
                        clear hK K
                        refine wpF_do ?_
                        go_wp2_with fail
                        refine ⟨cn2, ?_⟩
                        refine wpF_do ?_
                        go_wp2_with fail
                        refine (filled_any wr.drew _ _ o.long o.fill _ _ _).mono ?_
                        rintro e w20 ⟨rfl, b20⟩
                        have cn3 : w20.cell? ⟨gn, i, none⟩ = some (.string xn) := cell_below b20 cn2
                        have B20 : Hid (Below w13.heap.size w13 w20) := (hb2.out.drew).trans (b20.mono hb2.out.size)
                        clear b20
                        go_wp2_with fail
                        refine ⟨cn3, ?_⟩
                        repeat (refine wpF_dry (fun K hK => ?_); go_simp; refine hK _ ?_; clear hK K)
                        refine wpF_nil ?_
                        go_wp2
                        go_roundw
                        case rel =>
                          refine ⟨t + 1, _, by omega, by omega, by go_num, rfl, ?_, B20⟩
                          exact step_hit hbt.out HT.out
                        case measure => simp [intOf]; omega
                      · have k1n : (o.at_ == (i : Int)) = false := by simpa using k1
                        have HT : Hid (hit l xn i t = false) := by unfold Hid; rw [HH.out]; simp [k1]
                        clear k0 k1 cn_ ck_ cl_ cm_
                        go_wp2_with fail
                        refine wp_region_flag (fun _ => True) [(0, 1), (1, 1), (2, 1), (3, 1), (4, 0), (5, 1), (6, 1), (7, 1), (8, 1), (9, 1), (10, 1), (12, 1), (11, 0), (13, 1), (14, 1), (15, 1), (16, 1), (17, 1), (18, 1), (20, 1), (21, 1), (22, 1), (19, 2), (23, 0), (24, 0), (25, 1), (26, 1), (27, 1)] (by kernel_rfl) (by kernel_rfl) trivial ?_
                        simp only [ordered, List.map_cons, List.map_nil, List.getD_cons_zero, List.getD_cons_succ]
                        repeat (refine wpF_dry (fun K hK => ?_); go_simp; refine hK _ ?_; clear hK K)
                        refine wpF_do ?_
                        go_wp2_with fail
                        refine ⟨trivial, ?_⟩
                        repeat (refine wpF_dry (fun K hK => ?_); go_simp; refine hK _ ?_; clear hK K)
                        refine wpF_do ?_
                        go_wp2_with fail
                        refine ⟨trivial, ?_⟩
                        repeat (refine wpF_dry (fun K hK => ?_); go_simp; refine hK _ ?_; clear hK K)
                        refine wpF_skip (fun K hK => ?_)
                        go_simp
                        refine hK _ ?_
                        clear hK K
                        refine wpF_do ?_
                        go_wp2_with fail
                        refine ⟨trivial, ?_⟩
                        refine wpF_do ?_
                        go_wp2_with fail
                        refine ⟨trivial, ?_⟩
                        repeat (refine wpF_dry (fun K hK => ?_); go_simp; refine hK _ ?_; clear hK K)
                        refine wpF_nil ?_
                        go_wp2
                        go_roundw
                        case rel => exact ⟨t + 1, false, by omega, by omega, by go_num, rfl, step_no hbt.out HT.out, hb2.out.drew⟩
                        case measure => simp [intOf]; omega
                    · have k0n : (o.kind == 0) = false := by simpa using k0
                      have HT : Hid (hit l xn i t = false) := by unfold Hid; rw [HH.out]; simp [k0]
                      clear k0 cn_ ck_ cl_ cm_
                      go_wp2_with fail
                      refine wp_region_flag (fun _ => True) [(0, 1), (1, 1), (2, 1), (3, 1), (4, 0), (5, 1), (6, 1), (7, 1), (8, 1), (9, 1), (10, 1), (12, 1), (11, 0), (13, 1), (14, 1), (15, 1), (16, 1), (17, 1), (18, 1), (20, 1), (21, 1), (22, 1), (19, 2), (23, 0), (24, 0), (25, 1), (26, 1), (27, 1)] (by kernel_rfl) (by kernel_rfl) trivial ?_
                      simp only [ordered, List.map_cons, List.map_nil, List.getD_cons_zero, List.getD_cons_succ]
                      repeat (refine wpF_dry (fun K hK => ?_); go_simp; refine hK _ ?_; clear hK K)
                      refine wpF_do ?_
                      go_wp2_with fail
                      refine ⟨trivial, ?_⟩
                      repeat (refine wpF_dry (fun K hK => ?_); go_simp; refine hK _ ?_; clear hK K)
                      refine wpF_do ?_
                      go_wp2_with fail
                      refine ⟨trivial, ?_⟩
                      repeat (refine wpF_dry (fun K hK => ?_); go_simp; refine hK _ ?_; clear hK K)
                      refine wpF_skip (fun K hK => ?_)
                      go_simp
                      refine hK _ ?_
                      clear hK K
                      refine wpF_do ?_
                      go_wp2_with fail
                      refine ⟨trivial, ?_⟩
                      refine wpF_do ?_
                      go_wp2_with fail
                      refine ⟨trivial, ?_⟩
                      repeat (refine wpF_dry (fun K hK => ?_); go_simp; refine hK _ ?_; clear hK K)
                      refine wpF_nil ?_
                      go_wp2
                      go_roundw
                      case rel => exact ⟨t + 1, false, by omega, by omega, by go_num, rfl, step_no hbt.out HT.out, hb2.out.drew⟩
                      case measure => simp [intOf]; omega
                  · exact (no_hit hbt.out HOK.out.1 (by omega)).elim
                · exact (no_hit hbt.out HOK.out.1 (by omega)).elim
        · clear AM AN AK AL OKS HOPS
          go_wp2_with fail
          refine (lives6 _).mono ?_
          rintro e w20 ⟨rfl, b20⟩
          have B20 : Hid (Below w.heap.size w w20) := (BEL.out.trans (hb.out.mono BEL.out.size)).trans (b20.mono (Nat.le_trans BEL.out.size hb.out.size))
          clear b20
          go_wp2
          go_ret
          exact ⟨rfl, B20.out⟩
end Go.Proofs.Ytfkonndbgmmckaa
