/- JsP: changes in order are but one list; what a commit leaves is no matter of their order. In plain words. -/
import Derived.Test.YtpaabfadniakoaaMp15
set_option linter.unusedVariables false
set_option linter.unusedSimpArgs false
namespace Go.Proofs.Ytpaabfadniakoaa
open Go.RowKit

theorem dup_pair {l : List (Int × ByteArray)} : ∀ {n : Nat}, n ≤ l.length → dupK l n = false → ∀ i j (hi : i < j) (hj : j < n) (h1 : j < l.length), l[i].1 ≠ l[j].1
  | 0, _, _, i, j, _, hj, _ => absurd hj (Nat.not_lt_zero _)
  | n + 1, hn, hd, i, j, hi, hj, h1 => by
    rw [dupK, Bool.or_eq_false_iff] at hd
    obtain ⟨h2, h3⟩ := hd
    by_cases e : j = n
    · subst e
      have hg : l.getD j (0, ByteArray.empty) = l[j] := by rw [List.getD_eq_getElem?_getD, List.getElem?_eq_getElem h1]; rfl
      rw [hg, List.any_eq_false] at h3
      have := h3 l[i] (by rw [List.mem_take_iff_getElem]; exact ⟨i, by omega, rfl⟩)
      simpa using this
    · exact dup_pair (by omega) h2 i j hi (by omega) h1
theorem pages_pair {l : List (Int × ByteArray)} (h : dupK l l.length = false) : l.Pairwise (fun a b => a.1 ≠ b.1) :=
  List.pairwise_iff_getElem.2 (fun i j hi hj hij => dup_pair (Nat.le_refl _) h i j hij hj hj)
def low (c : Int × ByteArray) : Chg := (c.1.toNat, c.2)
theorem low_upc (c : Chg) : low (upc c) = c := by unfold low upc; simp
theorem low_map (M : List Chg) : (M.map upc).map low = M := by rw [List.map_map]; exact (List.map_congr_left (fun c _ => low_upc c)).trans (List.map_id M)
theorem sorted_one {l1 l2 : List (Int × ByteArray)} {M1 M2 : List Chg} (h1 : Ord M1) (h2 : Ord M2) (p1 : (M1.map upc).Perm l1) (p2 : (M2.map upc).Perm l2) (hp : l1.Perm l2) (hd : dupK l1 l1.length = false) : M1 = M2 := by
  have pm : M1.Perm M2 := by
    have := (p1.trans (hp.trans p2.symm)).map low
    rwa [low_map, low_map] at this
  have hpw : M1.Pairwise (fun a b => a.1 ≠ b.1) := by
    have hs : ∀ {a b : Int × ByteArray}, a.1 ≠ b.1 → b.1 ≠ a.1 := fun h => h.symm
    have := (p1.symm.pairwise_iff hs).1 (pages_pair hd)
    rw [List.pairwise_map] at this
    exact this.imp (fun h e => h (by unfold upc; simp only; omega))
  refine List.Perm.eq_of_pairwise (le := fun a b : Chg => a.1 ≤ b.1) (fun a b ha hb hab hba => ?_) h1 h2 pm
  have hb1 : b ∈ M1 := pm.mem_iff.2 hb
  obtain ⟨i, hi, rfl⟩ := List.getElem_of_mem ha
  obtain ⟨j, hj, rfl⟩ := List.getElem_of_mem hb1
  have hw := List.pairwise_iff_getElem.1 hpw
  rcases Nat.lt_trichotomy i j with h | h | h
  · exact absurd (Nat.le_antisymm hab hba) (hw i j hi hj h)
  · subst h; rfl
  · exact absurd (Nat.le_antisymm hba hab) (hw j i hj hi h)
theorem dup_false {l : List (Int × ByteArray)} (h : l.Pairwise (fun a b => a.1 ≠ b.1)) : ∀ n, n ≤ l.length → dupK l n = false
  | 0, _ => rfl
  | n + 1, hn => dup_no (by omega) (dup_false h n (by omega)) (fun j hj => List.pairwise_iff_getElem.1 h j n (by omega) (by omega) hj)
theorem why_zero {P : Nat} {l : List (Int × ByteArray)} (h1 : ∀ x ∈ l, 0 ≤ x.1 ∧ x.1 < (P : Int) ∧ x.2.size = 1024) (h2 : l.Pairwise (fun a b => a.1 ≠ b.1)) : whyE P l = 0 := by
  have a := out_no (P := P) (l := l) (fun j hj => by have := h1 _ (List.getElem_mem hj); exact ⟨this.1, this.2.1⟩)
  have b := long_no (l := l) (fun j hj => (h1 _ (List.getElem_mem hj)).2.2)
  unfold whyE
  rw [a, dup_false h2 _ (Nat.le_refl _), b]
  rfl
/-- Whether changes may be is no matter of their order. -/
theorem why_perm {P : Nat} {l1 l2 : List (Int × ByteArray)} (hp : l1.Perm l2) (h : whyE P l1 = 0) : whyE P l2 = 0 :=
  why_zero (fun x hx => why_each h x (hp.mem_iff.2 hx)) ((hp.pairwise_iff (fun {a b} h => h.symm)).1 (pages_pair (why_ok h).2.1))
end Go.Proofs.Ytpaabfadniakoaa
/- JsA: the walk of opened where nothing was committed ahead. -/
set_option linter.unusedVariables false
set_option linter.unusedSimpArgs false
namespace Go.Proofs.Ytpaabfadniakoaa
open Go.RowKit

/-- A new store. -/
def FreshAt (w0 : World) (P : Nat) (g gj : Nat) (w : World) : Prop :=
  ∃ F, HasDisk w F g (Dk.new (8 * P + 1)) ∧ (∀ k, F k → w0.heap.size ≤ k) ∧ Jb w gj g P ∧ ¬ F gj ∧ w0.heap.size ≤ gj ∧ Below w0.heap.size w0 w
set_option maxHeartbeats 1600000 in
set_option maxRecDepth 100000 in
theorem opened_fresh (w : World) (P : Nat) (hP1 : 1 ≤ P) (hP : P ≤ 6) :
    Calls Try.prog 17 #[.int .i64 (P : Int), .slice none 0 0] w fun e w' => ∃ g gj, e = .returned (.tuple #[.pointer (some ⟨g, 0, none⟩), .pointer (some ⟨gj, 0, none⟩)]) ∧ FreshAt w P g gj w' := by
  have d1 : decide ((P : Int) < 1) = false := by simp; omega
  have d2 : decide (6 < (P : Int)) = false := by simp; omega
  have d2' : decide (6 < P) = false := by simp; omega
  have RN := Lib.hid (rneed_any w (P : Int))
  obtain ⟨n, hnn⟩ : ∃ n : Nat, n = 8 * P + 1 := ⟨_, rfl⟩
  rw [show needN (P : Int) = (n : Int) by unfold needN; rw [if_neg (by omega)]; omega] at RN
  have NEW := Lib.hid (new_h w n (by omega) (by omega))
  have R0 : Hid (Rest P (Dk.new n)) := by rw [hnn]; exact rest_new (by omega)
  have F0 : Hid (Fw 600 (Dk.new n)) := ⟨by simp [Dk.new], by simp [Dk.new]⟩
  have W0 : Hid ((Dk.new n).writes = 0) := rfl
  have DN : Hid (Dk.new n = Dk.new (8 * P + 1)) := by unfold Hid; rw [hnn]
  generalize Dk.new n = d0 at NEW R0 F0 W0 DN
  clear hnn
  go_enter Try.func17, Try.ntmps17
  go_wp2_with fail
  refine RN.out.mono ?_
  rintro e w' ⟨rfl, rfl⟩
  go_wp2_with fail
  refine NEW.out.mono ?_
  rintro e w1 ⟨g, F, rfl, hd, hF, b1⟩
  have OP := Lib.hid (open_any w1 F g P d0 hd R0.out.sto hP1 (by omega) F0.out)
  unfold OpenTo at OP
  rw [rest_open R0.out] at OP
  have HF := Lib.hid hF; have B1 := Lib.hid b1
  clear hd hF b1 NEW
  go_wp2_with fail
  refine OP.out.mono ?_
  rintro e w2 ⟨v, F2, rfl, ht, hv⟩
  rw [if_pos (by trivial)] at hv
  obtain ⟨gj, rfl, hj, hnj, hgj⟩ := hv
  have B2 : Hid (Below w.heap.size w w2) := B1.out.trans (ht.touch.below B1.out.size HF.out)
  have HF2 : Hid (∀ k, F2 k → w.heap.size ≤ k) := fun k hk => (ht.new k hk).elim (HF.out k) (fun h => Nat.le_trans B1.out.size h)
  have S0 : Hid (FreshAt w P g gj w2) := ⟨F2, by rw [← DN.out]; exact ht.has, HF2.out, hj, hnj, Nat.le_trans B1.out.size hgj, B2.out⟩
  clear ht hj hnj hgj OP B2 HF2
  go_wp2_with fail
  go_loopw [10] (fun i wr => i = .int .i64 0 ∧ Hid (FreshAt w P g gj wr)) (fun i _ => 0)
  case atStart => exact ⟨rfl, S0⟩
  case round =>
    obtain ⟨rfl, hS⟩ := hrel
    go_wp2
    go_ret2
    exact ⟨g, gj, rfl, hS.out⟩
end Go.Proofs.Ytpaabfadniakoaa
/- JsB: the walk of the law JournalRefuses. -/
set_option linter.unusedVariables false
set_option linter.unusedSimpArgs false
namespace Go.Proofs.Ytpaabfadniakoaa
open Go.RowKit

theorem coto_x {P : Nat} {d : Dk} (hr : Rest P d) {l : List (Int × ByteArray)} {x : Int} {d' : Dk} (h : CoTo P d l x d') : x = whyE P l ∧ (whyE P l ≠ 0 → d' = d) := by
  rcases coto_calm h hr.calm (Nat.le_of_eq hr.len.symm) with ⟨_, a, b⟩ | ⟨a, b, _, c⟩ | ⟨a, b, _⟩
  · exact ⟨a, fun _ => b⟩
  · exact ⟨by rw [b, a], fun _ => c⟩
  · exact ⟨by rw [b, a], fun h => absurd a h⟩
theorem coto_two {P : Nat} {d : Dk} (hr : Rest P d) {l1 l2 : List (Int × ByteArray)} {x1 x2 : Int} {d1 d2 : Dk} (h1 : CoTo P d l1 x1 d1) (h2 : CoTo P d l2 x2 d2) (hp : l1.Perm l2) (hw : whyE P l1 = 0) : d1 = d2 := by
  have hw2 := why_perm hp hw
  rcases coto_calm h1 hr.calm (Nat.le_of_eq hr.len.symm) with ⟨a, _⟩ | ⟨_, _, e1, f1⟩ | ⟨_, _, n1, _, _, _, M1, o1, q1, f1⟩
  · exact absurd hw a
  · subst e1
    have : l2 = [] := List.nil_perm.1 hp
    rcases coto_calm h2 hr.calm (Nat.le_of_eq hr.len.symm) with ⟨a, _⟩ | ⟨_, _, _, f2⟩ | ⟨_, _, n2, _⟩
    · exact absurd hw2 a
    · rw [f1, f2]
    · exact absurd this n2
  · rcases coto_calm h2 hr.calm (Nat.le_of_eq hr.len.symm) with ⟨a, _⟩ | ⟨_, _, e2, _⟩ | ⟨_, _, _, _, _, _, M2, o2, q2, f2⟩
    · exact absurd hw2 a
    · subst e2; exact absurd (List.perm_nil.1 hp) n1
    · rw [f1, f2, sorted_one o1 o2 q1 q2 hp (why_ok hw).2.1]
theorem rev_succ {l : List (Int × ByteArray)} {k : Nat} (h : k < l.length) : l.reverse.take (k + 1) = l.reverse.take k ++ [l[l.length - 1 - k]] := by
  rw [List.take_succ_eq_append_getElem (by rw [List.length_reverse]; exact h), List.getElem_reverse]
theorem rdC_gen {w : World} {base : Nat} {e : TypeId} {A : Option Addr} {c : Nat} {l : List (Int × ByteArray)} (h : w.ownsRow base e 2 (.slice A l.length c) l.length (civ l)) : RdC w A l := fun hp => by
  rcases h.2 with ⟨_, h0⟩ | ⟨g, cap, cur, e, _, hk, h1, _, h3, h4⟩
  · omega
  · injection e with e _ _
    subst e
    refine ⟨g, 0, rfl, fun j hj => ?_⟩
    obtain ⟨g1, g2⟩ := civ_get l j hj
    rw [← h4, List.getElem?_take_of_lt (by omega), Array.getElem?_toList] at g1
    rw [← h4, List.getElem?_take_of_lt (by omega), Array.getElem?_toList] at g2
    rw [Nat.zero_add, blk_cell hk, blk_cell hk]
    exact ⟨g1, g2⟩
set_option maxHeartbeats 3200000 in
set_option maxRecDepth 100000 in
theorem journalRefuses_walk (w : World) (p : Int) (_w : (Lit.int .i64 p).wf = true) (v : Value) (l : List PutM) (hv : RdPutV w v l) :
    Calls Try.prog 4 #[.int .i64 p, v] w fun e w' => e = .returned (.bool true) ∧ Below w.heap.size w w' := by
  clear _w
  obtain ⟨A, c, rfl, hc1, hc2, hrd⟩ := hv
  by_cases hp : p < 1 ∨ 6 < p
  · have OP := fun W => Lib.hid (opened_no W none 0 0 p hp)
    clear hp
    go_enter Try.func4, Try.ntmps4
    go_wp2_with fail
    refine (OP _).out.mono ?_
    rintro e w' ⟨rfl, rfl⟩
    go_wp2_with fail
    refine (OP _).out.mono ?_
    rintro e w' ⟨rfl, rfl⟩
    go_wp2_with fail
    refine (jlives_any _).mono ?_
    rintro e w9 ⟨rfl, b9⟩
    have B9 := Lib.hid b9
    clear b9
    go_wp2
    go_ret
    exact ⟨rfl, B9.out⟩
  · obtain ⟨P, rfl⟩ := Int.eq_ofNat_of_zero_le (show 0 ≤ p by omega)
    have HP : Hid (1 ≤ P ∧ P ≤ 6) := by unfold Hid; omega
    have OP := fun W => Lib.hid (opened_fresh W P HP.out.1 HP.out.2)
    have HRD := Lib.hid hrd
    clear hp hrd
    go_enter Try.func4, Try.ntmps4
    go_wp2_with fail
    refine (OP _).out.mono ?_
    rintro e w1 ⟨g, gj, rfl, hS⟩
    have HS1 := Lib.hid hS
    clear hS
    go_wp2_with fail
    refine (OP _).out.mono ?_
    rintro e w2 ⟨q, qj, rfl, hS⟩
    have HS2 := Lib.hid hS
    clear hS OP
    have B2 : Hid (Below w.heap.size w w2) := by
      obtain ⟨_, _, _, _, _, _, h⟩ := HS1.out
      obtain ⟨_, _, _, _, _, _, k⟩ := HS2.out
      exact h.trans (k.mono h.size)
    by_cases h12 : 12 < l.length
    · have d3 : decide (12 < l.length) = true := by simpa using h12
      have d3' : decide ((12 : Int) < (l.length : Int)) = true := by simp; omega
      go_wp2_with fail
      refine (jlives_any _).mono ?_
      rintro e w9 ⟨rfl, b9⟩
      have B9 : Hid (Below w.heap.size w w9) := B2.out.trans (b9.mono B2.out.size)
      clear b9
      go_wp2
      go_ret
      exact ⟨rfl, B9.out⟩
    · have d3 : decide (12 < l.length) = false := by simpa using h12
      have d3' : decide ((12 : Int) < (l.length : Int)) = false := by simp; omega
      go_wp2_with fail
      refine (changes_any w2 A c l (fun hp => by
        obtain ⟨b, off, e, hh⟩ := HRD.out hp
        exact ⟨b, off, e, fun j hj => ⟨cell_below B2.out (hh j hj).1, cell_below B2.out (hh j hj).2.1, cell_below B2.out (hh j hj).2.2⟩⟩) (by omega)).mono ?_
      rintro e w3 ⟨va, vb, rfl, ha, hb, b3⟩
      obtain ⟨A1, c1, rfl⟩ := own_slice ha
      obtain ⟨A2, c2, rfl⟩ := own_slice hb
      have CZ := Lib.hid (chK_size (l := l) (k := 12))
      have CN : (chK l 12).length ≤ 12 := by unfold chK; rw [List.length_map, List.length_take]; omega
      generalize chK l 12 = ch at ha hb CZ CN ⊢
      have HA := Lib.hid ha; have HB := Lib.hid hb
      have B3 : Hid (Below w.heap.size w w3) := B2.out.trans (b3.mono B2.out.size)
      have B23 := Lib.hid b3
      clear ha hb b3
      go_wp2_with fail
      obtain ⟨i0, hi, hz0, hz1, hz2⟩ := info_parts infoCh
      go_loopw [11, 12] (fun v i wr => ∃ k : Nat, k ≤ ch.length ∧ i = .int .i64 ((ch.length : Int) - 1 - (k : Nat)) ∧ Hid (wr.ownsRow w3.heap.size 44 2 v k (civ (ch.reverse.take k))) ∧ Hid (Below w3.heap.size w3 wr)) (fun _ i _ => (intOf i + 1).toNat)
      case atStart => exact ⟨0, Nat.zero_le _, by simp, World.ownsRow_nil _ _ _ _, Below.refl _ _⟩
      case round =>
        obtain ⟨k, hk, rfl, ho, hb⟩ := hrel
        by_cases hlt : k < ch.length
        · obtain ⟨m, hm⟩ : ∃ m : Nat, m = ch.length - 1 - k := ⟨_, rfl⟩
          have em : (ch.length : Int) - 1 - (k : Int) = (m : Int) := by omega
          rw [em]
          have hml : m < ch.length := by omega
          have dm : decide (0 ≤ (m : Int)) = true := by simp
          have RS : Hid (ch.reverse.take (k + 1) = ch.reverse.take k ++ [ch[m]]) := by unfold Hid; rw [rev_succ hlt]; subst hm; rfl
          obtain ⟨b, off, e1, hcs⟩ := (rdC_own HA.out) (by omega)
          subst e1
          obtain ⟨z0, z1⟩ := hcs m hml
          replace z0 := cell_below hb.out z0
          replace z1 := cell_below hb.out z1
          generalize ch[m] = x at z0 z1 RS
          have EM := Lib.hid em
          clear hcs em hm
          have BS : Hid (w3.heap.size ≤ wr.heap.size) := hb.out.size
          go_wp2_with (at_builtin; refine wpList_append_own_at _ rfl (.tmp 48) (.tmp 53) 39 rfl w3.heap.size 44 i0 _ 2 24 Try.underlying39 hi hz0 hz1 hz2 rfl (by decide) _ k (civ (ch.reverse.take k)) rfl (ho.out.alloc _) ⟨wr.heap.size, 0, none⟩ 1 1 [.int .i64 x.1, .string x.2] rfl rfl (two_new _ _ _ _) (by simp [Value.oneCell']) (by unfold maxLen; omega) (by omega) (by have := BS.out; simp; omega) ?_)
          intro v2 w4 ho2 hg2 _ _
          have O2 : Hid (w4.ownsRow w3.heap.size 44 2 v2 (k + 1) (civ (ch.reverse.take (k + 1)))) := by unfold Hid; rw [RS.out, civ_append]; exact ho2
          have B4 : Hid (Below w3.heap.size w3 w4) := (hb.out.alloc hb.out.size (.cells #[.int .i64 x.1, .string x.2] 44)).grown hg2 (hb.out.alloc hb.out.size (.cells #[.int .i64 x.1, .string x.2] 44)).size (fun j hj => ((ho.out.alloc (.cells #[.int .i64 x.1, .string x.2] 44)).lt j hj).1)
          have E2 : Hid ((m : Int) - 1 = (ch.length : Int) - 1 - ((k + 1 : Nat) : Int)) := by have := EM.out; unfold Hid; omega
          clear ho2 hg2
          go_wp2
          go_roundw
          case rel => first | exact ⟨k + 1, hlt, by rw [E2.out], O2, B4⟩ | ((repeat apply Exists.intro); refine ⟨?_, rfl⟩; exact ⟨k + 1, hlt, by rw [E2.out], O2, B4⟩)
          case measure => simp [intOf]
        · have hkn : k = ch.length := by omega
          subst hkn
          have em : (ch.length : Int) - 1 - (ch.length : Int) = -1 := by omega
          rw [em]
          rw [show ch.reverse.take ch.length = ch.reverse from List.take_of_length_le (by simp)] at ho
          obtain ⟨A3, c3, rfl⟩ := own_slice ho.out
          have HO := Lib.hid ho.out
          have WHY := Lib.hid (rwhy_any wr P (by have := HP.out; omega) A2 c2 ch ((rdC_gen HB.out).below hb.out) (by omega) (fun x hx => by have := CZ.out x hx; omega))
          go_wp2_with fail
          refine WHY.out.mono ?_
          rintro e w5 ⟨rfl, b5⟩
          have HB5 : Hid (Below w3.heap.size w3 w5) := hb.out.trans (b5.mono hb.out.size)
          have HO5 := Lib.hid (own_touch HO.out (Touch.of_below b5 : Touch (fun _ => False) wr w5) (fun _ _ x => x))
          have NO5 : Hid (w3.heap.size ≤ wr.heap.size) := hb.out.size
          clear b5 hb HO ho WHY
          obtain ⟨F1, a1, a2, a3, a4, a5, a6⟩ := HS1.out
          obtain ⟨F2, k1, k2, k3, k4, k5, k6⟩ := HS2.out
          have R0 : Hid (Rest P (Dk.new (8 * P + 1))) := rest_new (by have := HP.out; omega)
          have W0 : Hid ((Dk.new (8 * P + 1)).writes = 0) := rfl
          have B2r : Hid (Below w2.heap.size w2 w5) := B23.out.trans (HB5.out.mono B23.out.size)
          have B1r : Hid (Below w1.heap.size w1 w5) := k6.trans (B2r.out.mono k6.size)
          have N1 : Hid (∀ j, F1 j → j < w1.heap.size) := fun j hj => a1.lt j hj
          have N2 : Hid (∀ j, F2 j → w1.heap.size ≤ j ∧ j < w2.heap.size) := fun j hj => ⟨k2 j hj, k1.lt j hj⟩
          have D1 := Lib.hid (a1.below B1r.out); have D2 := Lib.hid (k1.below B2r.out)
          have J1 := Lib.hid (a3.below B1r.out); have J2 := Lib.hid (k3.below B2r.out)
          have NJ1 := Lib.hid a4; have NJ2 := Lib.hid k4
          have LJ2 : Hid (w1.heap.size ≤ qj ∧ qj < w2.heap.size) := ⟨k5, lt_of_block k3⟩
          have LJ1 : Hid (gj < w1.heap.size) := lt_of_block a3
          have F1w : Hid (∀ j, F1 j → w.heap.size ≤ j) := a2
          have S12 : Hid (w.heap.size ≤ w1.heap.size ∧ w1.heap.size ≤ w2.heap.size ∧ w2.heap.size ≤ w3.heap.size ∧ w3.heap.size ≤ w5.heap.size) := ⟨a6.size, k6.size, B23.out.size, HB5.out.size⟩
          have Br : Hid (Below w.heap.size w w5) := B2.out.trans (B2r.out.mono B2.out.size)
          have RA : RdC w5 A1 ch := (rdC_own HA.out).below HB5.out
          generalize Dk.new (8 * P + 1) = d0 at D1 D2 R0 W0
          clear a1 a2 a3 a4 a5 a6 k1 k2 k3 k4 k5 k6 HS1 HS2 HA HB
          have LR : (ch.reverse).length = ch.length := List.length_reverse
          have RB : RdC w5 A3 ch.reverse := rdC_own (by rw [LR]; exact HO5.out)
          have FW0 : Hid (Fw (8 * ch.length + 8) d0) := ⟨by rw [R0.out.waits]; simp; omega, by rw [W0.out]; omega⟩
          have CO := Lib.hid (commit_any w5 F1 gj g P d0 D1.out J1.out NJ1.out (by have := HP.out; omega) A1 c1 ch RA (by omega) (fun x hx => by have := CZ.out x hx; omega) FW0.out)
          have HRB := Lib.hid RB
          clear RA RB
          go_wp2_with fail
          refine CO.out.mono ?_
          rintro e w6 ⟨x, d6, F6, rfl, hc, t6⟩
          have T6 := Lib.hid t6
          have D2b := Lib.hid (D2.out.keep t6.touch (fun j h2 h1 => by have := N1.out j h1; have := N2.out j h2; omega))
          have NQ : Hid (¬ F1 qj) := fun h => by have := N1.out _ h; have := LJ2.out; omega
          have J2b := Lib.hid (J2.out.touch t6.touch NQ.out)
          have J1b := Lib.hid (J1.out.touch t6.touch NJ1.out)
          have HO6 := own_touch HO5.out t6.touch (fun j hj h => by
            have a := (HO5.out.lt j hj).1
            have b := N1.out j h
            have := S12.out
            omega)
          have CO2 := Lib.hid (commit_any w6 F2 qj q P d0 D2b.out J2b.out NJ2.out (by have := HP.out; omega) A3 c3 ch.reverse (rdC_own (by rw [LR]; exact HO6)) (by omega) (fun x hx => by have := CZ.out x (List.mem_reverse.1 hx); omega) (by rw [LR]; exact FW0.out))
          rw [LR] at CO2
          have NF6 : Hid (∀ j, F6 j → F1 j ∨ w5.heap.size ≤ j) := t6.new
          have D12 : Hid (∀ j, F6 j → ¬ F2 j) := fun j h6 h2 => by
            have b := N2.out j h2
            have := S12.out
            rcases NF6.out j h6 with h | h
            · have := N1.out j h; omega
            · omega
          have NJ6 : Hid (¬ F6 gj) := fun h => by
            have a := LJ1.out
            have := S12.out
            rcases NF6.out _ h with h | h
            · exact NJ1.out h
            · omega
          have B6 : Hid (Below w.heap.size w w6) := Br.out.trans (t6.touch.below Br.out.size F1w.out)
          have F2w : Hid (∀ j, F2 j → w.heap.size ≤ j) := fun j hj => by have := N2.out j hj; have := S12.out; omega
          clear HO6 t6 CO
          obtain ⟨rfl, hsame⟩ := coto_x R0.out hc
          have HC := Lib.hid hc
          have dxx : (whyE P ch != whyE P ch) = false := by simp
          by_cases hy : whyE P ch = 0
          · have HY := Lib.hid hy
            rw [hy] at dxx ⊢
            clear hy hsame hc
            go_wp2_with fail
            refine CO2.out.mono ?_
            rintro e w7 ⟨x7, d7, F7, rfl, hc7, t7⟩
            obtain ⟨rfl, _⟩ := coto_x R0.out hc7
            have hr0 : whyE P ch.reverse = 0 := why_perm (List.reverse_perm ch).symm HY.out
            obtain rfl : d6 = d7 := coto_two R0.out HC.out hc7 (List.reverse_perm ch).symm HY.out
            rw [hr0]
            have R6 := Lib.hid (rest_coto R0.out HC.out).1
            have T7 := Lib.hid t7
            have A1b := Lib.hid (T6.out.has.keep t7.touch (fun j h1 h2 => D12.out j h1 h2))
            have JJ1 := Lib.hid (J1b.out.touch t7.touch (fun h => by have := N2.out _ h; have := LJ1.out; omega))
            have JJ2 := Lib.hid (J2b.out.touch t7.touch NJ2.out)
            have B7 : Hid (Below w.heap.size w w7) := B6.out.trans (t7.touch.below B6.out.size F2w.out)
            have P8 : P ≤ 128 := by have := HP.out; omega
            have PO1 := Lib.hid (pagesOf_any w7 F6 gj g P d6 A1b.out JJ1.out R6.out.sz (by rw [R6.out.waits]; decide) P8 (by rw [R6.out.len]; exact Nat.le_refl _))
            clear t7 hc7 CO2
            go_wp2_with fail
            refine PO1.out.mono ?_
            rintro e w8 ⟨v8, rfl, ho8, b8⟩
            obtain ⟨A8, c8, rfl⟩ := own_slice ho8
            have PO2 := Lib.hid (pagesOf_any w8 F7 qj q P d6 (T7.out.has.below b8) (JJ2.out.below b8) R6.out.sz (by rw [R6.out.waits]; decide) P8 (by rw [R6.out.len]; exact Nat.le_refl _))
            have HO8 := Lib.hid ho8
            have B8 : Hid (Below w7.heap.size w7 w8) := b8
            clear ho8 b8 PO1
            go_wp2_with fail
            refine PO2.out.mono ?_
            rintro e w9 ⟨v9, rfl, ho9, b9⟩
            obtain ⟨A9, c9, rfl⟩ := own_slice ho9
            have HO89 := own_touch HO8.out (Touch.of_below b9 : Touch (fun _ => False) w8 w9) (fun _ _ x => x)
            have SM := Lib.hid (sameTexts_any w9 A8 A9 c8 c9 (pgK d6 P P) (pgK d6 P P) (rdT_own (by rw [pgK_len]; exact HO89)) (rdT_own (by rw [pgK_len]; exact ho9)) (by rw [pgK_len]; omega) (by rw [pgK_len]; omega))
            rw [pgK_len, decide_eq_true rfl] at SM
            have B9 : Hid (Below w7.heap.size w7 w9) := B8.out.trans (b9.mono B8.out.size)
            clear HO89 ho9 b9 PO2
            go_wp2_with fail
            refine SM.out.mono ?_
            rintro e w10 ⟨rfl, b10⟩
            have B10 : Hid (Below w7.heap.size w7 w10) := B9.out.trans (b10.mono B9.out.size)
            have WR1 := Lib.hid (writes_h (A1b.out.below B10.out))
            have WR2 := Lib.hid (writes_h (T7.out.has.below B10.out))
            have WA := Lib.hid (waits_h (A1b.out.below B10.out))
            rw [R6.out.waits] at WA
            have dww : (d6.writes == d6.writes) = true := by simp
            clear b10 SM
            go_wp2_with fail
            refine WR1.out.mono ?_
            rintro e w' ⟨rfl, rfl⟩
            go_wp2_with fail
            refine WR2.out.mono ?_
            rintro e w' ⟨rfl, rfl⟩
            go_wp2_with fail
            refine WA.out.mono ?_
            rintro e w' ⟨rfl, rfl⟩
            go_wp2_with fail
            refine (jlives_any _).mono ?_
            rintro e w11 ⟨rfl, b11⟩
            have BF : Hid (Below w.heap.size w w11) := by
              have a := B7.out.trans (B10.out.mono B7.out.size)
              exact a.trans (b11.mono a.size)
            clear b11
            go_wp2
            go_ret
            exact ⟨rfl, BF.out⟩
          · obtain rfl : d6 = d0 := hsame hy
            have dy : (whyE P ch != 0) = true := by simpa using hy
            have HY := Lib.hid hy
            have WR := Lib.hid (writes_h T6.out.has)
            rw [W0.out] at WR
            clear hy hsame hc
            go_wp2_with fail
            refine WR.out.mono ?_
            rintro e w' ⟨rfl, rfl⟩
            go_wp2_with fail
            refine CO2.out.mono ?_
            rintro e w7 ⟨x7, d7, F7, rfl, hc7, t7⟩
            obtain ⟨rfl, _⟩ := coto_x R0.out hc7
            have dy2 : (whyE P ch.reverse != 0) = true := by
              have : whyE P ch.reverse ≠ 0 := fun h => HY.out (why_perm (List.reverse_perm ch) h)
              simpa using this
            have B7 : Hid (Below w.heap.size w w7) := B6.out.trans (t7.touch.below B6.out.size F2w.out)
            clear hc7 t7 CO2
            go_wp2_with fail
            refine (jlives_any _).mono ?_
            rintro e w11 ⟨rfl, b11⟩
            have BF : Hid (Below w.heap.size w w11) := B7.out.trans (b11.mono B7.out.size)
            clear b11
            go_wp2
            go_ret
            exact ⟨rfl, BF.out⟩
end Go.Proofs.Ytpaabfadniakoaa
