/- JnX: the walk of sameTexts (written by gen_same.py). -/
import Derived.Test.YtpaabfadniakoaaJnW
set_option linter.unusedVariables false
set_option linter.unusedSimpArgs false
namespace Go.Proofs.Ytpaabfadniakoaa
open Go.RowKit

theorem toListB_inj {a b : ByteArray} (h : a.toList = b.toList) : a = b := by
  rw [Lib.toList_data, Lib.toList_data] at h
  cases a; cases b
  simp only [ByteArray.mk.injEq]
  exact Array.toList_inj.1 h
theorem beqS (a b : ByteArray) : (a.toList == b.toList) = decide (a = b) := by
  rw [Bool.eq_iff_iff]
  simp only [beq_iff_eq, decide_eq_true_eq]
  exact ⟨toListB_inj, fun h => by rw [h]⟩
/-- Texts that are read. -/
def RdT (w : World) (A : Option Addr) (l : List ByteArray) : Prop := 0 < l.length → ∃ b off, A = some ⟨b, off, none⟩ ∧ ∀ j (h : j < l.length), w.cell? ⟨b, off + j, none⟩ = some (.string l[j])
theorem rdT_own {w : World} {base : Nat} {A : Option Addr} {c : Nat} {l : List ByteArray} (h : w.ownsRow base 9 1 (.slice A l.length c) l.length (svs l)) : RdT w A l := fun hp => by
  rcases h.2 with ⟨_, h0⟩ | ⟨g, cap, cur, e, _, hk, h1, _, h3, h4⟩
  · omega
  · injection e with e _ _
    subst e
    refine ⟨g, 0, rfl, fun j hj => ?_⟩
    have g1 : (svs l)[j]? = some (.string l[j]) := by simp [svs, hj]
    rw [← h4, List.getElem?_take_of_lt (by omega), Array.getElem?_toList] at g1
    rw [Nat.zero_add, blk_cell hk]
    exact g1
set_option maxHeartbeats 3200000 in
set_option maxRecDepth 100000 in
theorem sameTexts_any (w : World) (A1 A2 : Option Addr) (c1 c2 : Nat) (l1 l2 : List ByteArray) (h1 : RdT w A1 l1) (h2 : RdT w A2 l2) (hn : l1.length ≤ 1000000) (hn2 : l2.length ≤ 1000000) :
    Calls Try.prog 20 #[.slice A1 l1.length c1, .slice A2 l2.length c2] w fun e w' => e = .returned (.bool (decide (l1 = l2))) ∧ Below w.heap.size w w' := by
  have H1 := Lib.hid h1; have H2 := Lib.hid h2
  clear h1 h2
  by_cases hlen : l1.length = l2.length
  rotate_left
  · have d0 : (l1.length != l2.length) = true := by simpa using hlen
    have d0' : ((l1.length : Int) != (l2.length : Int)) = true := by simp; omega
    have E : Hid (decide (l1 = l2) = false) := by unfold Hid; rw [decide_eq_false_iff_not]; intro e; rw [e] at hlen; exact hlen rfl
    clear hlen
    go_enter Try.func20, Try.ntmps20
    go_wp2
    go_ret
    exact ⟨by rw [E.out]; rfl, Below.refl _ _⟩
  have d0 : (l1.length != l2.length) = false := by simpa using hlen
  have d0' : ((l1.length : Int) != (l2.length : Int)) = false := by simp; omega
  have HLEN := Lib.hid hlen
  clear hlen
  go_enter Try.func20, Try.ntmps20
  go_wp2_with fail
  go_loopw [5] (fun i wr => ∃ k : Nat, k ≤ l1.length ∧ i = .int .i64 k ∧ Hid (∀ j (hj : j < l1.length) (hj2 : j < l2.length), j < k → l1[j] = l2[j]) ∧ Hid (Below w.heap.size w wr)) (fun i _ => l1.length - (intOf i).toNat)
  case atStart => exact ⟨0, Nat.zero_le _, rfl, fun j _ _ h => absurd h (Nat.not_lt_zero _), Below.refl _ _⟩
  case round =>
    obtain ⟨k, hk, rfl, he, hb⟩ := hrel
    by_cases hlt : k < l1.length
    · have hlt2 : k < l2.length := by have := HLEN.out; omega
      obtain ⟨b1, o1, e1, hc1⟩ := H1.out (by omega)
      obtain ⟨b2, o2, e2, hc2⟩ := H2.out (by omega)
      subst e1 e2
      have z1 := cell_below hb.out.drew (hc1 k hlt)
      have z2 := cell_below hb.out.drew (hc2 k hlt2)
      have kl2 : (k : Int) < (l2.length : Int) := by omega
      obtain ⟨x, hx⟩ : ∃ x, x = l1[k] := ⟨_, rfl⟩
      obtain ⟨y, hy⟩ : ∃ y, y = l2[k] := ⟨_, rfl⟩
      rw [← hx] at z1
      rw [← hy] at z2
      have HX := Lib.hid hx; have HY := Lib.hid hy
      clear hx hy hc1 hc2
      by_cases hxy : x = y
      · have NX : Hid (∀ j (hj : j < l1.length) (hj2 : j < l2.length), j < k + 1 → l1[j] = l2[j]) := fun j hj hj2 h => by
          by_cases e : j = k
          · subst e; rw [← HX.out, ← HY.out]; exact hxy
          · exact he.out j hj hj2 (by omega)
        subst hxy
        go_wp2_with fail
        refine wp_region_flag (fun w' => w'.cell? ⟨b1, o1 + k, none⟩ = some (.string x) ∧ w'.cell? ⟨b2, o2 + k, none⟩ = some (.string x)) [(0, 1), (1, 1), (2, 1), (4, 1), (5, 1), (6, 1), (3, 2), (7, 0), (8, 1)] (by kernel_rfl) (by kernel_rfl) ⟨z1, z2⟩ ?_
        simp only [ordered, List.map_cons, List.map_nil, List.getD_cons_zero, List.getD_cons_succ]
        repeat (refine wpF_dry (fun K hK => ?_); go_simp; refine hK _ ?_; clear hK K)
        refine wpF_read (.string x) rfl (fun w' hS => by obtain ⟨s1, s2⟩ := hS; go_simp) (fun K hK => ?_)
        go_simp
        refine hK _ ?_
        clear hK K
        refine wpF_do ?_
        go_wp2_with fail
        refine ⟨⟨z1, z2⟩, ?_⟩
        repeat (refine wpF_dry (fun K hK => ?_); go_simp; refine hK _ ?_; clear hK K)
        refine wpF_nil ?_
        go_wp2
        go_roundw
        case rel => first | exact ⟨k + 1, hlt, by go_num, NX, hb.out.drew⟩ | ((repeat apply Exists.intro); refine ⟨?_, rfl⟩; exact ⟨k + 1, hlt, by go_num, NX, hb.out.drew⟩)
        case measure => simp [intOf]; omega
      · have E : Hid (decide (l1 = l2) = false) := by unfold Hid; rw [decide_eq_false_iff_not]; intro e; subst e; exact hxy (HX.out.trans HY.out.symm)
        have dxy : (x.toList == y.toList) = false := by rw [beqS]; simpa using hxy
        clear hxy
        go_wp2_with fail
        refine wp_region_flag (fun w' => w'.cell? ⟨b1, o1 + k, none⟩ = some (.string x) ∧ w'.cell? ⟨b2, o2 + k, none⟩ = some (.string y)) [(0, 1), (1, 1), (2, 1), (4, 1), (5, 1), (6, 1), (3, 2), (7, 0), (8, 1)] (by kernel_rfl) (by kernel_rfl) ⟨z1, z2⟩ ?_
        simp only [ordered, List.map_cons, List.map_nil, List.getD_cons_zero, List.getD_cons_succ]
        repeat (refine wpF_dry (fun K hK => ?_); go_simp; refine hK _ ?_; clear hK K)
        refine wpF_read (.string x) rfl (fun w' hS => by obtain ⟨s1, s2⟩ := hS; go_simp) (fun K hK => ?_)
        go_simp
        refine hK _ ?_
        clear hK K
        refine wpF_do ?_
        go_wp2_with fail
        refine ⟨⟨z1, z2⟩, ?_⟩
        repeat (refine wpF_dry (fun K hK => ?_); go_simp; refine hK _ ?_; clear hK K)
        refine wpF_nil ?_
        go_wp2
        go_ret
        exact ⟨by rw [E.out]; rfl, hb.out.drew⟩
    · have E : Hid (decide (l1 = l2) = true) := by
        unfold Hid
        rw [decide_eq_true_eq]
        exact List.ext_getElem HLEN.out (fun j h1 h2 => he.out j h1 h2 (by omega))
      have hkl : k = l1.length := by omega
      subst hkl
      go_wp2
      go_ret
      exact ⟨by rw [E.out]; rfl, hb.out⟩
end Go.Proofs.Ytpaabfadniakoaa
