/- ShR: a shelf's spare: a page that no leaf has. -/
import Derived.Test.YtoolkamajlgcbaaShP
import Derived.Maps.Views
import Derived.Maps.OwnSet
set_option linter.unusedVariables false
set_option linter.unusedSimpArgs false
namespace Go.Proofs.Ytoolkamajlgcbaa
open Go.RowKit

/-- A map of numbers to bools, by what it says of each. -/
def SeenM (w : World) (b n : Nat) (U : Nat → Bool) : Prop := ∃ D : DataW Unit, w.ownsMap Try.prog 3 (plainElem Try.prog 4) b n D ∧ ∀ i : Nat, D.atKey (.int .i64 (i : Int)) (.lit (.bool false)) = .lit (.bool (U i))
theorem wf_small {i : Nat} (h : i ≤ 1000000) : (Lit.int .i64 (i : Int)).wf = true := by
  have e1 : IntKind.i64.min = -9223372036854775808 := by decide
  have e2 : IntKind.i64.max = 9223372036854775807 := by decide
  simp [Lit.wf, e1, e2]
  omega
theorem plain_bool_inv {P : Program} {e : TypeId} (he : P.underlying e = some .bool) {v : Value} {x : Bool} {ps : List MemPlace} (h : plainElem (H := Unit) P e v = some (.lit (.bool x), ps)) : v = .bool x := by
  unfold plainElem at h
  rw [he] at h
  cases v <;> simp at h
  rw [h.1]
theorem ik_small {i : Nat} (h : i ≤ 1000000) : keyOf Try.prog 3 (.int .i64 (i : Int)) = some (.int .i64 (i : Int)) := Maps.keyOf_int_mk Try.underlying3 (wf_small h)
theorem SeenM.kept {w w' : World} {b n : Nat} {U : Nat → Bool} (h : SeenM w b n U) {row : Option Nat} (hg : w.grownBy w' row) (hne : some b ≠ row) : SeenM w' b n U := by
  obtain ⟨D, h1, h2⟩ := h
  exact ⟨D, h1.kept hg hne, h2⟩
theorem SeenM.look {w : World} {b n : Nat} {U : Nat → Bool} (h : SeenM w b n U) {i : Nat} (hi : i ≤ 1000000) : (Instr.lookup 115 (.map (some b)) (.int .i64 (i : Int)) false).run Try.prog w = .ok (.bool (U i)) w := by
  obtain ⟨D, h1, h2⟩ := h
  obtain ⟨v, ps, hr, hv⟩ := h1.lookup (Maps.int_keyed Try.underlying3) Try.underlying115 (z := .bool false) (by kernel_rfl) (zd := .lit (.bool false)) (zp := []) (plainElem_bool Try.underlying4 false) (ik_small hi)
  rw [h2 i] at hv
  rw [hr, plain_bool_inv Try.underlying4 hv]
theorem SeenM.upd {w : World} {b n : Nat} {U : Nat → Bool} (h : SeenM w b n U) (hn : n ≤ 1000000) {i : Nat} (hi : i ≤ 1000000) : ∃ w', (Instr.mapUpdate 115 (.map (some b)) (.int .i64 (i : Int)) (.bool true)).run Try.prog w = .ok () w' ∧ SeenM w' b (n + 1) (fun j => j == i || U j) ∧ w.grownBy w' (some b) := by
  obtain ⟨D, h1, h2⟩ := h
  have hm : Maps.IsMap D := h1.isMap
  obtain ⟨w', r1, r2, r3⟩ := h1.update (Maps.int_keyed Try.underlying3) Try.underlying115 (by unfold maxLen; omega) (ik_small hi) (val := .bool true) (d := .lit (.bool true)) (ps := []) (plainElem_bool Try.underlying4 true)
  refine ⟨w', r1, ⟨_, r2, fun j => ?_⟩, r3⟩
  by_cases e : j = i
  · subst e
    rw [Maps.atKey_put_same hm ((Maps.Keyed.one (Maps.int_keyed (P := Try.prog) Try.underlying3)).key ⟨_, ik_small hi⟩)]
    simp
  · rw [Maps.atKey_put_other (by simp; omega), h2]
    simp [e]
theorem SeenM.made (w : World) : SeenM (w.alloc (.map #[] 0)) w.heap.size 0 (fun _ => false) := ⟨_, World.ownsMap_made w _ _ _, fun i => rfl⟩
def usedA (sh : List (Nat × PL)) (k i : Nat) : Bool := i == 0 || ((sh.take k).map (·.1)).contains i
/-- The first page that no leaf has; 0: there is none. -/
def spareA (sh : List (Nat × PL)) (P : Nat) : Nat := ((List.range P).find? (fun i => !usedA sh sh.length i)).getD 0
theorem usedA_step {sh : List (Nat × PL)} {k : Nat} (h : k < sh.length) : usedA sh (k + 1) = fun j => j == sh[k].1 || usedA sh k j := by
  funext j
  unfold usedA
  rw [List.take_succ_eq_append_getElem h, List.map_append, List.contains_append]
  rw [show ([sh[k]].map (·.1)).contains j = (j == sh[k].1) by simp [List.contains_cons]; rw [Bool.eq_iff_iff]; simp]
  cases j == 0 <;> cases (List.map (fun x => x.1) (List.take k sh)).contains j <;> cases j == sh[k].1 <;> rfl
theorem spareA_some {sh : List (Nat × PL)} {P k : Nat} (hk : k < P) (h0 : ∀ i, i < k → usedA sh sh.length i = true) (h1 : usedA sh sh.length k = false) : spareA sh P = k := by
  unfold spareA
  rw [List.find?_range_eq_some.2 ⟨by rw [h1]; rfl, by simpa using hk, fun j hj => by rw [h0 j hj]; rfl⟩]
  rfl
theorem spareA_none {sh : List (Nat × PL)} {P : Nat} (h0 : ∀ i, i < P → usedA sh sh.length i = true) : spareA sh P = 0 := by
  unfold spareA
  rw [List.find?_range_eq_none.2 (fun j hj => by rw [h0 j hj]; rfl)]
  rfl
set_option maxHeartbeats 1600000 in
set_option maxRecDepth 100000 in
theorem spare_any (w : World) (gs gj g P : Nat) (sh : List (Nat × PL)) (hs : ShRd w gs sh) (hj : Jb w gj g P) (hP : P ≤ 1000) (c0 : w.cell? ⟨gs, 0, none⟩ = some (.pointer (some ⟨gj, 0, none⟩))) (hn : sh.length ≤ 100000) (hid : ∀ i (h : i < sh.length), sh[i].1 ≤ 1000000) :
    Calls Try.prog 42 #[.pointer (some ⟨gs, 0, none⟩)] w fun e w' => e = .returned (.int .i64 (spareA sh P : Nat)) ∧ Below w.heap.size w w' := by
  have HS := Lib.hid hs; have HJ := Lib.hid hj; have HID := Lib.hid hid
  obtain ⟨A, c, g1, g2, g3⟩ := hs
  have G3 := Lib.hid g3; have G1 := Lib.hid g1; have C0 := Lib.hid c0
  have hmm : ∀ W : World, (Instr.makeMap 115 none).run Try.prog W = .ok (.map (some W.heap.size)) (W.alloc (.map #[] 0)) := fun W => run_makeMap _ W
  obtain ⟨W1, hup, hsm, hgr⟩ := (SeenM.made w).upd (Nat.zero_le _) (i := 0) (Nat.zero_le _)
  have Q1 : Below w.heap.size w W1 := ((Below.refl _ w).alloc (Nat.le_refl _) _).grown hgr (by simp) (fun j hj => by cases hj; exact Nat.le_refl _)
  have Z1 : Hid (w.heap.size < W1.heap.size) := by
    have := hgr.size
    simp at this
    unfold Hid; omega
  have SM : Hid (SeenM W1 w.heap.size 1 (usedA sh 0)) := by
    have e : usedA sh 0 = fun j => j == 0 || (fun _ => false) j := by funext j; simp [usedA]
    unfold Hid; rw [e]; exact hsm
  have Q1h := Lib.hid Q1
  replace g1 := cell_below Q1 g1
  clear hid hj hsm hgr Q1 g3 c0
  simp only [Int.natCast_zero, Int.ofNat_zero] at hup
  go_enter Try.func42, Try.ntmps42
  go_wp2_with fail
  go_loopw [14] (fun i wr => ∃ k : Nat, k ≤ sh.length ∧ i = .int .i64 k ∧ Hid (SeenM wr w.heap.size (k + 1) (usedA sh k)) ∧ Hid (Below w.heap.size w wr) ∧ Hid (w.heap.size < wr.heap.size)) (fun i _ => sh.length - (intOf i).toNat)
  case atStart => exact ⟨0, Nat.zero_le _, rfl, SM, Q1h, Z1⟩
  case round =>
    obtain ⟨k, hk, rfl, hsm, hb, hz⟩ := hrel
    clear hup
    by_cases hlt : k < sh.length
    · obtain ⟨b, o, rfl, hc⟩ := G3.out (by omega)
      obtain ⟨z0, A', c', z1, zc, zr⟩ := hc k hlt
      replace z0 := cell_below hb.out z0; replace z1 := cell_below hb.out z1
      have ID := HID.out k hlt
      have ST := Lib.hid (usedA_step hlt)
      generalize sh[k].1 = id at z0 ID ST
      generalize sh[k].2.length = nl at z1
      obtain ⟨W2, hW2⟩ : ∃ W2, W2 = wr.alloc (.cells #[.int .i64 (id : Int), .slice A' nl c'] 82) := ⟨_, rfl⟩
      have SM2 : SeenM W2 w.heap.size (k + 1) (usedA sh k) := by rw [hW2]; exact hsm.out.kept (World.grownBy_alloc _ _ none) (by simp)
      obtain ⟨W3, hu3, sm3, gr3⟩ := SM2.upd (by omega) (i := id) ID
      rw [hW2] at hu3
      have B3 : Hid (Below w.heap.size w W3) := (by rw [hW2] at gr3; exact (hb.out.alloc (Nat.le_of_lt hz.out) _).grown gr3 (by have := hz.out; simp; omega) (fun j hj => by cases hj; exact Nat.le_refl _))
      have Z3 : Hid (w.heap.size < W3.heap.size) := by have := gr3.size; rw [hW2] at this; simp at this; have := hz.out; unfold Hid; omega
      have SM3 : Hid (SeenM W3 w.heap.size (k + 1 + 1) (usedA sh (k + 1))) := by unfold Hid; rw [ST.out]; exact sm3
      clear hc zr sm3 gr3 SM2 ST hW2
      go_wp2
      go_roundw
      case rel => first | exact ⟨k + 1, hlt, by go_num, SM3, B3, Z3⟩ | ((repeat apply Exists.intro); refine ⟨?_, rfl⟩; exact ⟨k + 1, hlt, by go_num, SM3, B3, Z3⟩)
      case measure => simp [intOf]; omega
    · have hkl : k = sh.length := by omega
      subst hkl
      have c0 := cell_below hb.out C0.out
      have PG := Lib.hid (pages_any wr gj g P (HJ.out.below hb.out))
      clear hmm g1
      go_wp2_with fail
      refine PG.out.mono ?_
      rintro e w' ⟨rfl, rfl⟩
      clear PG
      go_wp2_with fail
      go_loopw [27] (fun i wx => ∃ k : Nat, k ≤ P ∧ i = .int .i64 k ∧ wx = wr ∧ Hid (∀ i, i < k → usedA sh sh.length i = true)) (fun i _ => P - (intOf i).toNat)
      case atStart => exact ⟨0, Nat.zero_le _, rfl, rfl, fun i h => absurd h (by omega)⟩
      case round =>
        obtain ⟨k, hk, rfl, rfl, hu⟩ := hrel
        by_cases hlt : k < P
        · have lk := hsm.out.look (i := k) (by omega)
          cases hc : usedA sh sh.length k with
          | true =>
            rw [hc] at lk
            have U2 : Hid (∀ i, i < k + 1 → usedA sh sh.length i = true) := fun i hi => by
              by_cases e : i = k
              · rw [e]; exact hc
              · exact hu.out i (by omega)
            clear hc
            go_wp2
            go_roundw
            case rel => first | exact ⟨k + 1, hlt, by go_num, rfl, U2⟩ | exact ⟨k + 1, hlt, by go_num, trivial, U2⟩ | ((repeat apply Exists.intro); refine ⟨?_, rfl⟩; exact ⟨k + 1, hlt, by go_num, rfl, U2⟩)
            case measure => simp [intOf]; omega
          | false =>
            rw [hc] at lk
            have HC := Lib.hid hc
            clear hc
            go_wp2
            go_ret
            exact ⟨by rw [spareA_some hlt hu.out HC.out]; rfl, hb.out⟩
        · have hkp : k = P := by omega
          subst hkp
          go_wp2
          go_ret
          exact ⟨by rw [spareA_none hu.out]; rfl, hb.out⟩
end Go.Proofs.Ytoolkamajlgcbaa
