/- GlG: whether a token is met by a byte. -/
import Derived.Test.YtmagidkgajmhoaaDoorGlF
set_option linter.unusedVariables false
set_option linter.unusedSimpArgs false
namespace Go.Proofs.YtmagidkgajmhoaaDoor
open Go.RowKit

def inSp (c : UInt8) (x : UInt8 × UInt8) : Bool := decide (x.1 ≤ c) && decide (c ≤ x.2)
def tokHas (t : PTok) (c : UInt8) : Bool := (t.l.any (inSp c)) != t.no
theorem spv_get : ∀ (l : Spans) (k : Nat) (h : k < l.length), (spv l)[k * 2]? = some (.int .u8 (l[k].1.toNat : Int)) ∧ (spv l)[k * 2 + 1]? = some (.int .u8 (l[k].2.toNat : Int))
  | x :: r, 0, _ => ⟨rfl, rfl⟩
  | x :: r, k + 1, h => by
    have := spv_get r k (by simpa using h)
    rw [show (k + 1) * 2 = k * 2 + 2 by omega]
    exact this
theorem spv_ne {l : Spans} (h : 0 < l.length) : spv l ≠ [] := fun e => by
  have := spv_len l
  rw [e] at this
  simp at this
  omega
theorem any_snoc {α : Type} (f : α → Bool) (l : List α) (k : Nat) (h : k < l.length) : (l.take (k + 1)).any f = ((l.take k).any f || f l[k]) := by
  rw [List.take_succ_eq_append_getElem h, List.any_append]
  simp
set_option maxHeartbeats 1600000 in
set_option maxRecDepth 100000 in
theorem has_any (w : World) (mn : Bool) (no : Bool) (l : Spans) (A : Option Addr) (cc : Nat) (x : UInt8) (h : Blk w 86 A (spv l)) (hn : l.length ≤ 1000000) :
    Calls Tryd.prog 39 #[.agg #[.bool mn, .bool no, .slice A l.length cc], .int .u8 (x.toNat : Int)] w fun e w' => e = .returned (.bool (l.any (inSp x) != no)) ∧ Below w.heap.size w w' := by
  obtain ⟨R, hR⟩ : ∃ R, R = l.any (inSp x) := ⟨_, rfl⟩
  rw [← hR]
  have HR := Lib.hid hR
  clear hR
  obtain ⟨W1, hW1⟩ : ∃ W, W = w.alloc (.cells #[.bool mn, .bool no, .slice A l.length cc] 74) := ⟨_, rfl⟩
  have K1 : Below w.heap.size w W1 := by rw [hW1]; exact (Below.refl _ w).alloc (Nat.le_refl _) _
  have H1 := Lib.hid (h.below K1)
  have bk : W1.heap[w.heap.size]? = some (.cells #[.bool mn, .bool no, .slice A l.length cc] 74 (0, 0)) := by rw [hW1]; exact blk_new w _
  have HB := Lib.hid bk
  have c0 := blk_cell bk 0; have c1 := blk_cell bk 1; have c2 := blk_cell bk 2
  simp at c0 c1 c2
  have HK := Lib.hid K1
  have HW1 := Lib.hid hW1
  rw [hW1] at c2
  clear K1 h bk hW1
  go_enter Tryd.func39, Tryd.ntmps39
  go_wp2_with fail
  rw [← HW1.out]
  go_loopw [5, 11] (fun bv iv wr => ∃ k : Nat, k ≤ l.length ∧ iv = .int .i64 k ∧ bv = .bool ((l.take k).any (inSp x)) ∧ Hid (Below W1.heap.size W1 wr)) (fun _ iv _ => l.length - (intOf iv).toNat)
  case atStart => exact ⟨0, Nat.zero_le _, rfl, rfl, Below.refl _ _⟩
  case round =>
    obtain ⟨k, hk, rfl, rfl, hb⟩ := hrel
    by_cases hlt : k < l.length
    · have hki : (k : Int) < (l.length : Int) := by omega
      obtain ⟨b, o, rfl, hc⟩ := (H1.out.below hb.out).cells (spv_ne (by omega))
      obtain ⟨g0, g1⟩ := spv_get l k hlt
      have z0 := hc _ _ g0; have z1 := hc _ _ g1
      rw [show o + (k * 2 + 1) = o + k * 2 + 1 by omega] at z1
      have ST := Lib.hid (any_snoc (inSp x) l k hlt)
      generalize l[k] = p at z0 z1 ST
      obtain ⟨p1, p2⟩ := p
      simp only at z0 z1
      have BX : ∀ q, Hid (Below W1.heap.size W1 (wr.alloc q)) := fun q => hb.out.alloc hb.out.size q
      have q1 : (p1.toNat ≤ x.toNat) ↔ p1 ≤ x := by rw [UInt8.le_iff_toNat_le]
      have q2 : (x.toNat ≤ p2.toNat) ↔ x ≤ p2 := by rw [UInt8.le_iff_toNat_le]
      clear hc g0 g1
      cases hin : (l.take k).any (inSp x) with
      | true =>
        have SN : Hid ((l.take (k + 1)).any (inSp x) = true) := by unfold Hid; rw [ST.out, hin]; rfl
        clear ST hin
        go_wp2
        go_roundw
        case rel => first | exact ⟨k + 1, hlt, by go_num, by rw [SN.out], (BX _)⟩ | ((repeat apply Exists.intro); refine ⟨?_, rfl⟩; exact ⟨k + 1, hlt, by go_num, by rw [SN.out], (BX _)⟩)
        case measure => simp [intOf]; omega
      | false =>
        by_cases h1 : p1 ≤ x
        · have d1 : decide ((p1.toNat : Int) ≤ (x.toNat : Int)) = true := decide_eq_true (by have := q1.2 h1; omega)
          have d1' : decide (p1.toNat ≤ x.toNat) = true := decide_eq_true (q1.2 h1)
          by_cases h2 : x ≤ p2
          · have d2 : decide ((x.toNat : Int) ≤ (p2.toNat : Int)) = true := decide_eq_true (by have := q2.2 h2; omega)
            have d2' : decide (x.toNat ≤ p2.toNat) = true := decide_eq_true (q2.2 h2)
            have SN : Hid ((l.take (k + 1)).any (inSp x) = true) := by unfold Hid; rw [ST.out, hin]; unfold inSp; simp [h1, h2]
            clear ST hin h1 h2 q1 q2
            go_wp2
            go_roundw
            case rel => first | exact ⟨k + 1, hlt, by go_num, by rw [SN.out], (BX _)⟩ | ((repeat apply Exists.intro); refine ⟨?_, rfl⟩; exact ⟨k + 1, hlt, by go_num, by rw [SN.out], (BX _)⟩)
            case measure => simp [intOf]; omega
          · have d2 : decide ((x.toNat : Int) ≤ (p2.toNat : Int)) = false := decide_eq_false (fun e => h2 (q2.1 (by omega)))
            have d2' : decide (x.toNat ≤ p2.toNat) = false := decide_eq_false (fun e => h2 (q2.1 e))
            have SN : Hid ((l.take (k + 1)).any (inSp x) = false) := by unfold Hid; rw [ST.out, hin]; unfold inSp; simp [h1, h2]
            clear ST hin h1 h2 q1 q2
            go_wp2
            go_roundw
            case rel => first | exact ⟨k + 1, hlt, by go_num, by rw [SN.out], (BX _)⟩ | ((repeat apply Exists.intro); refine ⟨?_, rfl⟩; exact ⟨k + 1, hlt, by go_num, by rw [SN.out], (BX _)⟩)
            case measure => simp [intOf]; omega
        · have d1 : decide ((p1.toNat : Int) ≤ (x.toNat : Int)) = false := decide_eq_false (fun e => h1 (q1.1 (by omega)))
          have d1' : decide (p1.toNat ≤ x.toNat) = false := decide_eq_false (fun e => h1 (q1.1 e))
          have SN : Hid ((l.take (k + 1)).any (inSp x) = false) := by unfold Hid; rw [ST.out, hin]; unfold inSp; simp [h1]
          clear ST hin h1 q1 q2
          go_wp2
          go_roundw
          case rel => first | exact ⟨k + 1, hlt, by go_num, by rw [SN.out], (BX _)⟩ | ((repeat apply Exists.intro); refine ⟨?_, rfl⟩; exact ⟨k + 1, hlt, by go_num, by rw [SN.out], (BX _)⟩)
          case measure => simp [intOf]; omega
    · have hkl : k = l.length := by omega
      have hki : ¬ (k : Int) < (l.length : Int) := by omega
      have m1 : wr.cell? ⟨w.heap.size, 1, none⟩ = some (.bool no) := cell_below hb.out c1
      have TK : (l.take k).any (inSp x) = R := by rw [hkl, List.take_length]; exact HR.out.symm
      rw [TK]
      clear TK
      go_wp2
      go_ret
      exact ⟨by cases R <;> cases no <;> rfl, HK.out.trans (hb.out.mono HK.out.size)⟩
end Go.Proofs.YtmagidkgajmhoaaDoor
