/- ShM: a shelf's at and Get. -/
import Derived.Test.YtoolkamajlgcbaaShJ
import Derived.Lib.Strings
set_option linter.unusedVariables false
set_option linter.unusedSimpArgs false
namespace Go.Proofs.Ytoolkamajlgcbaa
open Go.RowKit

/-- The value of the entry at a place, if it has this key. -/
def hitK (sh : List (Nat × PL)) (i k : Nat) (key : ByteArray) : Option ByteArray := if h : k < (lfA sh i).length then (if (lfA sh i)[k].1 = key then some (lfA sh i)[k].2 else none) else none
theorem lfA_out {sh : List (Nat × PL)} {i : Nat} (h : sh.length ≤ i) : lfA sh i = [] := by unfold lfA; rw [List.getD_eq_getElem?_getD, List.getElem?_eq_none h]; rfl
theorem toListB_inj {a b : ByteArray} (h : a.toList = b.toList) : a = b := by
  rw [Lib.toList_data, Lib.toList_data] at h
  cases a; cases b
  simp only [ByteArray.mk.injEq]
  exact Array.toList_inj.1 h
theorem bneS {a b : ByteArray} : (a.toList != b.toList) = !decide (a = b) := by
  rw [Bool.eq_iff_iff]
  simp only [bne_iff_ne, Bool.not_eq_true', decide_eq_false_iff_not, ne_eq]
  exact ⟨fun h e => h (by rw [e]), fun h e => h (toListB_inj e)⟩
set_option maxHeartbeats 1600000 in
set_option maxRecDepth 100000 in
theorem at_any (w : World) (gs : Nat) (sh : List (Nat × PL)) (hs : ShRd w gs sh) (i k : Nat) (hi : i ≤ 1000000) (hk : k ≤ 1000000) (key : ByteArray) :
    Calls Try.prog 38 #[.pointer (some ⟨gs, 0, none⟩), .int .i64 (i : Int), .int .i64 (k : Int), .string key] w fun e w' => w = w' ∧ ((hitK sh i k key = none ∧ e = .returned (.pointer none)) ∨ ∃ b o val, hitK sh i k key = some val ∧ e = .returned (.pointer (some ⟨b, o, none⟩)) ∧ w.cell? ⟨b, o + 1, none⟩ = some (.string val)) := by
  obtain ⟨A, c, g1, g2, g3⟩ := hs
  by_cases hlt : i < sh.length
  · obtain ⟨b, o, rfl, hc⟩ := g3 (by omega)
    obtain ⟨_, A', c', z1, zc, zr⟩ := hc i hlt
    rw [← lfA_get hlt] at z1 zc zr
    have hil : (i : Int) < (sh.length : Int) := by omega
    have d1 : decide ((sh.length : Int) ≤ (i : Int)) = false := by simp; omega
    have d1' : decide (sh.length ≤ i) = false := by simp; omega
    unfold hitK
    generalize lfA sh i = l at z1 zc zr ⊢
    clear hc g3
    by_cases hkl : k < l.length
    · rw [dif_pos hkl]
      obtain ⟨b', o', rfl, hcc⟩ := zr (by omega)
      obtain ⟨y0, y1⟩ := hcc k hkl
      generalize l[k] = p at y0 y1 ⊢
      obtain ⟨p1, p2⟩ := p
      simp only at y0 y1 ⊢
      have d2 : decide ((l.length : Int) ≤ (k : Int)) = false := by simp; omega
      have d2' : decide (l.length ≤ k) = false := by simp; omega
      have hkl2 : (k : Int) < (l.length : Int) := by omega
      clear hcc zr
      by_cases hp : p1 = key
      · rw [if_pos hp]
        have dn : (p1.toList != key.toList) = false := by rw [bneS]; simpa using hp
        have de : (p1.toList == key.toList) = true := by rw [hp]; simp
        have Y1 := Lib.hid y1
        clear hp
        go_enter Try.func38, Try.ntmps38
        go_wp2
        go_ret
        exact ⟨rfl, .inr ⟨b', o' + k * 2, p2, rfl, rfl, Y1.out⟩⟩
      · rw [if_neg hp]
        have dn : (p1.toList != key.toList) = true := by rw [bneS]; simpa using hp
        have de : (p1.toList == key.toList) = false := by rw [beq_eq_false_iff_ne]; exact fun h => hp (toListB_inj h)
        clear hp
        go_enter Try.func38, Try.ntmps38
        go_wp2
        go_ret
        exact ⟨rfl, .inl ⟨by trivial, rfl⟩⟩
    · rw [dif_neg hkl]
      have d2 : decide ((l.length : Int) ≤ (k : Int)) = true := by simp; omega
      have d2' : decide (l.length ≤ k) = true := by simp; omega
      clear zr
      go_enter Try.func38, Try.ntmps38
      go_wp2
      go_ret
      exact ⟨rfl, .inl ⟨by trivial, rfl⟩⟩
  · have e : hitK sh i k key = none := by unfold hitK; rw [dif_neg (by rw [lfA_out (by omega)]; simp)]
    have d1 : decide ((sh.length : Int) ≤ (i : Int)) = true := by simp; omega
    have d1' : decide (sh.length ≤ i) = true := by simp; omega
    rw [e]
    clear g3 e
    go_enter Try.func38, Try.ntmps38
    go_wp2
    go_ret
    exact ⟨rfl, .inl ⟨by trivial, rfl⟩⟩
/-- What a shelf has of a key. -/
def getK (sh : List (Nat × PL)) (key : ByteArray) : Option ByteArray := hitK sh (fI sh key) (fK sh key) key
set_option maxHeartbeats 1600000 in
set_option maxRecDepth 100000 in
theorem get_any (w : World) (gs : Nat) (sh : List (Nat × PL)) (hs : ShRd w gs sh) (hf : Full sh) (hn : sh.length ≤ 1000000) (hn2 : ∀ i, (lfA sh i).length ≤ 1000000) (key : ByteArray) :
    Calls Try.prog 15 #[.pointer (some ⟨gs, 0, none⟩), .string key] w fun e w' => e = .returned (.tuple #[.string ((getK sh key).getD ByteArray.empty), .bool (getK sh key).isSome]) ∧ Below w.heap.size w w' := by
  have FN := Lib.hid (find_any w gs sh hs hf hn hn2 key)
  have hkle : fK sh key ≤ (lfA sh (fI sh key)).length := fK_le
  have hile : fI sh key ≤ 1000000 := by
    unfold fI
    have := (srch_le (fun i => gtB (keyA (lfA sh i) 0) key) sh.length 0 sh.length (by omega) (Nat.zero_le _)).2
    omega
  have hk2 : fK sh key ≤ 1000000 := Nat.le_trans hkle (hn2 _)
  have HS := Lib.hid hs
  have AT := fun W hW => Lib.hid (at_any W gs sh (HS.out.below hW) (fI sh key) (fK sh key) hile hk2 key)
  unfold getK
  generalize fI sh key = i at FN AT ⊢
  generalize fK sh key = k at FN AT ⊢
  generalize hitK sh i k key = hh at AT ⊢
  clear hkle hile hk2 hs
  go_enter Try.func15, Try.ntmps15
  go_wp2_with fail
  refine FN.out.mono ?_
  rintro e w1 ⟨rfl, q1⟩
  have Q1 := Lib.hid q1
  have AT1 := AT w1 q1
  clear q1 FN AT
  go_wp2_with fail
  refine AT1.out.mono ?_
  rintro e w' ⟨rfl, h⟩
  rcases h with ⟨rfl, rfl⟩ | ⟨b, o, val, rfl, rfl, hcell⟩
  · go_wp2
    go_ret2
    exact ⟨rfl, Q1.out⟩
  · clear AT1
    go_wp2
    go_ret2
    exact ⟨rfl, Q1.out⟩
end Go.Proofs.Ytoolkamajlgcbaa
