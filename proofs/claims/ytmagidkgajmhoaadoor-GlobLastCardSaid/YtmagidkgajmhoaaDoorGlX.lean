/- GlX: plain: rules of nothing but remarks; Pick by nil rules. -/
import Derived.Test.YtmagidkgajmhoaaDoorGlW
set_option linter.unusedVariables false
set_option linter.unusedSimpArgs false
namespace Go.Proofs.YtmagidkgajmhoaaDoor
open Go.RowKit

/-- Remarks, one behind the other. -/
def remT : List Bs → Bs
  | [] => []
  | r :: l => (35 :: r) ++ 10 :: 10 :: remT l
theorem remT_snoc : ∀ (l : List Bs) (r : Bs), remT (l ++ [r]) = remT l ++ ((35 :: r) ++ [10, 10])
  | [], r => by simp [remT]
  | a :: l, r => by simp [remT, remT_snoc l r]
theorem sep_rem (z : Bs) : ∀ (l : List Bs), (∀ r ∈ l, (10 : UInt8) ∉ r) → ∀ acc, rdR acc (sep 10 (remT l ++ z)) = rdR acc (sep 10 z)
  | [], _, acc => rfl
  | r :: l, h, acc => by
    have h35 : (10 : UInt8) ∉ 35 :: r := by
      simp only [List.mem_cons, not_or]
      exact ⟨by decide, h r (by simp)⟩
    have e : remT (r :: l) ++ z = (35 :: r) ++ 10 :: ([] ++ 10 :: (remT l ++ z)) := by simp [remT]
    rw [e, sep_append, sep_append, sep_plain 10 _ h35]
    show rdR acc ((35 :: r) :: [] :: sep 10 (remT l ++ z)) = _
    rw [rdR, if_pos (by simp [skipB, headIs]), rdR, if_pos (show skipB [] = true from rfl)]
    exact sep_rem z l (fun x hx => h x (by simp [hx])) acc
def allP : PPat := ⟨[⟨true, []⟩], true, false⟩
theorem parse_all : parseP [42, 42] = some allP := by kernel_rfl
theorem read_rem {l : List Bs} (h : ∀ r ∈ l, (10 : UInt8) ∉ r) (hl : (remT l).length ≤ 4000) : readP (remT l) = some [] := by
  unfold readP
  rw [if_neg (by omega)]
  have := sep_rem [] l h []
  rw [List.append_nil] at this
  rw [this]
  rfl
theorem read_rem_all {l : List Bs} (h : ∀ r ∈ l, (10 : UInt8) ∉ r) (hl : (remT l).length ≤ 4000) : readP (remT l ++ [45, 32, 42, 42]) = some [(false, allP)] := by
  unfold readP
  rw [if_neg (by rw [List.length_append]; simp; omega), sep_rem _ l h]
  rw [sep_plain 10 _ (by decide), rdR, if_neg (by decide), if_pos (by decide)]
  rw [show ([45, 32, 42, 42] : Bs).drop 2 = [42, 42] from rfl, parse_all]
  rfl
theorem lets_none (q : Bs) : letsP [] q = goodB q := by unfold letsP; simp [letsV]
theorem lets_all (q : Bs) : letsP [(false, allP)] q = false := by
  unfold letsP
  cases hg : goodB q with
  | false => rfl
  | true =>
    have hq := good_ne hg
    have hm : metU allP q = true := by
      rw [metU_step _ hq]
      have : patMeets allP q = true := by
        unfold patMeets allP
        simp only
        unfold metN
        have e : partsB q = cut q := by unfold partsB; rw [if_pos hg]
        have hne := cut_ne q
        rw [e, if_neg (fun h => hne (List.eq_nil_of_length_eq_zero h)), if_neg (by decide)]
        obtain ⟨k, hk⟩ : ∃ k, (cut q).length = k + 1 := ⟨(cut q).length - 1, by
          have : 0 < (cut q).length := List.length_pos_iff.2 hne
          omega⟩
        rw [metE, hk, metF, gm_many rfl, someEnd_true rfl]
        rfl
      rw [this]; rfl
    show letsV [(false, allP)] q = false
    rw [letsV, if_pos hm]
set_option maxHeartbeats 3200000 in
set_option maxRecDepth 100000 in
theorem pick_nil (w : World) (A : Option Addr) (c : Nat) (ps : List ByteArray) (h : Blk w 9 A (strsV ps)) (hn : ps.length ≤ 1000000) :
    Calls Tryd.prog 20 #[.pointer none, .slice A ps.length c] w fun e w' => e = .returned (.slice none 0 0) ∧ Below w.heap.size w w' := by
  have HB := Lib.hid h
  clear h
  go_enter Tryd.func20, Tryd.ntmps20
  go_wp2_with fail
  go_loopw [5, 10] (fun ov iv wr => ∃ k : Nat, ov = .slice none 0 0 ∧ iv = .int .i64 (k : Int) ∧ k ≤ ps.length ∧ Hid (Below w.heap.size w wr)) (fun _ iv _ => ps.length - (intOf iv).toNat)
  case atStart => exact ⟨0, rfl, rfl, Nat.zero_le _, Below.refl _ _⟩
  case round =>
    obtain ⟨k, rfl, rfl, hk, hb⟩ := hrel
    by_cases hlt : k < ps.length
    case neg =>
      have hki : ¬ (k : Int) < (ps.length : Int) := by omega
      go_wp2
      go_ret
      exact ⟨rfl, hb.out⟩
    have hki : (k : Int) < (ps.length : Int) := by omega
    have wkk : IntKind.i64.wrap ((k : Int) + 1) = (k : Int) + 1 := by rw [IntKind.wrap_i64]; omega
    obtain ⟨b, o, rfl, lc⟩ := (HB.out.below hb.out).cells (strsV_ne (by omega))
    have cx := lc k (.string ps[k]) (by unfold strsV; rw [List.getElem?_map, List.getElem?_eq_getElem hlt]; rfl)
    generalize ps[k] = x at cx
    clear lc
    go_wp2_with fail
    refine (lets_nil _ x).mono ?_
    rintro e w2 ⟨rfl, b2⟩
    have HB2 : Hid (Below w.heap.size w w2) := hb.out.trans (b2.mono hb.out.size)
    clear b2
    go_wp2
    go_roundw
    case rel => first | exact ⟨k + 1, rfl, by go_num, hlt, HB2⟩ | ((repeat apply Exists.intro); refine ⟨?_, rfl⟩; exact ⟨k + 1, rfl, by go_num, hlt, HB2⟩)
    case measure => simp [intOf]; omega
end Go.Proofs.YtmagidkgajmhoaaDoor
