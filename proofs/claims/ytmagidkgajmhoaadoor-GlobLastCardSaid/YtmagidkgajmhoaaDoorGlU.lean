/- GlU: plain: what rules a text has; what they let in. -/
import Derived.Test.YtmagidkgajmhoaaDoorGlQ
set_option linter.unusedVariables false
set_option linter.unusedSimpArgs false
namespace Go.Proofs.YtmagidkgajmhoaaDoor
open Go.RowKit

/-- A line that is skipped. -/
def skipB (x : Bs) : Bool := x.isEmpty || headIs x 35
def rdR : List (Bool × PPat) → List Bs → Option (List (Bool × PPat))
  | acc, [] => some acc
  | acc, x :: r => if skipB x then rdR acc r else if Lib.hasPrefix x [43, 32] || Lib.hasPrefix x [45, 32] then (match parseP (x.drop 2) with
    | none => none
    | some P => if acc.length = 64 then none else rdR (acc ++ [(Lib.hasPrefix x [43, 32], P)]) r) else none
/-- The rules of a text. -/
def readP (D : Bs) : Option (List (Bool × PPat)) := if 4096 < D.length then none else rdR [] (sep 10 D)
theorem rdR_app : ∀ (a b : List Bs) (acc : List (Bool × PPat)), rdR acc (a ++ b) = (rdR acc a).bind (fun z => rdR z b)
  | [], b, acc => rfl
  | x :: a, b, acc => by
    rw [List.cons_append, rdR, rdR]
    split
    · exact rdR_app a b acc
    · split
      · cases parseP (x.drop 2) with
        | none => rfl
        | some P =>
          simp only
          split
          · rfl
          · exact rdR_app a b _
      · rfl
theorem rdR_len : ∀ (a : List Bs) (acc L : List (Bool × PPat)), rdR acc a = some L → acc.length ≤ 64 → L.length ≤ 64
  | [], acc, L, h, hl => by cases h; exact hl
  | x :: a, acc, L, h, hl => by
    rw [rdR] at h
    split at h
    · exact rdR_len a acc L h hl
    · split at h
      · split at h
        · cases h
        · split at h
          · cases h
          · refine rdR_len a _ L h ?_
            rw [List.length_append]
            simp
            omega
      · cases h
/-- Is a path met, or one above it? -/
def metA (P : PPat) : Nat → Bs → Bool
  | 0, _ => false
  | n + 1, x => if x = [] then false else patMeets P x || metA P n (aboveB x)
def metU (P : PPat) (q : Bs) : Bool := metA P q.length q
def letsV : List (Bool × PPat) → Bs → Bool
  | [], _ => true
  | (i, P) :: r, q => if metU P q then i else letsV r q
def letsP (R : List (Bool × PPat)) (q : Bs) : Bool := goodB q && letsV R.reverse q
theorem above_lt {x : Bs} (h : x ≠ []) : (aboveB x).length < x.length := by
  have h0 : 0 < x.length := List.length_pos_iff.2 h
  unfold aboveB
  split
  · obtain ⟨p, ps, e⟩ := cut_cons x
    have hg := glue_cut x
    by_cases hd : (cut x).dropLast = []
    · rw [hd]; simpa [glue] using h0
    · have hne := cut_ne x
      have : cut x = (cut x).dropLast ++ [(cut x).getLast hne] := (List.dropLast_concat_getLast hne).symm
      have h2 := glue_append (cut x).dropLast [(cut x).getLast hne] hd (by simp)
      rw [← this, hg] at h2
      have h3 := congrArg List.length h2
      rw [List.length_append, List.length_cons] at h3
      omega
  · exact h0
theorem metA_more (P : PPat) : ∀ (n m : Nat) (x : Bs), x.length ≤ n → n ≤ m → metA P m x = metA P n x
  | 0, m, x, h, _ => by
    obtain rfl := List.eq_nil_of_length_eq_zero (Nat.le_zero.1 h)
    cases m <;> simp [metA]
  | n + 1, 0, x, h, hm => by omega
  | n + 1, m + 1, x, h, hm => by
    rw [metA, metA]
    split
    · rfl
    · rename_i hx
      have := above_lt hx
      rw [metA_more P n m (aboveB x) (by omega) (by omega)]
theorem metU_nil (P : PPat) : metU P [] = false := rfl
theorem metU_step (P : PPat) {x : Bs} (h : x ≠ []) : metU P x = (patMeets P x || metU P (aboveB x)) := by
  unfold metU
  have h0 : 0 < x.length := List.length_pos_iff.2 h
  have h1 := above_lt h
  rw [← metA_more P x.length x.length x (Nat.le_refl _) (Nat.le_refl _)]
  obtain ⟨n, hn⟩ : ∃ n, x.length = n + 1 := ⟨x.length - 1, by omega⟩
  rw [hn, metA, if_neg h, metA_more P (aboveB x).length n (aboveB x) (Nat.le_refl _) (by omega)]
theorem letsV_snoc (R : List (Bool × PPat)) (i : Bool) (P : PPat) (q : Bs) (hg : goodB q = true) : letsP (R ++ [(i, P)]) q = if metU P q then i else letsP R q := by
  unfold letsP
  rw [List.reverse_append, hg]
  rfl
/-- One line more at the end. -/
theorem read_more {T p : Bs} {R : List (Bool × PPat)} {P : PPat} (i : Bool) (hT : readP T = some R) (hp : parseP p = some P) (hn : (10 : UInt8) ∉ p) (hl : T.length ≤ 3000) (hpl : p.length ≤ 64) :
    readP (T ++ 10 :: ((if i then [43, 32] else [45, 32]) ++ p)) = if R.length = 64 then none else some (R ++ [(i, P)]) := by
  unfold readP at hT ⊢
  rw [if_neg (by omega)] at hT
  have hz : (10 : UInt8) ∉ (if i then ([43, 32] : Bs) else [45, 32]) ++ p := by
    intro h
    rcases List.mem_append.1 h with h | h
    · revert h; cases i <;> decide
    · exact hn h
  rw [if_neg (by rw [List.length_append, List.length_cons, List.length_append]; cases i <;> simp <;> omega), sep_append, sep_plain 10 _ hz, rdR_app, hT]
  simp only [Option.bind_some]
  cases i
  · simp only [Bool.false_eq_true, if_false]
    rw [rdR, if_neg (by simp [skipB, headIs]), if_pos (by simp [Lib.hasPrefix])]
    rw [show ([45, 32] ++ p : Bs).drop 2 = p from rfl, hp]
    simp only
    split
    · rfl
    · rw [show Lib.hasPrefix ([45, 32] ++ p : Bs) [43, 32] = false from rfl]; rfl
  · simp only [if_true]
    rw [rdR, if_neg (by simp [skipB, headIs]), if_pos (by simp [Lib.hasPrefix])]
    rw [show ([43, 32] ++ p : Bs).drop 2 = p from rfl, hp]
    simp only
    split
    · rfl
    · rw [show Lib.hasPrefix ([43, 32] ++ p : Bs) [43, 32] = true by simp [Lib.hasPrefix]]; rfl
end Go.Proofs.YtmagidkgajmhoaaDoor
