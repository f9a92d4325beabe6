/- GlR: plain: a path written out as a pattern. -/
import Derived.Test.YtmagidkgajmhoaaDoorGlQ
set_option linter.unusedVariables false
set_option linter.unusedSimpArgs false
namespace Go.Proofs.YtmagidkgajmhoaaDoor
open Go.RowKit

/-- A byte that stands for itself in a literal pattern. -/
def plainB (c : UInt8) : Bool := c == 47 || (decide (97 ≤ c.toNat) && decide (c.toNat ≤ 122)) || (decide (48 ≤ c.toNat) && decide (c.toNat ≤ 57))
def escC (c : UInt8) : Bs := if plainB c then [c] else [92, c]
def esc : Bs → Bs
  | [] => []
  | c :: r => escC c ++ esc r
def lit (D : Bs) : Bs := 47 :: esc D
theorem esc_app : ∀ a b : Bs, esc (a ++ b) = esc a ++ esc b
  | [], b => rfl
  | c :: a, b => by rw [List.cons_append, esc, esc, esc_app a b, List.append_assoc]
theorem plain_lit {c : UInt8} (h : plainB c = true) : c = 47 ∨ (c ≠ 92 ∧ c ≠ 93 ∧ c ≠ 42 ∧ c ≠ 63 ∧ c ≠ 91) := by
  unfold plainB at h
  by_cases h47 : c = 47
  · exact .inl h47
  · right
    have hb : (c == 47) = false := beq_false_of_ne h47
    rw [hb] at h
    simp only [Bool.false_or, Bool.or_eq_true, Bool.and_eq_true, decide_eq_true_eq] at h
    have k : ∀ z : UInt8, ¬ (97 ≤ z.toNat ∧ z.toNat ≤ 122 ∨ 48 ≤ z.toNat ∧ z.toNat ≤ 57) → c ≠ z := by
      rintro z hz rfl
      exact hz h
    exact ⟨k 92 (by decide), k 93 (by decide), k 42 (by decide), k 63 (by decide), k 91 (by decide)⟩
theorem cutE_esc : ∀ D : Bs, cutE (esc D) = (cut D).map esc
  | [] => rfl
  | c :: r => by
    rw [esc, cut_c]
    by_cases h47 : c = 47
    · subst h47
      rw [show escC 47 = [47] by decide, if_pos rfl]
      show cutE (47 :: esc r) = _
      rw [cutE_47, cutE_esc r]
      rfl
    · rw [if_neg h47]
      obtain ⟨p, ps, e⟩ := cut_cons r
      have ih := cutE_esc r
      rw [e] at ih ⊢
      unfold escC
      split
      · rename_i hp
        rcases plain_lit hp with h | h
        · exact absurd h h47
        · show cutE (c :: esc r) = _
          rw [cutE_c h.1 h47, ih]
          simp only [List.headD_cons, List.tail_cons, List.map_cons, push, esc, escC, if_pos hp]
      · rename_i hp
        show cutE (92 :: c :: esc r) = _
        rw [cutE_92]
        simp only [List.take_succ_cons, List.take_zero, List.drop_succ_cons, List.drop_zero]
        rw [ih]
        simp only [List.headD_cons, List.tail_cons, List.map_cons, push, esc, escC, if_neg hp]
def tokOf (c : UInt8) : PTok := ⟨false, false, [(c, c)]⟩
theorem esc_len : ∀ n : Bs, n.length ≤ (esc n).length
  | [] => Nat.le_refl _
  | c :: r => by
    have := esc_len r
    rw [esc, List.length_append, List.length_cons]
    unfold escC
    split <;> simp <;> omega
theorem rawF_esc : ∀ (n : Bs) (f : Nat) (acc : List PTok), (47 : UInt8) ∉ n → n.length < f → rawF f acc (esc n) = some (acc ++ n.map tokOf)
  | [], f + 1, acc, _, _ => by rw [rawF, esc, if_pos rfl]; simp
  | c :: r, f + 1, acc, h, hf => by
    simp only [List.mem_cons, not_or] at h
    have hne : esc (c :: r) ≠ [] := by
      intro e
      have := esc_len (c :: r)
      rw [e] at this
      simp at this
    have ht : tokP (esc (c :: r)) = some (tokOf c, esc r) := by
      rw [esc]
      unfold escC
      split
      · rename_i hp
        rcases plain_lit hp with h0 | ⟨h1, h2, h3, h4, h5⟩
        · exact absurd h0.symm h.1
        · show tokP (c :: esc r) = _
          unfold tokP
          simp only
          rw [if_neg (by rintro (x | x); exact h2 x; exact h.1 x.symm), if_neg h3, if_neg h4, if_neg h5, if_neg h1]
          rfl
      · show tokP (92 :: c :: esc r) = _
        unfold tokP
        simp only
        rw [if_neg (by decide), if_neg (by decide), if_neg (by decide), if_neg (by decide), if_pos trivial]
        rfl
    rw [rawF, if_neg hne, ht]
    simp only
    rw [rawF_esc r f _ h.2 (by simp at hf; omega)]
    simp
theorem rawP_esc (n : Bs) (h : (47 : UInt8) ∉ n) : rawP (esc n) = some (n.map tokOf) := by
  unfold rawP
  rw [rawF_esc n _ _ h (by have := esc_len n; omega)]
  simp
theorem ptP_esc {n : Bs} (h : (47 : UInt8) ∉ n) (hn : n ≠ []) : ptP (esc n) = some ⟨false, n.map tokOf⟩ := by
  unfold ptP
  rw [if_neg, rawP_esc n h]
  · simp only
    rw [if_neg (by simpa using hn)]
  · cases n with
    | nil => exact absurd rfl hn
    | cons c r =>
      rw [esc]
      unfold escC
      split
      · rename_i hp
        intro e
        have e2 : c = 42 := by simp at e; exact e.1
        rcases plain_lit hp with h0 | h0
        · rw [h0] at e2; exact absurd e2 (by decide)
        · exact h0.2.2.1 e2
      · intro e
        simp at e
theorem ptsP_esc : ∀ l : List Bs, (∀ n ∈ l, (47 : UInt8) ∉ n ∧ n ≠ []) → ptsP (l.map esc) = some (l.map (fun n => (⟨false, n.map tokOf⟩ : PPt)))
  | [], _ => rfl
  | n :: l, h => by
    rw [List.map_cons, ptsP, ptP_esc (h n (by simp)).1 (h n (by simp)).2]
    simp only
    rw [ptsP_esc l (fun m hm => h m (by simp [hm]))]
    rfl
/-- Where no part is many, parts meet just what they are. -/
theorem gm_plain {α β : Type} [DecidableEq β] {many : α → Bool} {has : α → β → Bool} {f : β → α} (hm : ∀ x, many (f x) = false) (hh : ∀ x y, has (f x) y = decide (y = x)) : ∀ (l n : List β), gm many has (l.map f) n = decide (n = l)
  | [], [] => rfl
  | [], _ :: _ => rfl
  | x :: l, [] => by rw [List.map_cons, gm_one_nil (hm x)]; simp
  | x :: l, y :: n => by
    rw [List.map_cons, gm_one_cons (hm x), hh, gm_plain hm hh l n, Bool.eq_iff_iff]
    simp
theorem tok_plain (n m : Bs) : tokMeets (n.map tokOf) m = decide (m = n) := by
  unfold tokMeets
  refine gm_plain (fun x => rfl) (fun x y => ?_) n m
  unfold tokHas tokOf inSp
  rw [Bool.eq_iff_iff]
  simp only [List.any_cons, List.any_nil, Bool.or_false, bne_iff_ne, ne_eq, Bool.not_eq_false, decide_eq_true_eq, Bool.and_eq_true]
  constructor
  · intro h
    have h1 := h.1
    have h2 := h.2
    exact UInt8.toNat_inj.1 (Nat.le_antisymm h2 h1)
  · rintro rfl
    exact ⟨Nat.le_refl _, Nat.le_refl _⟩
/-- The parts of a literal pattern. -/
def litPs (D : Bs) : List PPt := (cut D).map (fun n => ⟨false, n.map tokOf⟩)
theorem good_pieces {D : Bs} (h : goodB D = true) : ∀ n ∈ cut D, (47 : UInt8) ∉ n ∧ n ≠ [] := fun n hn => by
  refine ⟨cut_no D n hn, ?_⟩
  have := (name_len ((good_iff.1 h).2 n hn)).1
  intro e
  rw [e] at this
  simp at this
theorem esc_ne {n : Bs} (h : n ≠ []) : esc n ≠ [] := fun e => by
  have := esc_len n
  rw [e] at this
  cases n with
  | nil => exact h rfl
  | cons a r => simp at this
theorem parse_lit {D : Bs} (h : goodB D = true) (hl : (lit D).length ≤ 64) : parseP (lit D) = some ⟨litPs D, false, false⟩ := by
  unfold parseP
  rw [if_neg (by omega)]
  have hc : cutE (lit D) = [] :: (cut D).map esc := by unfold lit; rw [cutE_47, cutE_esc]
  rw [hc]
  have hp := good_pieces h
  obtain ⟨p, ps, e⟩ := cut_cons D
  have hB : cutB ([] :: (cut D).map esc) = ([] :: (cut D).map esc, false) := by
    unfold cutB
    rw [if_neg]
    rintro ⟨_, h2⟩
    rw [List.getLast?_cons, ] at h2
    have hm : (cut D).map esc ≠ [] := by rw [e]; simp
    rw [List.getLast?_eq_some_getLast hm] at h2
    simp only [Option.getD_some, Option.some.injEq] at h2
    have hin := List.getLast_mem hm
    rw [h2] at hin
    obtain ⟨n, hn, hn2⟩ := List.mem_map.1 hin
    exact esc_ne (hp n hn).2 hn2
  unfold parseL
  rw [hB]
  have hH : cutH ([] :: (cut D).map esc) = (cut D).map esc := by
    unfold cutH
    rw [if_pos ⟨by rw [e]; simp, rfl⟩]
    rfl
  simp only
  rw [hH, ptsP_esc _ hp]
  simp only [Option.map_some, litPs]
  rw [e]
  simp
theorem parse_below {D : Bs} (h : goodB D = true) (hl : (lit D).length ≤ 63) : parseP (lit D ++ [47]) = some ⟨litPs D, false, true⟩ := by
  unfold parseP
  rw [if_neg (by rw [List.length_append]; simp; omega)]
  have hc : cutE (lit D ++ [47]) = ([] :: (cut D).map esc) ++ [[]] := by
    unfold lit
    have h47 : [47] = esc [47] := by decide
    rw [h47, List.cons_append, ← esc_app, cutE_47, cutE_esc, cut_append]
    simp [cut, esc]
  rw [hc]
  have hp := good_pieces h
  obtain ⟨p, ps, e⟩ := cut_cons D
  have hB : cutB (([] :: (cut D).map esc) ++ [[]]) = ([] :: (cut D).map esc, true) := by
    unfold cutB
    rw [if_pos ⟨by rw [e]; simp, List.getLast?_concat⟩, List.dropLast_concat]
  unfold parseL
  rw [hB]
  have hH : cutH ([] :: (cut D).map esc) = (cut D).map esc := by
    unfold cutH
    rw [if_pos ⟨by rw [e]; simp, rfl⟩]
    rfl
  simp only
  rw [hH, ptsP_esc _ hp]
  simp only [Option.map_some, litPs]
  rw [e]
  simp
theorem W_lit (D : Bs) : gm PPt.any (fun x n => tokMeets x.l n) (litPs D) = fun n => decide (n = cut D) := by
  funext n
  exact gm_plain (many := PPt.any) (has := fun x n => tokMeets x.l n) (f := fun n => (⟨false, n.map tokOf⟩ : PPt)) (fun x => rfl) (fun x y => tok_plain x y) _ _
theorem parts_eq {D q : Bs} (h : goodB D = true) : partsB q = cut D ↔ q = D := by
  unfold partsB
  split
  · exact ⟨fun e => cut_inj e, fun e => by rw [e]⟩
  · rename_i hq
    constructor
    · intro e; exact absurd e.symm (cut_ne D)
    · rintro rfl; exact absurd h hq
theorem meets_lit {D : Bs} (h : goodB D = true) (q : Bs) : patMeets ⟨litPs D, false, false⟩ q = decide (q = D) := by
  unfold patMeets
  simp only
  rw [W_lit]
  unfold metN
  rw [Bool.eq_iff_iff, decide_eq_true_eq]
  split
  · rename_i h0
    constructor
    · intro x; cases x
    · rintro rfl
      rw [(parts_eq h).2 rfl] at h0
      exact absurd (List.eq_nil_of_length_eq_zero h0) (cut_ne _)
  · rename_i h0
    obtain ⟨k, hk⟩ : ∃ k, (partsB q).length = k + 1 := ⟨(partsB q).length - 1, by omega⟩
    rw [if_neg (by decide), metE, metE, hk, metF, ← hk, List.take_length]
    simp only [List.drop_zero, Bool.false_and, Bool.or_false, decide_eq_true_eq]
    exact parts_eq h
theorem metE_take (W : List Bs → Bool) (N : List Bs) : ∀ (k n : Nat), 1 ≤ n → (metE W false N k n = true ↔ ∃ j, n ≤ j ∧ j < n + k ∧ W (N.take j) = true)
  | 0, n, _ => by
    constructor
    · intro x; cases x
    · rintro ⟨j, h1, h2, _⟩; omega
  | k + 1, n, hn => by
    obtain ⟨i, rfl⟩ : ∃ i, n = i + 1 := ⟨n - 1, by omega⟩
    rw [metE, metF]
    simp only [List.drop_zero, Bool.false_and, Bool.or_false, Bool.or_eq_true]
    rw [metE_take W N k (i + 1 + 1) (by omega)]
    constructor
    · rintro (h | ⟨j, h1, h2, h3⟩)
      · exact ⟨i + 1, by omega, by omega, h⟩
      · exact ⟨j, by omega, by omega, h3⟩
    · rintro ⟨j, h1, h2, h3⟩
      by_cases e : j = i + 1
      · subst e; exact .inl h3
      · exact .inr ⟨j, by omega, by omega, h3⟩
theorem meets_below {D : Bs} (h : goodB D = true) (q : Bs) : patMeets ⟨litPs D, false, true⟩ q = (!decide (q = D) && coversB D q) := by
  unfold patMeets
  simp only
  rw [W_lit, Bool.eq_iff_iff]
  have hD : 1 ≤ (cut D).length := by
    have := cut_ne D
    cases hh : cut D with
    | nil => exact absurd hh this
    | cons a r => simp
  unfold metN
  simp only [Bool.and_eq_true, Bool.not_eq_true', decide_eq_false_iff_not]
  rw [covers_iff]
  split
  · rename_i h0
    constructor
    · intro x; cases x
    · rintro ⟨h1, h2, h3, h4⟩
      rcases place_iff.1 h3 with rfl | hq
      · rcases h4 with rfl | h4
        · exact absurd h (by decide)
        · exact absurd h4 (not_pre_nil h)
      · unfold partsB at h0
        rw [if_pos hq] at h0
        exact absurd (List.eq_nil_of_length_eq_zero h0) (cut_ne _)
  · rename_i h0
    rw [if_pos trivial, metE_take _ _ _ _ (Nat.le_refl 1)]
    have hq : goodB q = true := by
      unfold partsB at h0
      split at h0
      · assumption
      · simp at h0
    have e : partsB q = cut q := by unfold partsB; rw [if_pos hq]
    rw [e] at h0 ⊢
    constructor
    · rintro ⟨j, h1, h2, h3⟩
      have h3 := of_decide_eq_true h3
      refine ⟨?_, by unfold placeB; rw [h]; simp, by unfold placeB; rw [hq]; simp, .inr ?_⟩
      · rintro rfl
        have := congrArg List.length h3
        rw [List.length_take] at this
        omega
      · rw [← h3]; exact List.take_prefix _ _
    · rintro ⟨h1, _, _, h4⟩
      rcases h4 with rfl | h4
      · exact absurd h (by decide)
      · have ht := List.prefix_iff_eq_take.1 h4
        refine ⟨(cut D).length, hD, ?_, decide_eq_true ht.symm⟩
        have hle := h4.length_le
        rcases Nat.lt_or_ge (cut D).length (cut q).length with hl | hl
        · omega
        · rw [List.take_of_length_le hl] at ht
          exact absurd (cut_inj ht.symm) h1
end Go.Proofs.YtmagidkgajmhoaaDoor
