/- GlN: plain: how long tokens are; what Parse makes. -/
import Derived.Test.YtmagidkgajmhoaaDoorGlL
set_option linter.unusedVariables false
set_option linter.unusedSimpArgs false
namespace Go.Proofs.YtmagidkgajmhoaaDoor
open Go.RowKit

theorem setF_bnd : ∀ (f : Nat) (acc : Spans) (r : Bs) (l : Spans) (r' : Bs), setF f acc r = some (l, r') → l.length + r'.length ≤ acc.length + r.length
  | 0, acc, r, l, r', h => by cases h
  | f + 1, acc, r, l, r', h => by
    rw [setF] at h
    split at h
    · cases h
      have : (r.drop 1).length ≤ r.length := by rw [List.length_drop]; omega
      omega
    · split at h
      · cases h
      · rename_i a r1 hm
        have h1 := memP_len hm
        split at h
        · split at h
          · cases h
          · rename_i b r2 hm2
            have h2 := memP_len hm2
            have h3 : (r1.drop 1).length ≤ r1.length := by rw [List.length_drop]; omega
            split at h
            · cases h
            · have := setF_bnd f _ _ _ _ h
              rw [List.length_append] at this
              simp at this
              omega
        · have := setF_bnd f _ _ _ _ h
          rw [List.length_append] at this
          simp at this
          omega
theorem setQ_bnd {r : Bs} {x : Bool × Spans × Bs} (h : setQ r = some x) : x.2.1.length + x.2.2.length ≤ r.length := by
  unfold setQ at h
  split at h
  · rw [Option.map_eq_some_iff] at h
    obtain ⟨y, hy, rfl⟩ := h
    have := setF_bnd _ _ _ _ _ hy
    simp only [List.length_nil, List.length_drop] at this ⊢
    omega
  · rw [Option.map_eq_some_iff] at h
    obtain ⟨y, hy, rfl⟩ := h
    have := setF_bnd _ _ _ _ _ hy
    simp only [List.length_nil] at this ⊢
    omega
theorem tokP_bnd {r : Bs} {t : PTok} {r' : Bs} (h : tokP r = some (t, r')) : t.l.length + r'.length ≤ r.length := by
  cases r with
  | nil => cases h
  | cons c r =>
    unfold tokP at h
    simp only at h
    split at h
    · cases h
    · split at h
      · cases h; simp
      · split at h
        · cases h; simp; omega
        · split at h
          · rw [Option.map_eq_some_iff] at h
            obtain ⟨x, hx, hy⟩ := h
            cases hy
            have := setQ_bnd hx
            simp only [List.length_cons]
            omega
          · split at h
            · split at h
              · cases h
              · cases h; simp; omega
            · cases h; simp; omega
theorem rawF_bnd {n : Nat} : ∀ (f : Nat) (acc : List PTok) (r : Bs) (L : List PTok), rawF f acc r = some L → r.length ≤ n → (∀ t ∈ acc, t.l.length ≤ n) → ∀ t ∈ L, t.l.length ≤ n
  | 0, acc, r, L, h, _, _ => by cases h
  | f + 1, acc, r, L, h, hr, ha => by
    rw [rawF] at h
    split at h
    · cases h; exact ha
    · split at h
      · cases h
      · rename_i t r' ht
        have := tokP_bnd ht
        refine rawF_bnd f _ _ _ h (by omega) (fun x hx => ?_)
        rcases List.mem_append.1 hx with hx | hx
        · exact ha x hx
        · rw [List.mem_singleton] at hx
          subst hx
          omega
theorem rawP_bnd {r : Bs} {L : List PTok} (h : rawP r = some L) : ∀ t ∈ L, t.l.length ≤ r.length := rawF_bnd _ _ _ _ h (Nat.le_refl _) (fun t ht => by cases ht)
/-- A part of a pattern: any names, or tokens. -/
structure PPt where
  any : Bool
  l : List PTok
def ptP (x : Bs) : Option PPt := if x = [42, 42] then some ⟨true, []⟩ else match rawP x with
  | none => none
  | some L => if L = [] then none else some ⟨false, L⟩
def ptsP : List Bs → Option (List PPt)
  | [] => some []
  | x :: r => match ptP x with
    | none => none
    | some p => (ptsP r).map (p :: ·)
def cutB (l : List Bs) : List Bs × Bool := if 1 < l.length ∧ l.getLast? = some [] then (l.dropLast, true) else (l, false)
def cutH (l : List Bs) : List Bs := if 1 < l.length ∧ l.head? = some [] then l.tail else l
/-- A pattern. -/
structure PPat where
  ps : List PPt
  deep : Bool
  below : Bool
def parseL (l : List Bs) : Option PPat := (ptsP (cutH (cutB l).1)).map (fun ps => ⟨ps, decide ((cutB l).1.length = 1), (cutB l).2⟩)
/-- What a text is as a pattern. -/
def parseP (D : Bs) : Option PPat := if 64 < D.length then none else parseL (cutE D)
def PtM.pt (x : PtM) : PPt := ⟨x.any, x.L.map (·.t)⟩
def PatM.pat (m : PatM) : PPat := ⟨m.ps.map PtM.pt, m.deep, m.below⟩
/-- Whether it meets names. -/
def tokMeets (L : List PTok) (n : Bs) : Bool := gm PTok.many (fun t c => tokHas t c) L n
def patMeets (P : PPat) (q : Bs) : Bool := metN (gm PPt.any (fun x n => tokMeets x.l n) P.ps) P.deep P.below (partsB q)
theorem gm_map {α β γ : Type} (f : α → γ) (many : γ → Bool) (has : γ → β → Bool) : ∀ (l : List α) (n : List β), gm many has (l.map f) n = gm (fun x => many (f x)) (fun x c => has (f x) c) l n
  | [], n => by cases n <;> rfl
  | t :: ts, n => by
    cases ht : many (f t) with
    | true =>
      rw [List.map_cons, gm_many ht, gm_many (t := t) (many := fun x => many (f x)) ht]
      exact someEnd_congr (gm_map f many has ts) n
    | false =>
      cases n with
      | nil => rw [List.map_cons, gm_one_nil ht, gm_one_nil (t := t) (many := fun x => many (f x)) ht]
      | cons c n => rw [List.map_cons, gm_one_cons ht, gm_one_cons (t := t) (many := fun x => many (f x)) ht, gm_map f many has ts n]
theorem metP_pat (m : PatM) (q : ByteArray) : metP m q = patMeets m.pat (dat q) := by
  unfold metP patMeets PatM.pat
  simp only
  congr 1
  funext n
  rw [gm_map]
  have e : phas = fun (x : PtM) n => tokMeets x.pt.l n := by
    funext x n
    unfold phas tokMeets PtM.pt
    rw [gm_map]
    rfl
  rw [e]
  rfl
end Go.Proofs.YtmagidkgajmhoaaDoor
