/- PathP: names, paths, places over lists of bytes: the plain laws; no program in sight. -/
import Derived.Lib.Join
import Derived.Lib.Strings
set_option linter.unusedVariables false
set_option linter.unusedSimpArgs false
namespace Go.Proofs.YtmagidkgajmhoaaDoor

abbrev Bs := List UInt8
/-- A text's pieces between the strokes. -/
def cut : Bs → List Bs
  | [] => [[]]
  | c :: l => if c = 47 then [] :: cut l else (c :: (cut l).headD []) :: (cut l).tail
/-- Texts with strokes between them. -/
def glue : List Bs → Bs
  | [] => []
  | [a] => a
  | a :: b :: r => a ++ 47 :: glue (b :: r)

theorem cut_c (c : UInt8) (l : Bs) : cut (c :: l) = if c = 47 then [] :: cut l else (c :: (cut l).headD []) :: (cut l).tail := rfl
theorem cut_ne : ∀ l, cut l ≠ []
  | [] => by simp [cut]
  | c :: l => by unfold cut; split <;> simp
theorem cut_cons (l : Bs) : ∃ p ps, cut l = p :: ps := by
  cases h : cut l with
  | nil => exact (cut_ne l h).elim
  | cons p ps => exact ⟨p, ps, rfl⟩
theorem glue_cons (a : Bs) (r : List Bs) (h : r ≠ []) : glue (a :: r) = a ++ 47 :: glue r := by
  cases r with
  | nil => exact (h rfl).elim
  | cons b r => rfl
theorem glue_cut : ∀ l, glue (cut l) = l
  | [] => rfl
  | c :: l => by
    unfold cut
    split
    · rename_i h
      rw [glue_cons _ _ (cut_ne l), glue_cut l, h]; rfl
    · obtain ⟨p, ps, e⟩ := cut_cons l
      have ih := glue_cut l
      rw [e] at ih ⊢
      simp only [List.headD_cons, List.tail_cons]
      cases ps with
      | nil => simp only [glue] at ih ⊢; rw [ih]
      | cons q qs => rw [glue_cons _ _ (by simp)] at ih ⊢; rw [List.cons_append, ih]
theorem cut_no : ∀ l, ∀ p ∈ cut l, (47 : UInt8) ∉ p
  | [], p, hp => by simp [cut] at hp; simp [hp]
  | c :: l, p, hp => by
    unfold cut at hp
    obtain ⟨q, qs, e⟩ := cut_cons l
    split at hp
    · rcases List.mem_cons.1 hp with rfl | hp
      · simp
      · exact cut_no l p hp
    · rename_i h
      rw [e] at hp
      simp only [List.headD_cons, List.tail_cons] at hp
      rcases List.mem_cons.1 hp with rfl | hp
      · have := cut_no l q (by rw [e]; simp)
        simp only [List.mem_cons, not_or]
        exact ⟨fun x => h x.symm, this⟩
      · exact cut_no l p (by rw [e]; simp [hp])
theorem cut_append (a b : Bs) : cut (a ++ 47 :: b) = cut a ++ cut b := by
  induction a with
  | nil => simp [cut]
  | cons c a ih =>
    obtain ⟨p, ps, e⟩ := cut_cons a
    rw [List.cons_append, cut_c, cut_c]
    split
    · rw [ih]; rfl
    · rw [ih, e]; simp
theorem cut_plain (a : Bs) (h : (47 : UInt8) ∉ a) : cut a = [a] := by
  induction a with
  | nil => rfl
  | cons c a ih =>
    simp only [List.mem_cons, not_or] at h
    unfold cut
    rw [if_neg (fun x => h.1 x.symm), ih h.2]; rfl
theorem cut_glue : ∀ (ps : List Bs), ps ≠ [] → (∀ p ∈ ps, (47 : UInt8) ∉ p) → cut (glue ps) = ps
  | [], h, _ => (h rfl).elim
  | [a], _, h => cut_plain a (h a (by simp))
  | a :: b :: r, _, h => by
    rw [glue_cons _ _ (by simp), cut_append, cut_plain a (h a (by simp)), cut_glue (b :: r) (by simp) (fun p hp => h p (by simp [hp]))]
    rfl
theorem glue_append (a b : List Bs) (ha : a ≠ []) (hb : b ≠ []) : glue (a ++ b) = glue a ++ 47 :: glue b := by
  induction a with
  | nil => exact (ha rfl).elim
  | cons x a ih =>
    by_cases h : a = []
    · subst h; rw [List.cons_append, List.nil_append, glue_cons _ _ hb]; rfl
    · rw [List.cons_append, glue_cons _ _ (by simp [h]), ih h, glue_cons _ _ h, List.append_assoc, List.cons_append]
theorem cut_inj {a b : Bs} (h : cut a = cut b) : a = b := by rw [← glue_cut a, ← glue_cut b, h]
/-- One covers the other just if its pieces begin the other's. -/
theorem pre_iff (a p : Bs) : (p = a ∨ a ++ [47] <+: p) ↔ cut a <+: cut p := by
  constructor
  · rintro (rfl | ⟨r, rfl⟩)
    · exact List.prefix_refl _
    · rw [List.append_assoc, List.singleton_append, cut_append]
      exact List.prefix_append _ _
  · rintro ⟨r, e⟩
    by_cases hr : r = []
    · subst hr
      left
      rw [List.append_nil] at e
      exact (cut_inj e).symm
    · right
      have := glue_cut p
      rw [← e, glue_append _ _ (cut_ne a) hr, glue_cut] at this
      exact ⟨glue r, by rw [← this, List.append_assoc]; rfl⟩

def okB (c : UInt8) : Bool := (decide (97 ≤ c) && decide (c ≤ 122)) || (decide (48 ≤ c) && decide (c ≤ 57)) || c == 45 || c == 95 || c == 46
def nameB (l : Bs) : Bool := decide (1 ≤ l.length) && decide (l.length ≤ 12) && !(l == [46]) && !(l == [46, 46]) && l.all okB
def goodB (l : Bs) : Bool := decide (l.length ≤ 32) && (cut l).all nameB
def placeB (l : Bs) : Bool := l == [] || goodB l
def partsB (l : Bs) : List Bs := if goodB l then cut l else []
def coversB (a p : Bs) : Bool := placeB a && placeB p && (a == [] || decide (cut a <+: cut p))
def aboveB (l : Bs) : Bs := if goodB l then glue (cut l).dropLast else []

theorem name_len {l : Bs} (h : nameB l = true) : 1 ≤ l.length ∧ l.length ≤ 12 := by
  unfold nameB at h; simp only [Bool.and_eq_true, decide_eq_true_eq] at h; exact ⟨h.1.1.1.1, h.1.1.1.2⟩
theorem good_nil : goodB [] = false := by decide
theorem good_ne {l : Bs} (h : goodB l = true) : l ≠ [] := by rintro rfl; rw [good_nil] at h; cases h
theorem good_iff {l : Bs} : goodB l = true ↔ l.length ≤ 32 ∧ ∀ p ∈ cut l, nameB p = true := by
  unfold goodB; simp
theorem covers_iff {a p : Bs} : coversB a p = true ↔ placeB a = true ∧ placeB p = true ∧ (a = [] ∨ cut a <+: cut p) := by
  unfold coversB; simp [and_assoc]
theorem place_iff {a : Bs} : placeB a = true ↔ a = [] ∨ goodB a = true := by unfold placeB; simp
theorem covers_nil (a : Bs) : coversB [] a = placeB a := by unfold coversB placeB; simp
theorem covers_self (a : Bs) : coversB a a = placeB a := by
  rw [Bool.eq_iff_iff, covers_iff]
  exact ⟨fun h => h.1, fun h => ⟨h, h, .inr (List.prefix_refl _)⟩⟩
theorem not_pre_nil {a : Bs} (h : goodB a = true) : ¬ cut a <+: cut ([] : Bs) := by
  intro hp
  have := hp.length_le
  obtain ⟨p, ps, e⟩ := cut_cons a
  have hh := (List.prefix_iff_eq_take.1 hp)
  rw [e] at this
  simp [cut] at this
  subst this
  rw [e] at hh
  simp [cut] at hh
  subst hh
  have := (good_iff.1 h).2 [] (by rw [e]; simp)
  revert this
  decide
theorem covers_trans {a b c : Bs} (h1 : coversB a b = true) (h2 : coversB b c = true) : coversB a c = true := by
  rw [covers_iff] at *
  obtain ⟨pa, pb, h1⟩ := h1
  obtain ⟨_, pc, h2⟩ := h2
  refine ⟨pa, pc, ?_⟩
  rcases h1 with h1 | h1
  · exact .inl h1
  · rcases h2 with rfl | h2
    · rcases place_iff.1 pa with e | g
      · exact .inl e
      · exact (not_pre_nil g h1).elim
    · exact .inr (h1.trans h2)
theorem covers_anti {a b : Bs} (h1 : coversB a b = true) (h2 : coversB b a = true) : a = b := by
  rw [covers_iff] at *
  obtain ⟨pa, pb, h1⟩ := h1
  obtain ⟨_, _, h2⟩ := h2
  rcases h1 with rfl | h1
  · rcases h2 with rfl | h2
    · rfl
    · rcases place_iff.1 pb with e | g
      · exact e.symm
      · exact (not_pre_nil g h2).elim
  · rcases h2 with rfl | h2
    · rcases place_iff.1 pa with e | g
      · exact e
      · exact (not_pre_nil g h1).elim
    · exact cut_inj (h1.eq_of_length_le (h2.length_le))
/-- Where two meet. -/
def meetB (a b : Bs) : Bs × Bool := if coversB a b then (b, true) else if coversB b a then (a, true) else ([], false)
theorem meet_comm (a b : Bs) : meetB a b = meetB b a := by
  unfold meetB
  by_cases h1 : coversB a b = true <;> by_cases h2 : coversB b a = true <;> simp [h1, h2]
  exact (covers_anti h1 h2).symm
theorem covers_place {a b : Bs} (h : coversB a b = true) : placeB a = true ∧ placeB b = true := ⟨(covers_iff.1 h).1, (covers_iff.1 h).2.1⟩
theorem meet_covered {a b : Bs} (h : (meetB a b).2 = true) : coversB a (meetB a b).1 = true ∧ coversB b (meetB a b).1 = true := by
  unfold meetB at *
  by_cases h1 : coversB a b = true
  · rw [if_pos h1]; exact ⟨h1, by rw [covers_self]; exact (covers_place h1).2⟩
  · by_cases h2 : coversB b a = true
    · rw [if_neg h1, if_pos h2]; exact ⟨by rw [covers_self]; exact (covers_place h2).2, h2⟩
    · rw [if_neg h1, if_neg h2] at h; cases h
/-- Two that cover one: one of them covers the other. -/
theorem both_cover {a b c : Bs} (h1 : coversB a c = true) (h2 : coversB b c = true) : coversB a b = true ∨ coversB b a = true := by
  have k1 := covers_iff.1 h1
  have k2 := covers_iff.1 h2
  rcases k1.2.2 with rfl | q1
  · left; rw [covers_nil]; exact k2.1
  · rcases k2.2.2 with rfl | q2
    · right; rw [covers_nil]; exact k1.1
    · rcases Nat.le_total (cut a).length (cut b).length with hl | hl
      · exact .inl (covers_iff.2 ⟨k1.1, k2.1, .inr (List.prefix_of_prefix_length_le q1 q2 hl)⟩)
      · exact .inr (covers_iff.2 ⟨k2.1, k1.1, .inr (List.prefix_of_prefix_length_le q2 q1 hl)⟩)
theorem meet_most {a b c : Bs} (h1 : coversB a c = true) (h2 : coversB b c = true) : (meetB a b).2 = true ∧ coversB (meetB a b).1 c = true := by
  unfold meetB
  by_cases k1 : coversB a b = true
  · rw [if_pos k1]; exact ⟨rfl, h2⟩
  · rcases both_cover h1 h2 with h | h
    · exact (k1 h).elim
    · rw [if_neg k1, if_pos h]; exact ⟨rfl, h1⟩

/-- Where a path goes, and 0; or why it can't: 1 or 2. -/
def movedB (p a t : Bs) : Bs × Int :=
  if goodB p && goodB a && goodB t && coversB a p then
    if goodB (t ++ p.drop a.length) then (t ++ p.drop a.length, 0) else ([], 2)
  else ([], 1)

/-- What is behind a path that covers another one. -/
theorem covers_rest {a p : Bs} (ha : a ≠ []) (h : coversB a p = true) : ∃ r, cut p = cut a ++ r ∧ ∀ t : Bs, cut (t ++ p.drop a.length) = cut t ++ r ∧ glue (cut t ++ r) = t ++ p.drop a.length := by
  obtain ⟨pa, pp, h⟩ := covers_iff.1 h
  rcases h with h | h
  · exact (ha h).elim
  · rcases (pre_iff a p).2 h with rfl | ⟨r, e⟩
    · exact ⟨[], by simp, fun t => by simp [glue_cut]⟩
    · have e2 : p = a ++ 47 :: r := by rw [← e, List.append_assoc]; rfl
      have e3 : p.drop a.length = 47 :: r := by rw [e2]; simp
      refine ⟨cut r, by rw [e2, cut_append], fun t => ?_⟩
      rw [e3, cut_append, glue_append _ _ (cut_ne t) (cut_ne r), glue_cut, glue_cut]
      exact ⟨rfl, rfl⟩
theorem good_moved {p a t : Bs} (hp : goodB p = true) (ha : goodB a = true) (ht : goodB t = true) (h : coversB a p = true) : goodB (t ++ p.drop a.length) = decide ((t ++ p.drop a.length).length ≤ 32) := by
  obtain ⟨r, e1, e2⟩ := covers_rest (good_ne ha) h
  rw [Bool.eq_iff_iff, good_iff, (e2 t).1]
  simp only [decide_eq_true_eq]
  refine ⟨fun h => h.1, fun h => ⟨h, fun q hq => ?_⟩⟩
  rcases List.mem_append.1 hq with hq | hq
  · exact (good_iff.1 ht).2 q hq
  · exact (good_iff.1 hp).2 q (by rw [e1]; exact List.mem_append_right _ hq)
theorem moved_zero {p a t q : Bs} {e : Int} (h : movedB p a t = (q, e)) : e = 0 ↔ (goodB p = true ∧ goodB a = true ∧ goodB t = true ∧ coversB a p = true ∧ goodB q = true ∧ q = t ++ p.drop a.length) := by
  unfold movedB at h
  split at h
  · rename_i h1
    simp only [Bool.and_eq_true] at h1
    obtain ⟨⟨⟨h1, h2⟩, h3⟩, h4⟩ := h1
    split at h
    · rename_i h5
      cases h
      simp [h1, h2, h3, h4, h5]
    · rename_i h5
      cases h
      simp [good_nil]
  · rename_i h1
    cases h
    simp [good_nil]
theorem moved_back {p a t q : Bs} (h : movedB p a t = (q, 0)) : movedB q t a = (p, 0) ∧ coversB t q = true ∧ goodB q = true ∧ (cut q).length + (cut a).length = (cut p).length + (cut t).length := by
  obtain ⟨hp, ha, ht, hc, hq, rfl⟩ := (moved_zero h).1 rfl
  obtain ⟨r, e1, e2⟩ := covers_rest (good_ne ha) hc
  have e3 := (e2 t).1
  have hcov : coversB t (t ++ p.drop a.length) = true := covers_iff.2 ⟨place_iff.2 (.inr ht), place_iff.2 (.inr hq), .inr (by rw [e3]; exact List.prefix_append _ _)⟩
  have hp2 : a ++ (t ++ p.drop a.length).drop t.length = p := by
    rw [List.drop_append_of_le_length (Nat.le_refl _), List.drop_length, List.nil_append, ← (e2 a).2, ← e1, glue_cut]
  refine ⟨?_, hcov, hq, ?_⟩
  · unfold movedB
    rw [hp2]
    simp [hp, ha, ht, hq, hcov]
  · rw [e1, e3, List.length_append, List.length_append]; omega

theorem name_no {p : Bs} (h : nameB p = true) : (47 : UInt8) ∉ p := by
  intro hm
  unfold nameB at h
  simp only [Bool.and_eq_true, List.all_eq_true] at h
  have := h.2 47 hm
  revert this
  decide
theorem glue_len : ∀ (ps : List Bs), (∀ p ∈ ps, nameB p = true) → ps.length * 2 ≤ (glue ps).length + 1
  | [], _ => by simp
  | [a], h => by have := (name_len (h a (by simp))).1; simp [glue]; omega
  | a :: b :: r, h => by
    have h1 := (name_len (h a (by simp))).1
    have h2 := glue_len (b :: r) (fun p hp => h p (by simp [hp]))
    rw [glue_cons _ _ (by simp), List.length_append]
    simp only [List.length_cons] at h2 ⊢
    omega
theorem good_glue {ps : List Bs} (hne : ps ≠ []) (h : ∀ p ∈ ps, nameB p = true) : goodB (glue ps) = decide ((glue ps).length ≤ 32) := by
  rw [Bool.eq_iff_iff, good_iff, cut_glue ps hne (fun p hp => name_no (h p hp))]
  simp only [decide_eq_true_eq]
  exact ⟨fun x => x.1, fun x => ⟨x, h⟩⟩
/-- The path of some names. -/
def joinB (l : List Bs) : Bs × Int := if l = [] then ([], 1) else if l.all nameB then (if (glue l).length ≤ 32 then (glue l, 0) else ([], 2)) else ([], 1)
theorem join_parts (p : Bs) : joinB (partsB p) = if goodB p then (p, 0) else ([], 1) := by
  unfold partsB
  by_cases h : goodB p = true
  · rw [if_pos h, if_pos h]
    unfold joinB
    rw [if_neg (cut_ne p), if_pos (by simpa using (good_iff.1 h).2), glue_cut, if_pos (good_iff.1 h).1]
  · rw [if_neg h, if_neg h]; rfl
theorem join_many {l : List Bs} (h : l.all nameB = true) (hl : 32 < l.length) : ¬ (glue l).length ≤ 32 := by
  have := glue_len l (by simpa using h)
  omega

/-- The places above a path, one after the other. -/
theorem glue_take_len (ps : List Bs) (k : Nat) : (glue (ps.take k)).length ≤ (glue ps).length := by
  induction ps generalizing k with
  | nil => simp
  | cons a r ih =>
    cases k with
    | zero => simp [glue]
    | succ k =>
      rw [List.take_succ_cons]
      by_cases hr : r = []
      · subst hr; simp
      · rw [glue_cons a r hr]
        by_cases hk : r.take k = []
        · rw [hk]; simp [glue]
        · rw [glue_cons _ _ hk]
          have := ih k
          simp only [List.length_append, List.length_cons]; omega
/-- The k-th of them: of the first names, all but k. -/
def upB (p : Bs) (k : Nat) : Bs := glue ((cut p).take ((cut p).length - k))
theorem up_zero (p : Bs) : upB p 0 = p := by unfold upB; rw [Nat.sub_zero, List.take_length, glue_cut]
theorem up_good {p : Bs} (h : goodB p = true) {k : Nat} (hk : k < (cut p).length) : goodB (upB p k) = true ∧ cut (upB p k) = (cut p).take ((cut p).length - k) := by
  have hg := good_iff.1 h
  have hne : (cut p).take ((cut p).length - k) ≠ [] := by
    intro e
    have := congrArg List.length e
    simp at this
    omega
  have hn : ∀ q ∈ (cut p).take ((cut p).length - k), nameB q = true := fun q hq => hg.2 q (List.mem_of_mem_take hq)
  constructor
  · unfold upB
    rw [good_glue hne hn]
    simp only [decide_eq_true_eq]
    have := glue_take_len (cut p) ((cut p).length - k)
    rw [glue_cut] at this
    omega
  · unfold upB
    exact cut_glue _ hne (fun q hq => name_no (hn q hq))
theorem up_end (p : Bs) : upB p (cut p).length = [] := by unfold upB; simp [glue]
theorem up_next {p : Bs} (h : goodB p = true) {k : Nat} (hk : k < (cut p).length) : aboveB (upB p k) = upB p (k + 1) := by
  obtain ⟨h1, h2⟩ := up_good h hk
  unfold aboveB
  rw [if_pos h1, h2]
  unfold upB
  congr 1
  rw [List.dropLast_eq_take, List.take_take, List.length_take]
  congr 1
  omega
theorem up_covers {p : Bs} (h : goodB p = true) {k : Nat} (hk : k ≤ (cut p).length) : coversB (upB p k) p = true := by
  by_cases he : k = (cut p).length
  · subst he; rw [up_end, covers_nil]; exact place_iff.2 (.inr h)
  · obtain ⟨h1, h2⟩ := up_good h (show k < _ by omega)
    exact covers_iff.2 ⟨place_iff.2 (.inr h1), place_iff.2 (.inr h), .inr (by rw [h2]; exact List.take_prefix _ _)⟩
theorem up_ne {p : Bs} (h : goodB p = true) {k : Nat} (hk : k < (cut p).length) : upB p k ≠ [] := good_ne (up_good h hk).1
theorem good_few {p : Bs} (h : goodB p = true) : (cut p).length ≤ 16 := by
  have := glue_len (cut p) (good_iff.1 h).2
  rw [glue_cut] at this
  have := (good_iff.1 h).1
  omega
/-- What is above a path, by its last stroke. -/
theorem above_last {a b : Bs} (hb : (47 : UInt8) ∉ b) : glue (cut (a ++ 47 :: b)).dropLast = a := by
  rw [cut_append, cut_plain b hb, List.dropLast_concat, glue_cut]
theorem above_none {a : Bs} (ha : (47 : UInt8) ∉ a) : glue (cut a).dropLast = [] := by rw [cut_plain a ha]; rfl
end Go.Proofs.YtmagidkgajmhoaaDoor
