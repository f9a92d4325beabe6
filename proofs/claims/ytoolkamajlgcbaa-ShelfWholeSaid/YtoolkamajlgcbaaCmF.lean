/- CmF: a shelf that was written is read back; which pages a Commit leaves; what Put and Drop keep of the leaves' pages. -/
import Derived.Test.YtoolkamajlgcbaaCmE
set_option linter.unusedVariables false
set_option linter.unusedSimpArgs false
namespace Go.Proofs.Ytoolkamajlgcbaa
open Go.RowKit

def nextI : List (Nat × PL) → Nat
  | [] => 0
  | x :: _ => x.1
/-- The leaves that lie in pages. -/
def EncL (rd : Nat → ByteArray) : List (Nat × PL) → Prop
  | [] => True
  | x :: r => rd x.1 = pgB (nextI r) x.2 ∧ EncL rd r
def Enc (rd : Nat → ByteArray) (sh : List (Nat × PL)) : Prop := rd 0 = pgB (nextI sh) [] ∧ EncL rd sh
/-- A shelf's pages: each once, from 1 on. -/
def IdsOK (P : Nat) (sh : List (Nat × PL)) : Prop := (sh.map (·.1)).Nodup ∧ ∀ i ∈ sh.map (·.1), 1 ≤ i ∧ i < P
theorem ordF_srt : ∀ (l : PL) (last : ByteArray), Srt l → (∀ p ∈ l, ltB last p.1 = true) → ∃ k, ordF last l = some k ∧ (k = last ∨ ∃ p ∈ l, k = p.1)
  | [], last, _, _ => ⟨last, rfl, .inl rfl⟩
  | p :: l, last, h, hl => by
    obtain ⟨h1, h2⟩ := List.pairwise_cons.1 h
    rw [ordF, if_pos (hl p (List.mem_cons_self ..))]
    obtain ⟨k, e, hk⟩ := ordF_srt l p.1 h2 (fun q hq => h1 q hq)
    refine ⟨k, e, .inr ?_⟩
    rcases hk with rfl | ⟨q, hq, rfl⟩
    · exact ⟨p, List.mem_cons_self .., rfl⟩
    · exact ⟨q, List.mem_cons_of_mem _ hq, rfl⟩
theorem loadF_back {rd : Nat → ByteArray} {P : Nat} (hP : P ≤ 1000) : ∀ (r acc : List (Nat × PL)) (f : Nat) (last : ByteArray), EncL rd r → GoodS (acc ++ r) → IdsOK P (acc ++ r) → Srt (flatS r) → (∀ p ∈ flatS r, ltB last p.1 = true) → r.length + 1 ≤ f → loadF rd P f (nextI r) last acc = (0, acc ++ r)
  | [], acc, 0, _, _, _, _, _, _, h => by simp at h
  | [], acc, f + 1, last, _, _, _, _, _, _ => by rw [loadF, if_pos (show nextI [] = 0 from rfl), List.append_nil]
  | x :: r, acc, 0, _, _, _, _, _, _, h => by simp at h
  | x :: r, acc, f + 1, last, he, hg, hi, hs, hl, hf => by
    obtain ⟨e1, e2⟩ := he
    obtain ⟨id, l⟩ := x
    have hx : LfOK (id, l) := hg (id, l) (by simp)
    have hxi := hi.2 id (by simp)
    have hne : id ≠ 0 := by omega
    have hused : usedA acc acc.length id = false := by
      unfold usedA
      rw [List.take_length, Bool.or_eq_false_iff]
      refine ⟨by simp [hne], ?_⟩
      cases hc : (acc.map (·.1)).contains id with
      | false => rfl
      | true =>
        have hm := List.contains_iff_mem.1 hc
        have := hi.1
        rw [List.map_append, List.nodup_append] at this
        exact absurd rfl (this.2.2 id hm id (by simp))
    have e1 : rd id = pgB (nextI r) l := e1
    have hn : nextI r < 65536 := by
      cases r with
      | nil => show 0 < 65536; omega
      | cons y r => have := hi.2 y.1 (by simp); show y.1 < 65536; omega
    have hent : entA (rd id) = some l := by rw [e1]; exact entA_back hx.2.2.1 hx.1
    have hnil : l ≠ [] := fun e => by
      have := hx.2.1
      rw [e] at this
      simp at this
    have fs : flatS ((id, l) :: r) = l ++ flatS r := rfl
    rw [fs] at hs hl
    obtain ⟨s1, s2, s3⟩ := List.pairwise_append.1 hs
    obtain ⟨k, ek, hk⟩ := ordF_srt l last s1 (fun p hp => hl p (List.mem_append_left _ hp))
    have kl : ∀ p ∈ flatS r, ltB k p.1 = true := fun p hp => by
      rcases hk with rfl | ⟨q, hq, rfl⟩
      · exact hl p (List.mem_append_right _ hp)
      · exact s3 q hq p hp
    show loadF rd P (f + 1) id last acc = _
    rw [loadF, if_neg hne, if_neg (by omega), if_neg (by rw [hused]; decide), hent]
    show (if l = [] then (4, acc) else match ordF last l with | none => (4, acc) | some k => loadF rd P f (twoN (rd id) 0) k (acc ++ [(id, l)])) = _
    rw [if_neg hnil, ek]
    show loadF rd P f (twoN (rd id) 0) k (acc ++ [(id, l)]) = _
    rw [e1, two_next hn]
    have ea : acc ++ (id, l) :: r = acc ++ [(id, l)] ++ r := by simp
    rw [ea] at hg hi ⊢
    exact loadF_back hP r (acc ++ [(id, l)]) f k e2 hg hi s2 kl (by simp only [List.length_cons] at hf; omega)
theorem ids_len {P : Nat} {sh : List (Nat × PL)} (h : IdsOK P sh) (hP : 1 ≤ P) : sh.length + 1 ≤ P := by
  have := few_ids (P - 1) (sh.map (·.1)) h.1 (fun x hx => by have := h.2 x hx; omega)
  rw [List.length_map] at this
  omega
theorem ltB_empty {a : ByteArray} (h : 1 ≤ a.size) : ltB ByteArray.empty a = true := by
  unfold ltB
  rw [ByteArray.toList_eq, ByteArray.toList_eq]
  have h2 : a.data.toList.length = a.size := Array.length_toList
  cases hl : a.data.toList with
  | nil => rw [hl] at h2; simp at h2; omega
  | cons x r => simp [Op.bytesLess]
/-- What was written is read back. -/
theorem loadA_back {d : Dk} {P : Nat} {sh : List (Nat × PL)} (hP1 : 2 ≤ P) (hP : P ≤ 1000) (he : Enc (pgS d P) sh) (hg : GoodS sh) (hi : IdsOK P sh) (hs : Srt (flatS sh)) : loadA d P = (0, sh) := by
  obtain ⟨e0, e1⟩ := he
  have hn : nextI sh < 65536 := by
    cases sh with
    | nil => show 0 < 65536; omega
    | cons y r => have := hi.2 y.1 (by simp); show y.1 < 65536; omega
  unfold loadA
  rw [e0, two_next hn]
  have := loadF_back hP sh [] P ByteArray.empty e1 hg hi hs (fun p hp => by
    obtain ⟨x, hx, hp⟩ := List.mem_flatMap.1 hp
    exact ltB_empty ((hg x hx).2.2.1 p hp).1) (ids_len hi (by omega))
  rw [this, List.nil_append]
/-- wrs, leaf by leaf. -/
def wrs2 (p : Nat × PL) : List (Nat × PL) → List (Nat × ByteArray)
  | [] => [(p.1, pgB 0 p.2)]
  | x :: r => (p.1, pgB x.1 p.2) :: wrs2 x r
theorem wrs_two (sh : List (Nat × PL)) : wrs sh = wrs2 (0, []) sh := by
  have key : ∀ (sh : List (Nat × PL)) (p : Nat × PL), List.zipWith (fun p n => (p.1, pgB n.1 p.2)) (p :: sh) (sh ++ [(0, [])]) = wrs2 p sh := by
    intro sh
    induction sh with
    | nil => intro p; rfl
    | cons x r ih => intro p; rw [List.cons_append, List.zipWith_cons_cons, ih x]; rfl
  exact key sh (0, [])
theorem wrs2_ids : ∀ (sh : List (Nat × PL)) (p : Nat × PL), (wrs2 p sh).map (·.1) = p.1 :: sh.map (·.1)
  | [], p => rfl
  | x :: r, p => by rw [wrs2, List.map_cons, wrs2_ids r x]; rfl
theorem wrs_ids (sh : List (Nat × PL)) : (wrs sh).map (·.1) = 0 :: sh.map (·.1) := by rw [wrs_two, wrs2_ids]
theorem wrs2_size {sh : List (Nat × PL)} : ∀ (p : Nat × PL), szL p.2 ≤ 1020 → (∀ x ∈ sh, szL x.2 ≤ 1020) → ∀ c ∈ wrs2 p sh, c.2.size = 1024 := by
  induction sh with
  | nil => intro p hp _ c hc; rw [wrs2, List.mem_singleton] at hc; rw [hc]; exact pgB_size hp
  | cons x r ih =>
    intro p hp h c hc
    rw [wrs2] at hc
    rcases List.mem_cons.1 hc with rfl | hc
    · exact pgB_size hp
    · exact ih x (h x (List.mem_cons_self ..)) (fun y hy => h y (List.mem_cons_of_mem _ hy)) c hc
theorem enc_wrs {rd : Nat → ByteArray} {sh : List (Nat × PL)} (h : ∀ c ∈ wrs sh, rd c.1 = c.2) : Enc rd sh := by
  rw [wrs_two] at h
  have key : ∀ (sh : List (Nat × PL)) (p : Nat × PL), (∀ c ∈ wrs2 p sh, rd c.1 = c.2) → rd p.1 = pgB (nextI sh) p.2 ∧ EncL rd sh := by
    intro sh
    induction sh with
    | nil => intro p h; exact ⟨h (p.1, pgB 0 p.2) (by rw [wrs2]; exact List.mem_singleton.2 rfl), trivial⟩
    | cons x r ih =>
      intro p h
      rw [wrs2] at h
      have := ih x (fun c hc => h c (List.mem_cons_of_mem _ hc))
      exact ⟨h (p.1, pgB x.1 p.2) (List.mem_cons_self ..), this.1, this.2⟩
  exact key sh (0, []) h
theorem ids0 {P : Nat} {sh : List (Nat × PL)} (h : IdsOK P sh) : ((wrs sh).map (·.1)).Nodup := by
  rw [wrs_ids, List.nodup_cons]
  exact ⟨fun hm => by have := h.2 0 hm; omega, h.1⟩
theorem pair_no_dup {l : List (Int × ByteArray)} (h : l.Pairwise (fun a b => a.1 ≠ b.1)) : dupK l l.length = false := by
  have key : ∀ k, k ≤ l.length → dupK l k = false := by
    intro k
    induction k with
    | zero => intro _; rfl
    | succ k ih => intro hk; exact dup_no (by omega) (ih (by omega)) (fun j hj => List.pairwise_iff_getElem.1 h j k (by omega) (by omega) hj)
  exact key _ (Nat.le_refl _)
/-- The changes of a Commit may be. -/
theorem chS_why {P : Nat} (hP : 1 ≤ P) {pg : Nat → ByteArray} {sh : List (Nat × PL)} (hg : GoodS sh) (hi : IdsOK P sh) : whyE P (chS pg (wrs sh)) = 0 := by
  have hids : ∀ c ∈ wrs sh, c.1 < P := fun c hc => by
    have := List.mem_map_of_mem (f := (·.1)) hc
    rw [wrs_ids] at this
    rcases List.mem_cons.1 this with h | h
    · omega
    · exact (hi.2 _ h).2
  have hsz : ∀ c ∈ wrs sh, c.2.size = 1024 := by
    rw [wrs_two]
    exact wrs2_size (0, []) (by show szL [] ≤ 1020; decide) (fun x hx => (hg x hx).1)
  have h1 : outK P (chS pg (wrs sh)) = false := out_no (fun j hj => by
    obtain ⟨c, hc, e⟩ := chS_mem (List.getElem_mem hj)
    rw [e]
    have := hids c hc
    simp only
    omega)
  have h3 : longK (chS pg (wrs sh)) = false := long_no (fun j hj => by
    obtain ⟨c, hc, e⟩ := chS_mem (List.getElem_mem hj)
    rw [e]
    exact hsz c hc)
  have h2 : dupK (chS pg (wrs sh)) (chS pg (wrs sh)).length = false := pair_no_dup (by
    have := ids0 hi
    rw [List.nodup_iff_pairwise_ne, List.pairwise_map] at this
    unfold chS
    rw [List.pairwise_map]
    refine (List.Pairwise.filter _ this).imp (fun h e => h ?_)
    simp only at e
    omega)
  unfold whyE
  rw [h1, h2, h3]
  rfl
/-- The pages that a Commit leaves. -/
theorem commit_enc {P : Nat} {wl : List ByteArray} (hl : wl.length = P) {sh : List (Nat × PL)} (hi : IdsOK P sh) (hP : 1 ≤ P) (hw : whyE P (chS (sec wl) (wrs sh)) = 0) : Enc (sec (setK wl (chS (sec wl) (wrs sh)))) sh := by
  have hids : ∀ c ∈ wrs sh, c.1 < P := fun c hc => by
    have := List.mem_map_of_mem (f := (·.1)) hc
    rw [wrs_ids] at this
    rcases List.mem_cons.1 this with h | h
    · omega
    · exact (hi.2 _ h).2
  have hnd := ids0 hi
  rw [List.nodup_iff_pairwise_ne, List.pairwise_map] at hnd
  refine enc_wrs (fun c hc => ?_)
  by_cases hs : (c.2.toList == (sec wl c.1).toList) = true
  · rw [setK_old _ _ (fun x hx e => ?_)]
    · have := toListB_inj (by simpa using hs : c.2.toList = (sec wl c.1).toList)
      exact this.symm
    · unfold chS at hx
      obtain ⟨c', hc', rfl⟩ := List.mem_map.1 hx
      obtain ⟨hm, hf⟩ := List.mem_filter.1 hc'
      have e : c'.1 = c.1 := by simpa using e
      have : c' = c := by
        obtain ⟨i, hi, rfl⟩ := List.getElem_of_mem hm
        obtain ⟨j, hj, rfl⟩ := List.getElem_of_mem hc
        rcases Nat.lt_trichotomy i j with h | h | h
        · exact absurd e (List.pairwise_iff_getElem.1 hnd i j hi hj h)
        · subst h; rfl
        · exact absurd e.symm (List.pairwise_iff_getElem.1 hnd j i hj hi h)
      subst this
      rw [hs] at hf
      simp at hf
  · have := setK_new (chS (sec wl) (wrs sh)) wl (pages_pair (why_ok hw).2.1) (fun x hx => by
      obtain ⟨c', hc', rfl⟩ := chS_mem hx
      have := hids c' hc'
      simp only
      omega) ((c.1 : Int), c.2) (by
        unfold chS
        refine List.mem_map.2 ⟨c, List.mem_filter.2 ⟨hc, ?_⟩, rfl⟩
        have hs : (c.2.toList == (sec wl c.1).toList) = false := by simpa using hs
        rw [hs]
        rfl)
    simpa using this
end Go.Proofs.Ytoolkamajlgcbaa
