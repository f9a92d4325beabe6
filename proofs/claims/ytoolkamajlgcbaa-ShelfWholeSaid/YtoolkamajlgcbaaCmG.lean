/- CmG: what Put and Drop keep of the leaves' pages; what a Commit makes of a store at rest. -/
import Derived.Test.YtoolkamajlgcbaaCmF
set_option linter.unusedVariables false
set_option linter.unusedSimpArgs false
namespace Go.Proofs.Ytoolkamajlgcbaa
open Go.RowKit

def idsL (sh : List (Nat × PL)) : List Nat := sh.map (·.1)
theorem ids_sub {P : Nat} {sh sh' : List (Nat × PL)} (h : IdsOK P sh) (hs : (idsL sh').Sublist (idsL sh)) : IdsOK P sh' :=
  ⟨List.Nodup.sublist hs h.1, fun i hi => h.2 i (hs.subset hi)⟩
theorem gd_id (sh : List (Nat × PL)) (i : Nat) (h : i < sh.length) : (sh.getD i (0, [])).1 = (idsL sh)[i]'(by unfold idsL; rw [List.length_map]; exact h) := by
  rw [List.getD_eq_getElem?_getD, List.getElem?_eq_getElem h]
  simp [idsL]
theorem ids_merge {sh : List (Nat × PL)} {k : Nat} (h : k + 1 < sh.length) : (idsL (mergeP sh k)).Sublist (idsL sh) := by
  have hl : (idsL sh).length = sh.length := List.length_map ..
  have e : idsL (mergeP sh k) = (idsL sh).take k ++ ([(idsL sh)[k]'(by omega)] ++ (idsL sh).drop (k + 2)) := by
    unfold mergeP
    rw [gd_id sh k (by omega)]
    simp [idsL, List.map_take, List.map_drop]
  rw [e]
  conv => rhs; rw [← List.take_append_drop k (idsL sh)]
  refine List.Sublist.append_left ?_ _
  rw [List.drop_eq_getElem_cons (l := idsL sh) (i := k) (by omega)]
  refine List.Sublist.cons_cons _ ?_
  rw [List.drop_eq_getElem_cons (l := idsL sh) (i := k + 1) (by omega)]
  exact List.sublist_cons_self _ _
theorem ids_t1 (sh : List (Nat × PL)) (kk : Int) : (idsL (t1 sh kk)).Sublist (idsL sh) := by
  by_cases h : Fits sh kk
  · obtain ⟨k, rfl, hk, hf⟩ := id h
    rw [t1_on h]
    exact ids_merge hk
  · rw [t1_off h]; exact List.Sublist.refl _
theorem ids_steps (sh : List (Nat × PL)) (i : Int) : ∀ n, (idsL (stepsT sh i n)).Sublist (idsL sh)
  | 0 => List.Sublist.refl _
  | n + 1 => (ids_t1 _ _).trans (ids_steps sh i n)
theorem ids_setL (sh : List (Nat × PL)) (i : Nat) (l : PL) : idsL (setL sh i l) = idsL sh := by
  by_cases h : i < sh.length
  · unfold setL
    rw [gd_id sh i h]
    unfold idsL
    rw [List.map_set]
    have e3 : (sh.map (·.1)).set i ((sh.map (·.1))[i]'(by simpa using h)) = sh.map (·.1) := List.set_getElem_self _
    simpa using e3
  · unfold setL
    rw [List.set_eq_of_length_le (by omega)]
theorem spare_new {sh : List (Nat × PL)} {P : Nat} (h : spareA sh P ≠ 0) : spareA sh P ∉ idsL sh := fun hm => by
  unfold spareA at h hm
  cases hf : (List.range P).find? (fun i => !usedA sh sh.length i) with
  | none => rw [hf] at h; exact h rfl
  | some k =>
    rw [hf] at hm
    have hm : k ∈ idsL sh := hm
    have := (List.find?_range_eq_some.1 hf).1
    unfold usedA at this
    rw [List.take_length] at this
    have hc : (sh.map (·.1)).contains k = true := List.contains_iff_mem.2 hm
    rw [hc] at this
    simp at this
theorem ids_split {P : Nat} {sh : List (Nat × PL)} {i : Nat} {l : PL} {id : Nat} (h : IdsOK P sh) (hi : i < sh.length) (h0 : id ≠ 0) (hP : id < P) (hn : id ∉ idsL sh) : IdsOK P (splitL sh i l id) := by
  have hl : (idsL sh).length = sh.length := List.length_map ..
  have e : idsL (splitL sh i l id) = (idsL sh).take i ++ ((idsL sh)[i]'(by omega) :: id :: (idsL sh).drop (i + 1)) := by
    unfold splitL
    rw [gd_id sh i hi]
    simp [idsL, List.map_take, List.map_drop]
  have e2 : idsL sh = (idsL sh).take i ++ ((idsL sh)[i]'(by omega) :: (idsL sh).drop (i + 1)) := by
    rw [List.getElem_cons_drop, List.take_append_drop]
  have hp : (idsL (splitL sh i l id)).Perm (id :: idsL sh) := by
    have h1 := List.perm_middle (a := id) (l₁ := (idsL sh).take i ++ [(idsL sh)[i]'(by omega)]) (l₂ := (idsL sh).drop (i + 1))
    rw [List.append_assoc, List.append_assoc] at h1
    rw [e]
    exact h1.trans (List.Perm.cons _ (List.Perm.of_eq e2.symm))
  refine ⟨hp.nodup_iff.2 (List.nodup_cons.2 ⟨hn, h.1⟩), fun j hj => ?_⟩
  rcases List.mem_cons.1 (hp.mem_iff.1 hj) with rfl | hj
  · exact ⟨by omega, hP⟩
  · exact h.2 j hj
theorem ids_put {P : Nat} {sh : List (Nat × PL)} {a x : ByteArray} (hP : 2 ≤ P) (h : IdsOK P sh) : IdsOK P (putA sh P a x).2 := by
  unfold putA
  by_cases hsh : sh = []
  · rw [if_pos hsh]
    exact ⟨by simp, fun i hi => by
      have : i = 1 := by simpa using hi
      omega⟩
  rw [if_neg hsh]
  have h0 : 0 < sh.length := by
    rcases Nat.eq_zero_or_pos sh.length with h | h
    · exact absurd (List.eq_nil_of_length_eq_zero h) hsh
    · exact h
  by_cases hz : szL (newL sh a x) ≤ 1020
  · rw [if_pos hz]
    refine ids_sub h ?_
    have := ids_steps (setL sh (fI sh a) (newL sh a x)) (fI sh a : Nat) 2
    rwa [ids_setL] at this
  rw [if_neg hz]
  by_cases hs : spareA sh P = 0
  · rw [if_pos hs]; exact h
  rw [if_neg hs]
  exact ids_sub (ids_split h (fI_lt h0) hs (spareA_lt hP) (spare_new hs)) ((ids_steps _ _ 2).trans (ids_steps _ _ 2))
theorem ids_drop {P : Nat} {sh : List (Nat × PL)} {a : ByteArray} (h : IdsOK P sh) : IdsOK P (dropA sh a).2 := by
  unfold dropA
  by_cases hs : (getK sh a).isSome = true
  · rw [if_pos hs]
    refine ids_sub h ((ids_steps _ _ 2).trans ?_)
    split
    · unfold idsL
      rw [List.map_append, List.map_take, List.map_drop]
      conv => rhs; rw [← List.take_append_drop (fI sh a) (sh.map (·.1))]
      refine List.Sublist.append_left ?_ _
      rw [show fI sh a + 1 = fI sh a + 1 from rfl, ← List.drop_drop]
      exact List.drop_sublist _ _
    · rw [ids_setL]; exact List.Sublist.refl _
  · rw [if_neg hs]; exact h
/-- A shelf that may lie in pages. -/
structure Wf (P : Nat) (sh : List (Nat × PL)) : Prop where
  good : GoodS sh
  ids : IdsOK P sh
  srt : Srt (flatS sh)
theorem wf_nil (P : Nat) : Wf P [] := ⟨(fun x hx => by cases hx), ⟨List.nodup_nil, (fun i hi => by cases hi)⟩, List.Pairwise.nil⟩
theorem Enc.congr {rd rd' : Nat → ByteArray} {P : Nat} {sh : List (Nat × PL)} (h : Enc rd sh) (hP : 1 ≤ P) (hi : IdsOK P sh) (he : ∀ i, i < P → rd i = rd' i) : Enc rd' sh := by
  have key : ∀ (sh : List (Nat × PL)), (∀ i ∈ idsL sh, i < P) → EncL rd sh → EncL rd' sh := by
    intro sh
    induction sh with
    | nil => intro _ _; trivial
    | cons x r ih =>
      intro hi h
      exact ⟨by rw [← he x.1 (hi x.1 (List.mem_cons_self ..))]; exact h.1, ih (fun i hi' => hi i (List.mem_cons_of_mem _ hi')) h.2⟩
  exact ⟨by rw [← he 0 (by omega)]; exact h.1, key sh (fun i hi' => (hi.2 i hi').2) h.2⟩
theorem pgS_sec {d : Dk} {P i : Nat} (h : i < P) : pgS d P i = sec (pgK' d P) i := by
  rw [pgK'_sec h]
  unfold pgS
  congr 1
theorem chS_congr {pg pg' : Nat → ByteArray} {P : Nat} {sh : List (Nat × PL)} (hP : 1 ≤ P) (hi : IdsOK P sh) (he : ∀ i, i < P → pg i = pg' i) : chS pg (wrs sh) = chS pg' (wrs sh) := by
  unfold chS
  congr 1
  refine List.filter_congr (fun c hc => ?_)
  have := List.mem_map_of_mem (f := (·.1)) hc
  rw [wrs_ids] at this
  rw [he c.1 (by
    rcases List.mem_cons.1 this with h | h
    · omega
    · exact (hi.2 _ h).2)]
theorem val_inj {P : Nat} {X Y : Nat → Nat → ByteArray} {l : List ByteArray} (h1 : VIs P X l) (h2 : VIs P Y l) {i j : Nat} (hi : i < P) (hj : j < 4) : X i j = Y i j := (h1 i j hi hj).symm.trans (h2 i j hi hj)
/-- A commit on a store at rest: the pages. -/
theorem rest_commit {P : Nat} (hP : P ≤ 128) {d : Dk} (h : Rest P d) {ch : List (Int × ByteArray)} (hw : whyE P ch = 0) {x : Int} {d' : Dk} (hc : CoTo P d ch x d') : x = 0 ∧ Rest P d' ∧ pgK' d' P = setK (pgK' d P) ch := by
  obtain ⟨hr, _⟩ := rest_coto h hc
  have hx : x = 0 := by
    rcases coto_calm hc h.calm (by rw [h.len]; exact Nat.le_refl _) with ⟨h1, _⟩ | ⟨_, h, _⟩ | ⟨_, h, _⟩
    · exact absurd hw h1
    · exact h
    · exact h
  subst hx
  refine ⟨rfl, hr, ?_⟩
  have hf : d.setFuse 0 = d := by
    unfold Dk.setFuse
    split
    · have := h.calm.fuse
      cases d
      simp only at this
      simp [this]
    · rfl
  have hb := commit_back hP h (cut := 0) (by decide) hw (by rw [hf]; exact hc) []
  rcases hb with hb | ⟨hb, _⟩
  · have hv := hb.val
    rw [(rest_again hr []).2.2] at hv
    have hv2 := rest_val hr
    refine List.ext_getElem (by rw [pgK'_len, setK_len, pgK'_len]) (fun i h1 h2 => ?_)
    have hi : i < P := by rw [pgK'_len] at h1; exact h1
    have s1 := pgK'_size hr _ (List.getElem_mem h1)
    have s2 := setK_size hw _ (pgK'_size h) _ (List.getElem_mem h2)
    refine cut4_inj s1 s2 (fun j hj => ?_)
    have e := val_inj hv2 hv hi hj
    unfold qrt at e
    unfold sec at e
    rw [List.getD_eq_getElem?_getD, List.getElem?_eq_getElem h1, List.getD_eq_getElem?_getD, List.getElem?_eq_getElem h2] at e
    exact e
  · exact absurd rfl hb
/-- A store at rest that has a shelf. -/
structure Kept (P : Nat) (d : Dk) (sh : List (Nat × PL)) : Prop where
  rest : Rest P d
  wf : Wf P sh
  enc : Enc (pgS d P) sh
theorem Kept.load {P : Nat} {d : Dk} {sh : List (Nat × PL)} (h : Kept P d sh) (hP1 : 2 ≤ P) (hP : P ≤ 128) : loadA d P = (0, sh) := loadA_back hP1 (by omega) h.enc h.wf.good h.wf.ids h.wf.srt
theorem kept_new {P : Nat} (hP1 : 2 ≤ P) (hP : P ≤ 128) : Kept P (Dk.new (8 * P + 1)) [] := by
  refine ⟨rest_new hP, wf_nil P, ?_, trivial⟩
  unfold pgS
  have := page_new (n := 8 * P + 1) (p := 1 + 4 * (P + 0)) (by omega)
  rw [show (1 + 4 * ((P : Int) + (0 : Nat))) = ((1 + 4 * (P + 0) : Nat) : Int) by omega, this]
  exact ba_eq (by rw [pgB_list]; rfl)
/-- Commit keeps the shelf as it is. -/
theorem kept_commit {P : Nat} (hP1 : 2 ≤ P) (hP : P ≤ 128) {d : Dk} (h : Rest P d) {sh : List (Nat × PL)} (hw : Wf P sh) {x : Int} {d' : Dk} (hc : CoTo P d (chS (pgS d P) (wrs sh)) x d') : x = 0 ∧ Kept P d' sh := by
  have hy := chS_why (pg := pgS d P) (by omega) hw.good hw.ids
  obtain ⟨h1, h2, h3⟩ := rest_commit hP h hy hc
  refine ⟨h1, h2, hw, ?_⟩
  have ec := chS_congr (pg := pgS d P) (pg' := sec (pgK' d P)) (by omega : 1 ≤ P) hw.ids (fun i hi => pgS_sec hi)
  rw [ec] at hy h3
  have := commit_enc (pgK'_len d P) hw.ids (by omega) hy
  rw [← h3] at this
  exact this.congr (by omega) hw.ids (fun i hi => (pgS_sec hi).symm)
end Go.Proofs.Ytoolkamajlgcbaa
