/- CmL: Get, Range, Len, Size, all, Commit, Abort, Open of a shelf amid a law. -/
import Derived.Test.YtoolkamajlgcbaaCmK
set_option linter.unusedVariables false
set_option linter.unusedSimpArgs false
namespace Go.Proofs.Ytoolkamajlgcbaa
open Go.RowKit

theorem small_good {sh : List (Nat × PL)} (h : GoodS sh) (i : Nat) : Small (lfA sh i) := by
  by_cases hi : i < sh.length
  · exact small_of (h _ (lf_mem hi)).1
  · rw [lfA_out (by omega)]
    exact ⟨by simp, fun p hp => by cases hp⟩
theorem ply_get {w : World} {lo gj g P n gs : Nat} {d : Dk} {sh gd : List (Nat × PL)} (h : Ply w lo gj g P n gs d sh gd) (hP1 : 2 ≤ P) (hP : P ≤ 128) (a : ByteArray) :
    Calls Try.prog 15 #[.pointer (some ⟨gs, 0, none⟩), .string a] w fun e w' => e = .returned (.tuple #[.string ((getK sh a).getD ByteArray.empty), .bool (getK sh a).isSome]) ∧ Below w.heap.size w w' := by
  obtain ⟨q1, q2, q3⟩ := ply_stt h hP1 hP
  exact get_any w gs sh h.read (full_good h.wf.good) (by omega) (fun i => by have := q2 i; omega) a
theorem ply_range {w : World} {lo gj g P n gs : Nat} {d : Dk} {sh gd : List (Nat × PL)} (h : Ply w lo gj g P n gs d sh gd) (hP1 : 2 ≤ P) (hP : P ≤ 128) (frm til : ByteArray) (most : Int) :
    Calls Try.prog 19 #[.pointer (some ⟨gs, 0, none⟩), .string frm, .string til, .int .i64 most] w fun e w' => ∃ v, e = .returned v ∧ OwnP w' w.heap.size v (rngI (flatS sh) frm til most) ∧ Below w.heap.size w w' := by
  obtain ⟨q1, q2, q3⟩ := ply_stt h hP1 hP
  have hr := rngR_eq h.wf.srt (full_good h.wf.good) frm til most
  have hri : rngI (flatS sh) frm til most = rngR sh frm til most := by rw [hr]; rfl
  rw [hri]
  refine range_any w gs sh h.read (full_good h.wf.good) (by omega) (fun i => by have := q2 i; omega) (fun i k => ?_) frm til most
  have fl : ∀ (l : List (Nat × PL)), (∀ y ∈ l, y.2.length ≤ 340) → (l.flatMap (·.2)).length ≤ 340 * l.length := by
    intro l
    induction l with
    | nil => intro _; simp
    | cons y r ih =>
      intro hl
      have h1 := hl y (List.mem_cons_self ..)
      have h2 := ih (fun z hz => hl z (List.mem_cons_of_mem _ hz))
      rw [List.flatMap_cons, List.length_append, List.length_cons]
      omega
  have h1 := fl (sh.drop (i + 1)) (fun y hy => by
    have := (szL_len y.2).1
    have := (h.wf.good y (List.mem_of_mem_drop hy)).1
    omega)
  have h2 := q2 i
  unfold tailS
  rw [List.length_append, List.length_drop]
  rw [List.length_drop] at h1
  omega
theorem ply_len {w : World} {lo gj g P n gs : Nat} {d : Dk} {sh gd : List (Nat × PL)} (h : Ply w lo gj g P n gs d sh gd) (hP1 : 2 ≤ P) (hP : P ≤ 128) :
    Calls Try.prog 25 #[.pointer (some ⟨gs, 0, none⟩)] w fun e w' => e = .returned (.int .i64 ((flatS sh).length : Nat)) ∧ Below w.heap.size w w' := by
  obtain ⟨q1, q2, q3⟩ := ply_stt h hP1 hP
  rw [← lenS_flat]
  exact slen_any w gs sh h.read (by omega) (fun i _ => small_good h.wf.good i) (by rw [lenS_flat]; omega)
theorem szL_flat (sh : List (Nat × PL)) : szL (flatS sh) = (zs sh).sum := by
  induction sh with
  | nil => rfl
  | cons x r ih =>
    show szL (x.2 ++ flatS r) = szL x.2 + (zs r).sum
    rw [szL_app, ih]
theorem ply_size {w : World} {lo gj g P n gs : Nat} {d : Dk} {sh gd : List (Nat × PL)} (h : Ply w lo gj g P n gs d sh gd) (hP1 : 2 ≤ P) (hP : P ≤ 128) :
    Calls Try.prog 16 #[.pointer (some ⟨gs, 0, none⟩)] w fun e w' => e = .returned (.int .i64 (szL (flatS sh) : Nat)) ∧ Below w.heap.size w w' := by
  obtain ⟨q1, q2, q3⟩ := ply_stt h hP1 hP
  have hz := zs_le h.wf.good
  rw [szL_flat, ← zs_sizS]
  exact ssize_any w gs sh h.read (by omega) (fun i _ => small_good h.wf.good i) (by rw [zs_sizS]; omega)
theorem ply_all {w : World} {lo gj g P n gs : Nat} {d : Dk} {sh gd : List (Nat × PL)} (h : Ply w lo gj g P n gs d sh gd) (hP1 : 2 ≤ P) (hP : P ≤ 128) :
    Calls Try.prog 23 #[.pointer (some ⟨gs, 0, none⟩)] w fun e w' => ∃ v, e = .returned v ∧ OwnP w' w.heap.size v (flatS sh) ∧ Below w.heap.size w w' :=
  all_any w gs sh h.read h.wf.good h.wf.srt (by have := (ply_stt h hP1 hP).1; omega)
/-- A disk that was changed. -/
theorem Ply.disk {w w' : World} {lo gj g P n n' gs : Nat} {d d' : Dk} {sh gd gd' : List (Nat × PL)} (h : Ply w lo gj g P n gs d sh gd) {F F' : Nat → Prop} (h4 : ∀ k, F k → DkBlk w k) (h5 : ∀ k, F k → lo ≤ k) (ht : DTo w F g d' w' F') (hk : Kept P d' gd') (h2 : Two (zs gd') (-9) (-9)) (hf : Fw n' d') :
    Ply w' lo gj g P n' gs d' sh gd' ∧ Tch w w' ∧ Below lo w w' := by
  have tch : Tch w w' := ht.touch.sub (fun k hk => dk_kx (h4 k hk))
  obtain ⟨v, L, hv, hsh⟩ := h.sho
  obtain ⟨F1, f1, f2, f3⟩ := ht.has.least
  refine ⟨⟨⟨v, L, hv.disk ht.touch h4, hsh⟩, h.jb.tch tch, h.gsl, Nat.le_trans h.los ht.touch.size, ⟨F1, f1, f3, fun k hk => ?_⟩, h.wf, h.two, hk, h2, hf⟩, tch, ht.touch.below h.los h5⟩
  rcases ht.new k (f2 k hk) with h | h'
  · exact h5 k h
  · exact Nat.le_trans h.los h'
theorem ply_commit {w : World} {lo gj g P n gs : Nat} {d : Dk} {sh gd : List (Nat × PL)} (h : Ply w lo gj g P (n + (8 * P + 14)) gs d sh gd) (hP1 : 2 ≤ P) (hP : P ≤ 128) :
    Calls Try.prog 30 #[.pointer (some ⟨gs, 0, none⟩)] w fun e w' => e = .returned (.int .i64 0) ∧ ∃ d', Ply w' lo gj g P n gs d' sh sh ∧ Tch w w' ∧ Below lo w w' := by
  obtain ⟨v, L, hv, hsh⟩ := h.sho
  obtain ⟨F, h3, h4, h5⟩ := h.dk
  have hl := h.len hP1
  have hr := h.kept.rest
  refine (scommit_any w F lo gs gj g P d L v hv h3 h.jb (fun hf => h.jb.far (h4 gj hf) rfl) hr.sz (by rw [hr.waits]; decide) hP1 hP (by rw [hr.len]; exact Nat.le_refl _) hr.calm.up (by rw [hsh]; exact h.wf.good) (fun x hx => by rw [hsh] at hx; exact (h.wf.ids.2 x.1 (List.mem_map_of_mem hx)).2) (by rw [← hsh, shP_len] at hl; exact hl) (h.fw.mono (by omega))).mono ?_
  rintro e w' ⟨x, d', F', rfl, hc, ht⟩
  rw [hsh] at hc
  obtain ⟨k1, k2⟩ := kept_commit hP1 hP hr h.wf hc
  subst k1
  refine ⟨rfl, d', h.disk h4 h5 ht k2 h.two (coto_fw hc (h.fw.mono ?_))⟩
  have := chS_len (pgS d P) (wrs sh)
  rw [wrs_len] at this
  omega
theorem ply_abort {w : World} {lo gj g P n gs : Nat} {d : Dk} {sh gd : List (Nat × PL)} (h : Ply w lo gj g P n gs d sh gd) (hP1 : 2 ≤ P) (hP : P ≤ 128) :
    Calls Try.prog 31 #[.pointer (some ⟨gs, 0, none⟩)] w fun e w' => e = .returned (.tuple #[]) ∧ Ply w' lo gj g P n gs d gd gd ∧ Tch w w' ∧ Below lo w w' := by
  obtain ⟨v, L, hv, hsh⟩ := h.sho
  obtain ⟨F, h3, h4, h5⟩ := h.dk
  have hr := h.kept.rest
  refine (sabort_any w F gs gj g P d v h3 h.jb hr.sz (by rw [hr.waits]; decide) hP1 hP (by rw [hr.len]; exact Nat.le_refl _) hr.calm.up hv.box (fun hf => hv.not_dk (.inl rfl) (h4 gs hf))).mono ?_
  rintro e w' ⟨rfl, L', v', e1, h1, ht⟩
  rw [h.kept.load hP1 hP] at e1
  exact ⟨rfl, h.own hv (ht.sub (fun k hk => .inl hk)) (h1.weak h.los) e1 h.kept.wf h.two2⟩
theorem ply_open {w : World} {lo gj g P n gs : Nat} {d : Dk} {sh gd : List (Nat × PL)} (h : Ply w lo gj g P n gs d sh gd) (hP1 : 2 ≤ P) (hP : P ≤ 128) :
    Calls Try.prog 22 #[.pointer (some ⟨gj, 0, none⟩)] w fun e w' => ∃ gs', e = .returned (.tuple #[.pointer (some ⟨gs', 0, none⟩), .int .i64 0]) ∧ Ply w' lo gj g P n gs' d gd gd ∧ Tch w w' ∧ Below lo w w' := by
  obtain ⟨F, h3, h4, h5⟩ := h.dk
  have hr := h.kept.rest
  refine (sopen_up w F gj g P d h3 h.jb hr.sz (by rw [hr.waits]; decide) hP1 hP (by rw [hr.len]; exact Nat.le_refl _) hr.calm.up).mono ?_
  rintro e w' (⟨h1, gs', rfl, k1, k2, L', v', k3, k4⟩ | ⟨h1, _⟩)
  · rw [h.kept.load hP1 hP] at k3
    have hb := h.below k2
    exact ⟨gs', rfl, ⟨⟨v', L', k4.weak (by have := h.los; omega), k3⟩, hb.jb, Nat.le_trans h.los k1, hb.los, hb.dk, h.kept.wf, h.two2, h.kept, h.two2, h.fw⟩, Tch.of_below k2, k2.mono h.los⟩
  · exact absurd (by rw [h.kept.load hP1 hP]) h1
theorem ply_new {w w' : World} {P gs gj g : Nat} (hP1 : 2 ≤ P) (hP : P ≤ 12) (hb : ShB w' gs gj (.slice none 0 0)) (hg : w.heap.size ≤ gs) (hw : Below w.heap.size w w') (hj : Jb w' gj g P) {F : Nat → Prop} (hd : HasDisk w' F g (Dk.new (8 * P + 1))) (hf : ∀ k, F k → w.heap.size ≤ k) :
    Ply w' w.heap.size gj g P 900000 gs (Dk.new (8 * P + 1)) [] [] := by
  obtain ⟨F1, f1, f2, f3⟩ := hd.least
  exact ⟨⟨_, [], ⟨hb, .inl ⟨rfl, rfl⟩, fun x hx => by cases hx⟩, rfl⟩, hj, hg, hw.size, ⟨F1, f1, f3, fun k hk => hf k (f2 k hk)⟩, wf_nil P, (fun k hk => by simp [zs] at hk), kept_new hP1 (by omega), (fun k hk => by simp [zs] at hk), ⟨by simp [Dk.new], by simp [Dk.new]⟩⟩
/-! The document's list is the shelf's. -/
theorem takeW_lt : ∀ (l : PL) (a : ByteArray), Srt l → l.takeWhile (fun p => ltB p.1 a) = l.filter (fun p => ltB p.1 a)
  | [], _, _ => rfl
  | p :: l, a, h => by
    obtain ⟨h1, h2⟩ := List.pairwise_cons.1 h
    cases hp : ltB p.1 a with
    | true => rw [List.takeWhile_cons_of_pos (p := fun (q : ByteArray × ByteArray) => ltB q.1 a) hp, List.filter_cons_of_pos (p := fun (q : ByteArray × ByteArray) => ltB q.1 a) hp, takeW_lt l a h2]
    | false =>
      rw [List.takeWhile_cons_of_neg (by rw [hp]; decide), List.filter_cons_of_neg (by rw [hp]; decide)]
      symm
      rw [List.filter_eq_nil_iff]
      intro q hq
      have := ltB_lt hp (h1 q hq)
      rw [ltB_asym this]
      decide
theorem fnd_take {l : PL} (h : Srt l) (a : ByteArray) : l.take (fndI l a) = l.filter (fun p => ltB p.1 a) := by
  rw [← takeW_lt l a h]
  have := List.takeWhile_prefix (l := l) (fun p => ltB p.1 a)
  unfold fndI
  exact (List.prefix_iff_eq_take.1 this).symm
/-- What stands at the place, and behind it. -/
theorem fnd_drop {l : PL} (h : Srt l) (a : ByteArray) : l.drop (fndI l a + (if hitI l a then 1 else 0)) = l.filter (fun p => ltB a p.1) := by
  have hp := part3 l a h
  have ht := fnd_take h a
  have hd : l.drop (fndI l a) = l.filter (fun p => !ltB p.1 a && !ltB a p.1) ++ l.filter (fun p => ltB a p.1) := by
    have e := List.take_append_drop (fndI l a) l
    rw [ht] at e
    exact List.append_cancel_left (e.trans hp)
  rw [← List.drop_drop, hd]
  cases hh : hitI l a with
  | true =>
    have hi : fndI l a < l.length := by
      unfold hitI at hh
      split at hh
      · assumption
      · cases hh
    have he : l[fndI l a].1 = a := by
      unfold hitI at hh
      rw [dif_pos hi] at hh
      exact of_decide_eq_true hh
    have hmid : ∃ v, l.filter (fun p => !ltB p.1 a && !ltB a p.1) = [(a, v)] := by
      have hm : l[fndI l a] ∈ l.filter (fun p => !ltB p.1 a && !ltB a p.1) := List.mem_filter.2 ⟨List.getElem_mem hi, by rw [he, ltB_irr]; rfl⟩
      have hs := srt_filter h (fun p => !ltB p.1 a && !ltB a p.1)
      have hall : ∀ q ∈ l.filter (fun p => !ltB p.1 a && !ltB a p.1), q.1 = a := fun q hq => by
        have := (List.mem_filter.1 hq).2
        simp only [Bool.and_eq_true, Bool.not_eq_true'] at this
        exact ltB_tri this.1 this.2
      cases hf : l.filter (fun p => !ltB p.1 a && !ltB a p.1) with
      | nil => rw [hf] at hm; cases hm
      | cons p r =>
        rw [hf] at hs hall
        cases r with
        | nil => exact ⟨p.2, by rw [← hall p (List.mem_cons_self ..)]⟩
        | cons q r =>
          have h1 := (List.pairwise_cons.1 hs).1 q (List.mem_cons_self ..)
          rw [hall p (List.mem_cons_self ..), hall q (List.mem_cons_of_mem _ (List.mem_cons_self ..)), ltB_irr] at h1
          cases h1
    obtain ⟨v, hv⟩ := hmid
    rw [hv]
    rfl
  | false =>
    have hno : l.filter (fun p => !ltB p.1 a && !ltB a p.1) = [] := by
      rw [List.filter_eq_nil_iff]
      intro q hq hx
      simp only [Bool.and_eq_true, Bool.not_eq_true'] at hx
      have hqa := ltB_tri hx.1 hx.2
      have hne : l.filter (fun p => !ltB p.1 a && !ltB a p.1) ≠ [] := fun e => by
        rw [List.filter_eq_nil_iff] at e
        exact e q hq (by rw [hx.1, hx.2]; rfl)
      cases hf : l.filter (fun p => !ltB p.1 a && !ltB a p.1) with
      | nil => exact hne hf
      | cons p r =>
        rw [hf] at hd
        have hi : fndI l a < l.length := by
          rcases Nat.lt_or_ge (fndI l a) l.length with h | h
          · exact h
          · rw [List.drop_eq_nil_of_le h] at hd; cases hd
        have e0 : l[fndI l a] = p := by
          rw [List.drop_eq_getElem_cons hi] at hd
          injection hd
        have hpm : p ∈ l.filter (fun p => !ltB p.1 a && !ltB a p.1) := by rw [hf]; exact List.mem_cons_self ..
        have := (List.mem_filter.1 hpm).2
        simp only [Bool.and_eq_true, Bool.not_eq_true'] at this
        have hpa := ltB_tri this.1 this.2
        unfold hitI at hh
        rw [dif_pos hi, e0] at hh
        exact absurd hpa (of_decide_eq_false hh)
    rw [hno]
    rfl
theorem putI_eq {l : PL} (h : Srt l) (a x : ByteArray) : putI l a x = putF l a x := by
  have := fnd_drop h a
  unfold putI putF
  rw [fnd_take h a, ← this]
  cases hitI l a <;> rfl
theorem dropI_eq {l : PL} (h : Srt l) (a : ByteArray) : dropI l a = dropF l a := by
  have hd := fnd_drop h a
  have ht := fnd_take h a
  unfold dropI dropF
  cases hh : hitI l a with
  | true => rw [hh] at hd; rw [if_pos rfl, ht, ← hd]; rfl
  | false =>
    rw [hh] at hd
    rw [← hd, ← ht]
    exact (List.take_append_drop _ _).symm
theorem getF_some {l : PL} (h : Srt l) {a v : ByteArray} : getF l a = some v ↔ (a, v) ∈ l := by
  constructor
  · intro hg
    unfold getF at hg
    split at hg
    · rename_i hi
      split at hg
      · rename_i he
        cases hg
        have := List.getElem_mem hi
        rw [show l[fndI l a] = (a, l[fndI l a].2) from Prod.ext he rfl] at this
        exact this
      · cases hg
    · cases hg
  · intro hm
    obtain ⟨j, hj, e⟩ := List.getElem_of_mem hm
    have hf : fndI l a = j := fnd_at (fun i hi hij => by
      have := List.pairwise_iff_getElem.1 h i j hi hj hij
      rw [e] at this
      exact this) (by omega) (fun _ => by rw [e]; exact ltB_irr a)
    unfold getF
    simp only [hf]
    rw [dif_pos hj, e, if_pos rfl]
theorem getF_eq {sh : List (Nat × PL)} (h : Srt (flatS sh)) (hg : GoodS sh) (a : ByteArray) : getF (flatS sh) a = getK sh a := by
  cases h1 : getK sh a with
  | some v => exact (getF_some h).2 (getK_mem h1)
  | none =>
    cases h2 : getF (flatS sh) a with
    | none => rfl
    | some v =>
      have := getK_of_mem h (full_good hg) ((getF_some h).1 h2)
      rw [h1] at this
      cases this
/-- What a key takes is what the entries of it take. -/
theorem mid_old {sh : List (Nat × PL)} (h : Srt (flatS sh)) (hg : GoodS sh) (a : ByteArray) : szL ((flatS sh).filter (fun p => !ltB p.1 a && !ltB a p.1)) = oldZ sh a := by
  have hall : ∀ q ∈ (flatS sh).filter (fun p => !ltB p.1 a && !ltB a p.1), q.1 = a ∧ q ∈ flatS sh := fun q hq => by
    obtain ⟨hm, hx⟩ := List.mem_filter.1 hq
    simp only [Bool.and_eq_true, Bool.not_eq_true'] at hx
    exact ⟨ltB_tri hx.1 hx.2, hm⟩
  have hs := srt_filter h (fun p => !ltB p.1 a && !ltB a p.1)
  unfold oldZ
  cases hf : (flatS sh).filter (fun p => !ltB p.1 a && !ltB a p.1) with
  | nil =>
    cases hk : getK sh a with
    | none => rfl
    | some v =>
      have hm := getK_mem hk
      have : (a, v) ∈ (flatS sh).filter (fun p => !ltB p.1 a && !ltB a p.1) := List.mem_filter.2 ⟨hm, by rw [ltB_irr]; rfl⟩
      rw [hf] at this
      cases this
  | cons p r =>
    rw [hf] at hall hs
    obtain ⟨e1, e2⟩ := hall p (List.mem_cons_self ..)
    have hr : r = [] := by
      cases r with
      | nil => rfl
      | cons q r =>
        have h1 := (List.pairwise_cons.1 hs).1 q (List.mem_cons_self ..)
        rw [e1, (hall q (List.mem_cons_of_mem _ (List.mem_cons_self ..))).1, ltB_irr] at h1
        cases h1
    have hk : getK sh a = some p.2 := getK_of_mem h (full_good hg) (by rw [← e1]; exact e2)
    rw [hr, hk]
    show 0 + szP p = szP (a, p.2)
    rw [← e1, Nat.zero_add]
theorem put_size {sh : List (Nat × PL)} (h : Srt (flatS sh)) (hg : GoodS sh) (a x : ByteArray) : szL (putF (flatS sh) a x) + oldZ sh a = (zs sh).sum + szP (a, x) := by
  have hp := congrArg szL (part3 (flatS sh) a h)
  rw [szL_app, szL_app, mid_old h hg a, szL_flat] at hp
  unfold putF
  rw [szL_app, szL_cons]
  omega
end Go.Proofs.Ytoolkamajlgcbaa
