/- ShU: Drop in general (written by gen_shu.py). -/
import Derived.Test.YtoolkamajlgcbaaShT
set_option linter.unusedVariables false
set_option linter.unusedSimpArgs false
namespace Go.Proofs.Ytoolkamajlgcbaa
open Go.RowKit

/-- What Drop does. -/
noncomputable def dropA (sh : List (Nat × PL)) (a : ByteArray) : Bool × List (Nat × PL) :=
  if (getK sh a).isSome then
    (true, stepsT (if (lfA sh (fI sh a)).length = 1 then sh.take (fI sh a) ++ sh.drop (fI sh a + 1) else setL sh (fI sh a) ((lfA sh (fI sh a)).take (fK sh a) ++ (lfA sh (fI sh a)).drop (fK sh a + 1))) (fI sh a : Nat) 2)
  else (false, sh)
theorem ShO.lfd {w : World} {base gs gj : Nat} {v : Value} {L : List Lf} (h : ShO w base gs gj v L) (hp : 0 < L.length) : ∃ b cap, v = .slice (some ⟨b, 0, none⟩) L.length cap ∧ L.length ≤ cap := by
  rcases h.row with ⟨_, e⟩ | ⟨g, cap, cur, e, _, _, h1, _⟩
  · rw [e] at hp; simp at hp
  · exact ⟨g, cap, e, h1⟩
/-- The slice of entries that a leaf of the row has. -/
theorem ShO.leaf {w : World} {base gs gj b cap : Nat} {L : List Lf} (h : ShO w base gs gj (.slice (some ⟨b, 0, none⟩) L.length cap) L) (i : Nat) (hi : i < L.length) : w.cell? ⟨b, i * 2, none⟩ = some (.int .i64 (L[i].id : Int)) ∧ w.cell? ⟨b, i * 2 + 1, none⟩ = some (.slice L[i].A L[i].l.length L[i].c) := by
  rcases h.row with ⟨e, _⟩ | ⟨g', cap', cur, e, _, hk', z1, _, z2, z3, _⟩
  · cases e
  · cases e
    obtain ⟨g0, g1⟩ := lvv_get L i hi
    rw [← z3, List.getElem?_take_of_lt (by omega), Array.getElem?_toList] at g0 g1
    exact ⟨by rw [blk_cell hk', g0], by rw [blk_cell hk', g1]⟩
set_option maxHeartbeats 6400000 in
set_option maxRecDepth 100000 in
theorem drop_any (w : World) (base gs gj : Nat) (v0 : Value) (L : List Lf) (h : ShO w base gs gj v0 L) (hG : Good L) (hn : L.length ≤ 50000) (hbs : base ≤ w.heap.size) (a : ByteArray) :
    Calls Try.prog 12 #[.pointer (some ⟨gs, 0, none⟩), .string a] w fun e w' => e = .returned (.bool (dropA (shP L) a).1) ∧ ∃ v L', ShO w' base gs gj v L' ∧ shP L' = (dropA (shP L) a).2 ∧ Good L' ∧ Touch (fun k => k = gs ∨ v0.ownBlock = some k) w w' ∧ (∀ k, v.ownBlock = some k → v0.ownBlock = some k ∨ w.heap.size ≤ k) := by
  obtain ⟨i0, hi0, hz0, hz1, hz2⟩ := info_parts infoPr
  have H0 := Lib.hid h; have HG := Lib.hid hG
  have small : ∀ i, (lfA (shP L) i).length ≤ 1000 := fun i => by
    by_cases hi : i < L.length
    · rw [lfA_shP hi]
      have := (hG L[i] (List.getElem_mem _)).1
      have := (szL_len L[i].l).1
      omega
    · rw [lfA_out (by rw [shP_len]; omega)]; simp
  have full : Full (shP L) := fun i hi => by
    rw [shP_len] at hi
    rw [lfA_shP hi]
    exact (hG L[i] (List.getElem_mem _)).2
  have FN := Lib.hid (find_any w gs (shP L) h.read full (by rw [shP_len]; omega) (fun i => by have := small i; omega) a)
  have hile : fI (shP L) a ≤ 50000 := by
    unfold fI
    have := (srch_le (fun i => gtB (keyA (lfA (shP L) i) 0) a) (shP L).length 0 (shP L).length (by omega) (Nat.zero_le _)).2
    rw [shP_len] at this ⊢
    omega
  have hkle : fK (shP L) a ≤ 1000 := Nat.le_trans fK_le (small _)
  have AT := fun W hW => Lib.hid (at_any W gs (shP L) (H0.out.below hW).read (fI (shP L) a) (fK (shP L) a) (by omega) (by omega) a)
  cases hgk : getK (shP L) a with
  | none =>
    have PE : Hid (dropA (shP L) a = (false, shP L)) := by unfold Hid dropA; rw [hgk]; rfl
    have GK : Hid (hitK (shP L) (fI (shP L) a) (fK (shP L) a) a = none) := hgk
    generalize dropA (shP L) a = pa at PE ⊢
    generalize fI (shP L) a = i at FN AT GK
    generalize fK (shP L) a = k at FN AT GK
    clear hgk small full h hG hile hkle
    go_enter Try.func12, Try.ntmps12
    go_wp2_with fail
    refine FN.out.mono ?_
    rintro e w1 ⟨rfl, q1⟩
    have AT1 := AT w1 q1
    have Q1 := Lib.hid q1
    clear FN AT q1
    go_wp2_with fail
    refine AT1.out.mono ?_
    rintro e w' ⟨rfl, h⟩
    rw [GK.out] at h
    obtain ⟨_, rfl⟩ | ⟨_, _, _, h, _⟩ := h
    · clear AT1
      go_wp2
      go_ret
      exact ⟨by rw [PE.out]; rfl, _, L, H0.out.below Q1.out, by rw [PE.out], HG.out, Touch.of_below Q1.out, fun k hk => .inl hk⟩
    · cases h
  | some val =>
    have GK : Hid (hitK (shP L) (fI (shP L) a) (fK (shP L) a) a = some val) := hgk
    have PE : Hid (dropA (shP L) a = (true, stepsT (if (lfA (shP L) (fI (shP L) a)).length = 1 then (shP L).take (fI (shP L) a) ++ (shP L).drop (fI (shP L) a + 1) else setL (shP L) (fI (shP L) a) ((lfA (shP L) (fI (shP L) a)).take (fK (shP L) a) ++ (lfA (shP L) (fI (shP L) a)).drop (fK (shP L) a + 1))) (fI (shP L) a : Nat) 2)) := by unfold Hid dropA; rw [hgk]; rfl
    have hk : fK (shP L) a < (lfA (shP L) (fI (shP L) a)).length := by
      have q := GK.out
      unfold hitK at q
      by_cases hk : fK (shP L) a < (lfA (shP L) (fI (shP L) a)).length
      · exact hk
      · rw [dif_neg hk] at q; cases q
    have hiL : fI (shP L) a < L.length := by
      rcases Nat.lt_or_ge (fI (shP L) a) L.length with h | h
      · exact h
      · rw [lfA_out (by rw [shP_len]; exact h)] at hk; simp at hk
    generalize dropA (shP L) a = pa at PE ⊢
    generalize fI (shP L) a = i at FN AT GK PE hk hiL
    generalize fK (shP L) a = k at FN AT GK PE hk
    have SM := small i
    rw [lfA_shP hiL] at hk PE SM
    obtain ⟨b, cap, rfl, hcap⟩ := h.lfd (by omega)
    obtain ⟨y, hy⟩ : ∃ y, y = L[i] := ⟨_, rfl⟩
    have HY := Lib.hid hy
    rw [← hy] at hk PE SM
    obtain ⟨id1, l1, A1, c1⟩ := y
    simp only at hk PE SM
    have hR := h.rd _ (List.getElem_mem hiL)
    rw [← hy] at hR
    have l1z : Hid (szL l1 ≤ 1020) := by have := (hG _ (List.getElem_mem hiL)).1; rw [← hy] at this; exact this
    have c1l : l1.length ≤ c1 := hR.2.1
    obtain ⟨b1, o1, rfl, _⟩ := hR.1 (by show 0 < l1.length; omega)
    have RDh := Lib.hid hR
    clear hgk small full hG hile hkle hR hy h
    have hii : (i : Int) < (L.length : Int) := by omega
    have hkk : (k : Int) ≤ (l1.length : Int) := by omega
    have hkk2 : (k : Int) + 1 ≤ (l1.length : Int) := by omega
    have wk1 : IntKind.i64.wrap ((k : Int) + 1) = (k : Int) + 1 := by rw [IntKind.wrap_i64]; omega
    have hk0 : (0 : Int) ≤ (k : Int) + 1 := by omega
    have htk : ((k : Int) + 1).toNat = k + 1 := by omega
    go_enter Try.func12, Try.ntmps12
    go_wp2_with fail
    refine FN.out.mono ?_
    rintro e w2 ⟨rfl, q2⟩
    have AT1 := AT w2 q2
    have Q2 := Lib.hid q2
    have S2 := Lib.hid (H0.out.below Q2.out)
    have r1 := blk_cell S2.out.box 1
    simp at r1
    have r2 : w2.cell? ⟨b, i * 2 + 1, none⟩ = some (.slice (some ⟨b1, o1, none⟩) l1.length c1) := by
      have q := (S2.out.leaf i hiL).2
      rw [← HY.out] at q
      exact q
    have RD2 : Hid (RdPr w2 (some ⟨b1, o1, none⟩) l1) := RDh.out.1.below Q2.out
    clear FN AT q2
    go_wp2_with fail
    refine AT1.out.mono ?_
    rintro e w' ⟨rfl, hh⟩
    rw [GK.out] at hh
    obtain ⟨qb, qo, rfl⟩ : ∃ qb qo, e = .returned (.pointer (some ⟨qb, qo, none⟩)) := by
      rcases hh with ⟨h, _⟩ | ⟨qb, qo, _, _, h, _⟩
      · cases h
      · exact ⟨_, _, h⟩
    obtain ⟨ad3, had3, RC3⟩ := rd_from RD2.out (k + 1) (by omega) c1l
    have SRC : Hid (∀ j u, (prv (l1.take k))[j]? = some u → w2.cell? ((⟨b1, o1, none⟩ : Addr).add j) = some u) := rd_take RD2.out k
    have RC3h := Lib.hid RC3
    have TK : (prv (l1.take k)).length = k * 2 := by rw [prv_len, List.length_take]; omega
    have TD3 : (prv (l1.drop (k + 1))).length = (l1.length - (k + 1)) * 2 := by rw [prv_len, List.length_drop]
    have kc1 : (k : Int) ≤ (c1 : Int) := by omega
    obtain ⟨nl, hnl⟩ : ∃ q, q = l1.take k ++ l1.drop (k + 1) := ⟨_, rfl⟩
    rw [← hnl] at PE
    have NL := Lib.hid hnl
    have nll : nl.length = l1.length - 1 := by rw [hnl, List.length_append, List.length_take, List.length_drop]; omega
    have NZ : Hid (szL nl ≤ 1020) := by
      have q := szL_app (l1.take k) (l1.drop k)
      rw [List.take_append_drop] at q
      have := szL_drop_le l1 k
      have := l1z.out
      unfold Hid
      rw [hnl, szL_app]
      omega
    have c1d : w2.drew.cell? ⟨gs, 1, none⟩ = some (.slice (some ⟨b, 0, none⟩) L.length cap) := r1
    have u1d : w2.drew.cell? ⟨b, i * 2 + 1, none⟩ = some (.slice (some ⟨b1, o1, none⟩) l1.length c1) := r2
    clear hh AT1 RC3 hnl
    go_wp2_with fail
    refine wp_region_tail (fun w' => w'.cell? ⟨gs, 1, none⟩ = some (.slice (some ⟨b, 0, none⟩) L.length cap)) [(0, 1), (1, 1), (2, 1), (4, 1), (6, 1), (7, 1), (8, 1), (10, 1), (11, 1), (12, 1), (13, 1), (3, 2), (5, 0), (9, 0), (14, 0), (15, 1), (16, 1)] [17] (by kernel_rfl) (by kernel_rfl) c1d ?_
    repeat (refine wpT_dry (fun K hK => ?_); go_simp; refine hK _ ?_; clear hK K)
    refine wpT_read (.slice (some ⟨b, 0, none⟩) L.length cap) rfl (fun w' hS => by go_simp) (fun K hK => ?_)
    go_simp
    refine hK _ ?_
    clear hK K
    repeat (refine wpT_dry (fun K hK => ?_); go_simp; refine hK _ ?_; clear hK K)
    refine wpT_do ?_
    go_wp2_with fail
    obtain ⟨E1, hE1⟩ : ∃ W, W = (w2.alloc (.cells #[] 47)).drew := ⟨_, rfl⟩
    have KE1 : Hid (Below w2.heap.size w2 E1) := by rw [hE1]; exact ((Below.refl _ w2).alloc (Nat.le_refl _) _).drew
    have HE1 : Hid (E1.ownsRow w2.heap.size 47 2 (.slice (some ⟨w2.heap.size, 0, none⟩) 0 0) 0 []) := by rw [hE1]; exact own_touch (World.ownsRow_made w2 #[] 0 (Nat.le_refl _) (by decide) rfl) (Touch.of_below (Below.refl _ _).drew : Touch (fun _ => False) _ (w2.alloc (.cells #[] 47)).drew) (fun _ _ x => x)
    rw [← hE1]
    clear hE1
    refine ⟨cell_below KE1.out r1, ?_⟩
    refine wpT_do ?_
    refine (wpList_append_own_at _ rfl (.tmp 33) (.tmp 36) 43 rfl w2.heap.size 47 i0 _ 2 32 Try.underlying43 hi0 hz0 hz1 hz2 rfl (by decide) (.slice (some ⟨w2.heap.size, 0, none⟩) 0 0) 0 [] rfl HE1.out ⟨b1, o1, none⟩ k c1 (prv (l1.take k)) rfl TK (fun j u hj => cell_below KE1.out (SRC.out j u hj)) (prv_one _) (by unfold maxLen; omega) (by omega) KE1.out.size ?_)
    intro v1 w4 ho1 hg4 _ hat4
    have K4 : Hid (Below w2.heap.size w2 w4) := KE1.out.trans ((Below.refl w2.heap.size E1).grown hg4 KE1.out.size (fun j hj => by cases hj; exact Nat.le_refl _))
    rw [Nat.zero_add, List.nil_append] at ho1
    have HO1 := Lib.hid ho1
    clear hg4 ho1 hat4
    go_wp2_with fail
    refine ⟨cell_below K4.out r1, ?_⟩
    refine wpT_do ?_
    refine (wpList_append_own_at _ rfl (.tmp 37) (.tmp 41) 43 rfl w2.heap.size 47 i0 _ 2 32 Try.underlying43 hi0 hz0 hz1 hz2 rfl (by decide) v1 k (prv (l1.take k)) rfl HO1.out ad3 (l1.length - (k + 1)) (c1 - (k + 1)) (prv (l1.drop (k + 1))) (by first | rfl | (simp only [← had3]; rfl)) TD3 (fun j u hj => cell_below K4.out (RC3h.out j u hj)) (prv_one _) (by unfold maxLen; omega) (by omega) K4.out.size ?_)
    intro v3 w5 ho3 hg5 _ hat5
    have K5 : Hid (Below w2.heap.size w2 w5) := K4.out.trans ((Below.refl w2.heap.size w4).grown hg5 K4.out.size (fun j hj => (HO1.out.lt j hj).1))
    obtain ⟨Al, cl, rfl, HL⟩ : ∃ A c, v3 = .slice A nl.length c ∧ Hid (LfRd w5 ⟨id1, nl, A, c⟩) := by
      rw [← prv_append, ← NL.out] at ho3
      obtain ⟨A, c, e1, e2⟩ := lf_own ho3 id1
      exact ⟨A, c, e1, e2⟩
    have B5 : Hid (Below w.heap.size w w5) := Q2.out.trans (K5.out.mono Q2.out.size)
    have S5 := H0.out.below B5.out
    have c1g := cell_below K5.out r1; have u1g := cell_below K5.out r2
    have f1 := S5.row_free (i * 2 + 1)
    have hx : id1 = L[i].id := by rw [← HY.out]
    have S6 : ShO (w5.setCell ⟨b, i * 2 + 1, none⟩ (.slice Al nl.length cl)) base gs gj (.slice (some ⟨b, 0, none⟩) L.length cap) (L.set i ⟨id1, nl, Al, cl⟩) := S5.setLeaf hiL ⟨id1, nl, Al, cl⟩ hx HL.out
    obtain ⟨v0, hv0⟩ : ∃ q, q = Value.slice (some ⟨b, 0, none⟩) L.length cap := ⟨_, rfl⟩
    have T6 : Hid (Touch (fun k => k = gs ∨ v0.ownBlock = some k) w (w5.setCell ⟨b, i * 2 + 1, none⟩ (.slice Al nl.length cl))) := (Touch.of_below B5.out : Touch (fun k => k = gs ∨ v0.ownBlock = some k) w w5).setCell (p := ⟨b, i * 2 + 1, none⟩) (.inl (.inr (by rw [hv0]; rfl))) _
    have SH6 : Hid (shP (L.set i ⟨id1, nl, Al, cl⟩) = setL (shP L) i nl) := shP_set L i ⟨id1, nl, Al, cl⟩ hiL hx
    have S6h := Lib.hid S6
    rw [nll] at S6h T6
    have HNL := Lib.hid nll
    clear hg5 ho3 hat5 S5 S6 c1d u1d hx
    go_wp2_with fail
    refine ⟨c1g, ?_⟩
    repeat (refine wpT_dry (fun K hK => ?_); go_simp; refine hK _ ?_; clear hK K)
    refine wpT_tail ?_
    refine wpE_do ?_
    go_wp2_with fail
    refine ⟨trivial, ?_⟩
    refine wpE_nil ?_
    obtain ⟨w6, hw6⟩ : ∃ q, q = w5.setCell ⟨b, i * 2 + 1, none⟩ (.slice Al (l1.length - 1) cl) := ⟨_, rfl⟩
    rw [← hw6] at S6h T6 ⊢
    clear hw6 c1g u1g f1 nll
    by_cases hone : l1.length = 1
    · have d1 : ((l1.length : Int) == 1) = true := by rw [hone]; rfl
      have d1' : (l1.length == 1) = true := by rw [hone]; rfl
      have PE2 : Hid (pa = (true, stepsT ((shP L).take i ++ (shP L).drop (i + 1)) (i : Nat) 2)) := by unfold Hid; rw [PE.out, if_pos hone]
      obtain ⟨L4, hL4⟩ : ∃ q, q = L.set i ⟨id1, nl, Al, cl⟩ := ⟨_, rfl⟩
      have len4 : L4.length = L.length := by rw [hL4, List.length_set]
      rw [← hL4, ← len4] at S6h
      have c1h : w6.drew.cell? ⟨gs, 1, none⟩ = some (.slice (some ⟨b, 0, none⟩) L.length cap) := by
        have := blk_cell S6h.out.box 1
        rw [len4] at this
        exact this
      obtain ⟨i1, hi1, hy0, hy1, hy2⟩ := info_parts infoLf
      have SD := S6h.out.below (Below.refl _ w6).drew
      obtain ⟨ad2, hA2, RW3⟩ := lr_from SD.row (i + 1) (by omega)
      have RW3h := Lib.hid RW3
      have RW1 : Hid (∀ j u, (lvv (L4.take i))[j]? = some u → w6.drew.cell? ((⟨b, 0, none⟩ : Addr).add j) = some u) := lr_cells0 SD.row i
      have LW1 : (lvv (L4.take i)).length = i * 2 := by rw [lvv_len, List.length_take]; omega
      have LW2 : (lvv (L4.drop (i + 1))).length = (L.length - (i + 1)) * 2 := by rw [lvv_len, List.length_drop, len4]
      have hii2 : (i : Int) + 1 ≤ (L.length : Int) := by omega
      have hii3 : (0 : Int) ≤ (i : Int) + 1 := by omega
      have hii4 : ((i : Int) + 1).toNat = i + 1 := by omega
      have hii5 : IntKind.i64.wrap ((i : Int) + 1) = (i : Int) + 1 := by rw [IntKind.wrap_i64]; omega
      have hi7 : (i : Int) ≤ (L.length : Int) := by omega
      have hi8 : (i : Int) ≤ (cap : Int) := by omega
      have hone' : Hid (l1.length = 1) := hone
      have HPk := Lib.hid hk
      clear RW3 SD hone hk
      go_wp2_with fail
      refine wp_region_tail (fun w' => w'.cell? ⟨gs, 1, none⟩ = some (.slice (some ⟨b, 0, none⟩) L.length cap)) [(0, 1), (1, 1), (2, 1), (3, 1), (5, 1), (6, 1), (8, 1), (9, 1), (10, 1), (12, 1), (13, 1), (4, 2), (7, 1), (11, 0), (14, 1), (15, 0), (16, 1), (17, 1)] [18] (by kernel_rfl) (by kernel_rfl) c1h ?_
      repeat (refine wpT_dry (fun K hK => ?_); go_simp; refine hK _ ?_; clear hK K)
      refine wpT_read (.slice (some ⟨b, 0, none⟩) L.length cap) rfl (fun w' hS => by go_simp) (fun K hK => ?_)
      go_simp
      refine hK _ ?_
      clear hK K
      repeat (refine wpT_dry (fun K hK => ?_); go_simp; refine hK _ ?_; clear hK K)
      refine wpT_do ?_
      go_wp2_with fail
      refine ⟨c1h, ?_⟩
      repeat (refine wpT_dry (fun K hK => ?_); go_simp; refine hK _ ?_; clear hK K)
      try rw [hA2]
      refine wpT_do ?_
      refine (wpList_append_full _ rfl (.tmp 55) (.tmp 62) 83 rfl 82 i1 _ 2 32 Try.underlying83 hi1 hy0 hy1 hy2 rfl (by decide) ⟨b, 0, none⟩ i i (Nat.le_refl _) (lvv (L4.take i)) rfl LW1 RW1.out ad2 (L.length - (i + 1)) (cap - (i + 1)) (lvv (L4.drop (i + 1))) (by first | rfl | (simp only [← hA2]; rfl)) LW2 RW3h.out (by unfold maxLen; omega) (by omega) (Nat.le_refl _) ?_)
      intro v7 w7 gr7 r7
      obtain ⟨LR7, OB7⟩ := lrow_full (w := w6.drew) (w' := w7) (S6h.out.below (Below.refl _ w6).drew).row (n := i) (by omega) (Nat.le_trans hbs T6.out.size) (m := L.length - (i + 1)) (M := L4.drop (i + 1)) (by rw [List.length_drop, len4]) r7
      have B7 : Below w6.heap.size w6 w7 := ((Below.refl w6.heap.size w6).drew).grown gr7 (Nat.le_refl _) (fun j hj => by cases hj)
      have S7 := S6h.out.below B7
      have c1i : w7.cell? ⟨gs, 1, none⟩ = some (.slice (some ⟨b, 0, none⟩) L.length cap) := cell_below B7 c1h
      have f2 : w7.frozen? ⟨gs, 1, none⟩ = false := blk_free S7.box 1
      obtain ⟨L8, hL8⟩ : ∃ x, x = L4.take i ++ L4.drop (i + 1) := ⟨_, rfl⟩
      have eL8 : L8 = L.take i ++ L.drop (i + 1) := by
        rw [hL8, hL4, List.take_set_of_le (Nat.le_refl _), List.drop_set_of_lt (Nat.lt_succ_self _)]
      have M8 : ∀ x ∈ L8, x ∈ L4 := fun x hx => by
        rw [hL8] at hx
        rcases List.mem_append.1 hx with hx | hx
        · exact List.mem_of_mem_take hx
        · exact List.mem_of_mem_drop hx
      rw [← hL8] at LR7
      obtain ⟨A7, n7, c7, rfl⟩ : ∃ A n c, v7 = .slice A n c := by
        rcases LR7 with ⟨e, _⟩ | ⟨g, cp, _, e, _⟩
        · exact ⟨none, 0, 0, e⟩
        · exact ⟨_, _, _, e⟩
      have S8 := Lib.hid (S7.setRow LR7 (fun x hx => S7.rd x (M8 x hx)))
      have G8 : Hid (Good L8) := fun x hx => by
        rw [eL8] at hx
        rcases List.mem_append.1 hx with hx | hx
        · exact HG.out x (List.mem_of_mem_take hx)
        · exact HG.out x (List.mem_of_mem_drop hx)
      have SH8 : Hid (shP L8 = (shP L).take i ++ (shP L).drop (i + 1)) := by unfold Hid; rw [eL8]; simp [shP, List.map_take, List.map_drop]
      have len8 : L8.length ≤ 50000 := by rw [eL8, List.length_append, List.length_take, List.length_drop]; omega
      have T8 : Hid (Touch (fun k => k = gs ∨ v0.ownBlock = some k) w (w7.setCell ⟨gs, 1, none⟩ (.slice A7 n7 c7))) := (T6.out.trans (Touch.of_below B7 : Touch (fun _ => False) w6 w7) (fun _ _ x => x.elim)).setCell (p := ⟨gs, 1, none⟩) (.inl (.inl rfl)) _
      have OB8 : Hid (∀ k, (Value.slice A7 n7 c7).ownBlock = some k → v0.ownBlock = some k ∨ w.heap.size ≤ k) := fun k' hk' => by
        rcases OB7 with e | ⟨q, e, hq⟩
        · rw [e] at hk'; cases hk'; exact .inl (by rw [hv0]; rfl)
        · rw [e] at hk'; cases hk'
          exact .inr (Nat.le_trans T6.out.size hq)
      have TD := Lib.hid (tidy_any _ base gs gj _ _ S8.out G8.out (by omega) (Nat.le_trans hbs T8.out.size) i (by omega))
      clear gr7 r7 LR7 OB7 B7 S7 hL8 eL8 M8 len8 S6h RW1 RW3h LW1 LW2 hA2
      go_wp2_with fail
      refine ⟨c1i, ?_⟩
      repeat (refine wpT_dry (fun K hK => ?_); go_simp; refine hK _ ?_; clear hK K)
      refine wpT_tail ?_
      refine wpE_do ?_
      go_wp2_with fail
      refine ⟨trivial, ?_⟩
      refine wpE_nil ?_
      go_wp2_with fail
      refine TD.out.mono ?_
      rintro e w9 ⟨rfl, v9, L9, r9⟩
      have R9 := Lib.hid r9
      clear r9 TD
      go_wp2
      go_ret
      obtain ⟨s9, h9, g9, t9, o9⟩ := R9.out
      refine ⟨by rw [PE2.out]; rfl, v9, L9, s9, by rw [h9, SH8.out, PE2.out], g9, ?_, fun k hk => ?_⟩
      · rw [← hv0]
        refine T8.out.trans t9 (fun k hk h => ?_)
        rcases h with h | h
        · exact .inl h
        · rcases OB8.out k h with h | h
          · exact .inr h
          · omega
      · rw [← hv0]
        rcases o9 k hk with h | h
        · exact OB8.out k h
        · exact .inr (by have := T8.out.size; omega)
    · have d1 : ((l1.length : Int) == 1) = false := by rw [beq_eq_false_iff_ne]; omega
      have d1' : (l1.length == 1) = false := by rw [beq_eq_false_iff_ne]; exact hone
      have PE2 : Hid (pa = (true, stepsT (setL (shP L) i nl) (i : Nat) 2)) := by unfold Hid; rw [PE.out, if_neg hone]
      have G6 : Good (L.set i ⟨id1, nl, Al, cl⟩) := fun y hy => by
        rcases List.mem_or_eq_of_mem_set hy with hy | rfl
        · exact HG.out y hy
        · exact ⟨NZ.out, by show 0 < nl.length; rw [HNL.out]; omega⟩
      have TD := Lib.hid (tidy_any _ base gs gj _ _ S6h.out G6 (by rw [List.length_set]; omega) (Nat.le_trans hbs T6.out.size) i (by omega))
      clear G6
      go_wp2_with fail
      refine TD.out.mono ?_
      rintro e w9 ⟨rfl, v9, L9, r9⟩
      have R9 := Lib.hid r9
      clear r9 TD
      go_wp2
      go_ret
      obtain ⟨s9, h9, g9, t9, o9⟩ := R9.out
      refine ⟨by rw [PE2.out]; rfl, v9, L9, s9, by rw [h9, SH6.out, PE2.out], g9, by rw [← hv0] at t9 ⊢; exact T6.out.trans t9 (fun _ _ h => h), fun k hk => ?_⟩
      rcases o9 k hk with h | h
      · exact .inl h
      · exact .inr (by have := T6.out.size; omega)
end Go.Proofs.Ytoolkamajlgcbaa
