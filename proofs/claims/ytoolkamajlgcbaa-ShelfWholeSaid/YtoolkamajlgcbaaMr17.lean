/- ShU: Drop in general (written by gen_shu.py). -/
import Derived.Test.YtoolkamajlgcbaaMr16
set_option linter.unusedVariables false
set_option linter.unusedSimpArgs false
namespace Go.Proofs.Ytoolkamajlgcbaa
open Go.RowKit

/-- What Drop does. -/
noncomputable def dropA (sh : List (Nat × PL)) (a : ByteArray) : Bool × List (Nat × PL) :=
  if (getK sh a).isSome then
    (true, stepsT (if (lfA sh (fI sh a)).length = 1 then sh.take (fI sh a) ++ sh.drop (fI sh a + 1) else setL sh (fI sh a) ((lfA sh (fI sh a)).take (fK sh a) ++ (lfA sh (fI sh a)).drop (fK sh a + 1))) (fI sh a : Nat) 2)
  else (false, sh)
theorem ShO.lfd {w : World} {base gs gj : Nat} {v : Value} {L : List Lf} (h : ShO w base gs gj v L) (hp : 0 < L.length) : ∃ b cap, v = .slice (some ⟨b, 0, none⟩) L.length cap ∧ L.length ≤ cap := by
  rcases h.row with ⟨_, e⟩ | ⟨g, cap, cur, e, _, _, h1, _⟩
  · rw [e] at hp; simp at hp
  · exact ⟨g, cap, e, h1⟩
/-- The slice of entries that a leaf of the row has. -/
theorem ShO.leaf {w : World} {base gs gj b cap : Nat} {L : List Lf} (h : ShO w base gs gj (.slice (some ⟨b, 0, none⟩) L.length cap) L) (i : Nat) (hi : i < L.length) : w.cell? ⟨b, i * 2, none⟩ = some (.int .i64 (L[i].id : Int)) ∧ w.cell? ⟨b, i * 2 + 1, none⟩ = some (.slice L[i].A L[i].l.length L[i].c) := by
  rcases h.row with ⟨e, _⟩ | ⟨g', cap', cur, e, _, hk', z1, _, z2, z3, _⟩
  · cases e
  · cases e
    obtain ⟨g0, g1⟩ := lvv_get L i hi
    rw [← z3, List.getElem?_take_of_lt (by omega), Array.getElem?_toList] at g0 g1
    exact ⟨by rw [blk_cell hk', g0], by rw [blk_cell hk', g1]⟩
set_option maxHeartbeats 6400000 in
set_option maxRecDepth 100000 in
theorem drop_any (w : World) (base gs gj : Nat) (v0 : Value) (L : List Lf) (h : ShO w base gs gj v0 L) (hG : Good L) (hn : L.length ≤ 50000) (hbs : base ≤ w.heap.size) (a : ByteArray) :
    Calls Try.prog 12 #[.pointer (some ⟨gs, 0, none⟩), .string a] w fun e w' => e = .returned (.bool (dropA (shP L) a).1) ∧ ∃ v L', ShO w' base gs gj v L' ∧ shP L' = (dropA (shP L) a).2 ∧ Good L' ∧ Touch (fun k => k = gs ∨ v0.ownBlock = some k) w w' ∧ (∀ k, v.ownBlock = some k → v0.ownBlock = some k ∨ w.heap.size ≤ k) := by
  obtain ⟨i0, hi0, hz0, hz1, hz2⟩ := info_parts infoPr
  have H0 := Lib.hid h; have HG := Lib.hid hG
  have small : ∀ i, (lfA (shP L) i).length ≤ 1000 := fun i => by
    by_cases hi : i < L.length
    · rw [lfA_shP hi]
      have := (hG L[i] (List.getElem_mem _)).1
      have := (szL_len L[i].l).1
      omega
    · rw [lfA_out (by rw [shP_len]; omega)]; simp
  have full : Full (shP L) := fun i hi => by
    rw [shP_len] at hi
    rw [lfA_shP hi]
    exact (hG L[i] (List.getElem_mem _)).2
  have FN := Lib.hid (find_any w gs (shP L) h.read full (by rw [shP_len]; omega) (fun i => by have := small i; omega) a)
  have hile : fI (shP L) a ≤ 50000 := by
    unfold fI
    have := (srch_le (fun i => gtB (keyA (lfA (shP L) i) 0) a) (shP L).length 0 (shP L).length (by omega) (Nat.zero_le _)).2
    rw [shP_len] at this ⊢
    omega
  have hkle : fK (shP L) a ≤ 1000 := Nat.le_trans fK_le (small _)
  have AT := fun W hW => Lib.hid (at_any W gs (shP L) (H0.out.below hW).read (fI (shP L) a) (fK (shP L) a) (by omega) (by omega) a)
  cases hgk : getK (shP L) a with
  | none =>
    have PE : Hid (dropA (shP L) a = (false, shP L)) := by unfold Hid dropA; rw [hgk]; rfl
    have GK : Hid (hitK (shP L) (fI (shP L) a) (fK (shP L) a) a = none) := hgk
    generalize dropA (shP L) a = pa at PE ⊢
    generalize fI (shP L) a = i at FN AT GK
    generalize fK (shP L) a = k at FN AT GK
    clear hgk small full h hG hile hkle
    go_enter Try.func12, Try.ntmps12
    go_wp2_with fail
    refine FN.out.mono ?_
    rintro e w1 ⟨rfl, q1⟩
    have AT1 := AT w1 q1
    have Q1 := Lib.hid q1
    clear FN AT q1
    go_wp2_with fail
    refine AT1.out.mono ?_
    rintro e w' ⟨rfl, h⟩
    rw [GK.out] at h
    obtain ⟨_, rfl⟩ | ⟨_, _, _, h, _⟩ := h
    · clear AT1
      go_wp2
      go_ret
      exact ⟨by rw [PE.out]; rfl, _, L, H0.out.below Q1.out, by rw [PE.out], HG.out, Touch.of_below Q1.out, fun k hk => .inl hk⟩
    · cases h
  | some val =>
    have GK : Hid (hitK (shP L) (fI (shP L) a) (fK (shP L) a) a = some val) := hgk
    have PE : Hid (dropA (shP L) a = (true, stepsT (if (lfA (shP L) (fI (shP L) a)).length = 1 then (shP L).take (fI (shP L) a) ++ (shP L).drop (fI (shP L) a + 1) else setL (shP L) (fI (shP L) a) ((lfA (shP L) (fI (shP L) a)).take (fK (shP L) a) ++ (lfA (shP L) (fI (shP L) a)).drop (fK (shP L) a + 1))) (fI (shP L) a : Nat) 2)) := by unfold Hid dropA; rw [hgk]; rfl
    have hk : fK (shP L) a < (lfA (shP L) (fI (shP L) a)).length := by
      have q := GK.out
      unfold hitK at q
      by_cases hk : fK (shP L) a < (lfA (shP L) (fI (shP L) a)).length
      · exact hk
      · rw [dif_neg hk] at q; cases q
    have hiL : fI (shP L) a < L.length := by
      rcases Nat.lt_or_ge (fI (shP L) a) L.length with h | h
      · exact h
      · rw [lfA_out (by rw [shP_len]; exact h)] at hk; simp at hk
    generalize dropA (shP L) a = pa at PE ⊢
    generalize fI (shP L) a = i at FN AT GK PE hk hiL
    generalize fK (shP L) a = k at FN AT GK PE hk
    have SM := small i
    rw [lfA_shP hiL] at hk PE SM
    obtain ⟨b, cap, rfl, hcap⟩ := h.lfd (by omega)
    obtain ⟨y, hy⟩ : ∃ y, y = L[i] := ⟨_, rfl⟩
    have HY := Lib.hid hy
    rw [← hy] at hk PE SM
    obtain ⟨id1, l1, A1, c1⟩ := y
    simp only at hk PE SM
    have hR := h.rd _ (List.getElem_mem hiL)
    rw [← hy] at hR
    have l1z : Hid (szL l1 ≤ 1020) := by have := (hG _ (List.getElem_mem hiL)).1; rw [← hy] at this; exact this
    have c1l : l1.length ≤ c1 := hR.2.1
    obtain ⟨b1, o1, rfl, _⟩ := hR.1 (by show 0 < l1.length; omega)
    have RDh := Lib.hid hR
    clear hgk small full hG hile hkle hR hy h
    have hii : (i : Int) < (L.length : Int) := by omega
    have hkk : (k : Int) ≤ (l1.length : Int) := by omega
    have hkk2 : (k : Int) + 1 ≤ (l1.length : Int) := by omega
    have wk1 : IntKind.i64.wrap ((k : Int) + 1) = (k : Int) + 1 := by rw [IntKind.wrap_i64]; omega
    have hk0 : (0 : Int) ≤ (k : Int) + 1 := by omega
    have htk : ((k : Int) + 1).toNat = k + 1 := by omega
    go_enter Try.func12, Try.ntmps12
    go_wp2_with fail
    refine FN.out.mono ?_
    rintro e w2 ⟨rfl, q2⟩
    have AT1 := AT w2 q2
    have Q2 := Lib.hid q2
    have S2 := Lib.hid (H0.out.below Q2.out)
    have r1 := blk_cell S2.out.box 1
    simp at r1
    have r2 : w2.cell? ⟨b, i * 2 + 1, none⟩ = some (.slice (some ⟨b1, o1, none⟩) l1.length c1) := by
      have q := (S2.out.leaf i hiL).2
      rw [← HY.out] at q
      exact q
    have RD2 : Hid (RdPr w2 (some ⟨b1, o1, none⟩) l1) := RDh.out.1.below Q2.out
    clear FN AT q2
    go_wp2_with fail
    refine AT1.out.mono ?_
    rintro e w' ⟨rfl, hh⟩
    rw [GK.out] at hh
    obtain ⟨qb, qo, rfl⟩ : ∃ qb qo, e = .returned (.pointer (some ⟨qb, qo, none⟩)) := by
      rcases hh with ⟨h, _⟩ | ⟨qb, qo, _, _, h, _⟩
      · cases h
      · exact ⟨_, _, h⟩
    obtain ⟨ad3, had3, RC3⟩ := rd_from RD2.out (k + 1) (by omega) c1l
    have SRC : Hid (∀ j u, (prv (l1.take k))[j]? = some u → w2.cell? ((⟨b1, o1, none⟩ : Addr).add j) = some u) := rd_take RD2.out k
    have RC3h := Lib.hid RC3
    have TK : (prv (l1.take k)).length = k * 2 := by rw [prv_len, List.length_take]; omega
    have TD3 : (prv (l1.drop (k + 1))).length = (l1.length - (k + 1)) * 2 := by rw [prv_len, List.length_drop]
    have kc1 : (k : Int) ≤ (c1 : Int) := by omega
    obtain ⟨nl, hnl⟩ : ∃ q, q = l1.take k ++ l1.drop (k + 1) := ⟨_, rfl⟩
    rw [← hnl] at PE
    have NL := Lib.hid hnl
    have nll : nl.length = l1.length - 1 := by rw [hnl, List.length_append, List.length_take, List.length_drop]; omega
    have NZ : Hid (szL nl ≤ 1020) := by
      have q := szL_app (l1.take k) (l1.drop k)
      rw [List.take_append_drop] at q
      have := szL_drop_le l1 k
      have := l1z.out
      unfold Hid
      rw [hnl, szL_app]
      omega
    have c1d : w2.drew.cell? ⟨gs, 1, none⟩ = some (.slice (some ⟨b, 0, none⟩) L.length cap) := r1
    have u1d : w2.drew.cell? ⟨b, i * 2 + 1, none⟩ = some (.slice (some ⟨b1, o1, none⟩) l1.length c1) := r2
    clear hh AT1 RC3 hnl
    go_wp2_with fail
    refine wp_region_tail (fun w' => w'.cell? ⟨gs, 1, none⟩ = some (.slice (some ⟨b, 0, none⟩) L.length cap)) [(0, 1), (1, 1), (2, 1), (4, 1), (6, 1), (7, 1), (8, 1), (10, 1), (11, 1), (12, 1), (13, 1), (3, 2), (5, 0), (9, 0), (14, 0), (15, 1), (16, 1)] [17] (by kernel_rfl) (by kernel_rfl) c1d ?_
    repeat (refine wpT_dry (fun K hK => ?_); go_simp; refine hK _ ?_; clear hK K)
    refine wpT_read (.slice (some ⟨b, 0, none⟩) L.length cap) rfl (fun w' hS => by go_simp) (fun K hK => ?_)
    go_simp
    refine hK _ ?_
    clear hK K
    repeat (refine wpT_dry (fun K hK => ?_); go_simp; refine hK _ ?_; clear hK K)
    refine wpT_do ?_
    go_wp2_with fail
    obtain ⟨E1, hE1⟩ : ∃ W, W = (w2.alloc (.cells #[] 47)).drew := ⟨_, rfl⟩
    have KE1 : Hid (Below w2.heap.size w2 E1) := by rw [hE1]; exact ((Below.refl _ w2).alloc (Nat.le_refl _) _).drew
    have HE1 : Hid (E1.ownsRow w2.heap.size 47 2 (.slice (some ⟨w2.heap.size, 0, none⟩) 0 0) 0 []) := by rw [hE1]; exact own_touch (World.ownsRow_made w2 #[] 0 (Nat.le_refl _) (by decide) rfl) (Touch.of_below (Below.refl _ _).drew : Touch (fun _ => False) _ (w2.alloc (.cells #[] 47)).drew) (fun _ _ x => x)
    rw [← hE1]
    clear hE1
    refine ⟨cell_below KE1.out r1, ?_⟩
    refine wpT_do ?_
    refine (wpList_append_own_at _ rfl (.tmp 33) (.tmp 36) 43 rfl w2.heap.size 47 i0 _ 2 32 Try.underlying43 hi0 hz0 hz1 hz2 rfl (by decide) (.slice (some ⟨w2.heap.size, 0, none⟩) 0 0) 0 [] rfl HE1.out ⟨b1, o1, none⟩ k c1 (prv (l1.take k)) rfl TK (fun j u hj => cell_below KE1.out (SRC.out j u hj)) (prv_one _) (by unfold maxLen; omega) (by omega) KE1.out.size ?_)
    intro v1 w4 ho1 hg4 _ hat4
    have K4 : Hid (Below w2.heap.size w2 w4) := KE1.out.trans ((Below.refl w2.heap.size E1).grown hg4 KE1.out.size (fun j hj => by cases hj; exact Nat.le_refl _))
    rw [Nat.zero_add, List.nil_append] at ho1
    have HO1 := Lib.hid ho1
    clear hg4 ho1 hat4
    go_wp2_with fail
    refine ⟨cell_below K4.out r1, ?_⟩
    refine wpT_do ?_
    refine (wpList_append_own_at _ rfl (.tmp 37) (.tmp 41) 43 rfl w2.heap.size 47 i0 _ 2 32 Try.underlying43 hi0 hz0 hz1 hz2 rfl (by decide) v1 k (prv (l1.take k)) rfl HO1.out ad3 (l1.length - (k + 1)) (c1 - (k + 1)) (prv (l1.drop (k + 1))) (by first | rfl | (simp only [← had3]; rfl)) TD3 (fun j u hj => cell_below K4.out (RC3h.out j u hj)) (prv_one _) (by unfold maxLen; omega) (by omega) K4.out.size ?_)
    intro v3 w5 ho3 hg5 _ hat5
    have K5 : Hid (Below w2.heap.size w2 w5) := K4.out.trans ((Below.refl w2.heap.size w4).grown hg5 K4.out.size (fun j hj => (HO1.out.lt j hj).1))
    obtain ⟨Al, cl, rfl, HL⟩ : ∃ A c, v3 = .slice A nl.length c ∧ Hid (LfRd w5 ⟨id1, nl, A, c⟩) := by
      rw [← prv_append, ← NL.out] at ho3
      obtain ⟨A, c, e1, e2⟩ := lf_own ho3 id1
      exact ⟨A, c, e1, e2⟩
    have B5 : Hid (Below w.heap.size w w5) := Q2.out.trans (K5.out.mono Q2.out.size)
    have S5 := H0.out.below B5.out
    have c1g := cell_below K5.out r1; have u1g := cell_below K5.out r2
    have f1 := S5.row_free (i * 2 + 1)
    have hx : id1 = L[i].id := by rw [← HY.out]
    have S6 : ShO (w5.setCell ⟨b, i * 2 + 1, none⟩ (.slice Al nl.length cl)) base gs gj (.slice (some ⟨b, 0, none⟩) L.length cap) (L.set i ⟨id1, nl, Al, cl⟩) := S5.setLeaf hiL ⟨id1, nl, Al, cl⟩ hx HL.out
    obtain ⟨v0, hv0⟩ : ∃ q, q = Value.slice (some ⟨b, 0, none⟩) L.length cap := ⟨_, rfl⟩
    have T6 : Hid (Touch (fun k => k = gs ∨ v0.ownBlock = some k) w (w5.setCell ⟨b, i * 2 + 1, none⟩ (.slice Al nl.length cl))) := (Touch.of_below B5.out : Touch (fun k => k = gs ∨ v0.ownBlock = some k) w w5).setCell (p := ⟨b, i * 2 + 1, none⟩) (.inl (.inr (by rw [hv0]; rfl))) _
    have SH6 : Hid (shP (L.set i ⟨id1, nl, Al, cl⟩) = setL (shP L) i nl) := shP_set L i ⟨id1, nl, Al, cl⟩ hiL hx
    have S6h := Lib.hid S6
    rw [nll] at S6h T6
    have HNL := Lib.hid nll
    clear hg5 ho3 hat5 S5 S6 c1d u1d hx
    go_wp2_with fail
    refine ⟨c1g, ?_⟩
    repeat (refine wpT_dry (fun K hK => ?_); go_simp; refine hK _ ?_; clear hK K)
    refine wpT_tail ?_
    refine wpE_do ?_
    go_wp2_with fail
    refine ⟨trivial, ?_⟩
    refine wpE_nil ?_
    obtain ⟨w6, hw6⟩ : ∃ q, q = w5.setCell ⟨b, i * 2 + 1, none⟩ (.slice Al (l1.length - 1) cl) := ⟨_, rfl⟩
    rw [← hw6] at S6h T6 ⊢
    clear hw6 c1g u1g f1 nll
    by_cases hone : l1.length = 1
    · have d1 : ((l1.length : Int) == 1) = true := by rw [hone]; rfl
      have d1' : (l1.length == 1) = true := by rw [hone]; rfl
      have PE2 : Hid (pa = (true, stepsT ((shP L).take i ++ (shP L).drop (i + 1)) (i : Nat) 2)) := by unfold Hid; rw [PE.out, if_pos hone]
      obtain ⟨L4, hL4⟩ : ∃ q, q = L.set i ⟨id1, nl, Al, cl⟩ := ⟨_, rfl⟩
      have len4 : L4.length = L.length := by rw [hL4, List.length_set]
      rw [← hL4, ← len4] at S6h
      have c1h : w6.drew.cell? ⟨gs, 1, none⟩ = some (.slice (some ⟨b, 0, none⟩) L.length cap) := by
        have := blk_cell S6h.out.box 1
        rw [len4] at this
        exact this
      obtain ⟨i1, hi1, hy0, hy1, hy2⟩ := info_parts infoLf
      have SD := S6h.out.below (Below.refl _ w6).drew
      obtain ⟨ad2, hA2, RW3⟩ := lr_from SD.row (i + 1) (by omega)
      have RW3h := Lib.hid RW3
      have RW1 : Hid (∀ j u, (lvv (L4.take i))[j]? = some u → w6.drew.cell? ((⟨b, 0, none⟩ : Addr).add j) = some u) := lr_cells0 SD.row i
      have LW1 : (lvv (L4.take i)).length = i * 2 := by rw [lvv_len, List.length_take]; omega
      have LW2 : (lvv (L4.drop (i + 1))).length = (L.length - (i + 1)) * 2 := by rw [lvv_len, List.length_drop, len4]
      have hii2 : (i : Int) + 1 ≤ (L.length : Int) := by omega
      have hii3 : (0 : Int) ≤ (i : Int) + 1 := by omega
      have hii4 : ((i : Int) + 1).toNat = i + 1 := by omega
      have hii5 : IntKind.i64.wrap ((i : Int) + 1) = (i : Int) + 1 := by rw [IntKind.wrap_i64]; omega
      have hi7 : (i : Int) ≤ (L.length : Int) := by omega
      have hi8 : (i : Int) ≤ (cap : Int) := by omega
      have hone' : Hid (l1.length = 1) := hone
      have HPk := Lib.hid hk
      clear RW3 SD hone hk
      go_wp2_with fail
      refine wp_region_tail (fun w' => w'.cell? ⟨gs, 1, none⟩ = some (.slice (some ⟨b, 0, none⟩) L.length cap)) [(0, 1), (1, 1), (2, 1), (3, 1), (5, 1), (6, 1), (8, 1), (9, 1), (10, 1), (12, 1), (13, 1), (4, 2), (7, 1), (11, 0), (14, 1), (15, 0), (16, 1), (17, 1)] [18] (by kernel_rfl) (by kernel_rfl) c1h ?_
      repeat (refine wpT_dry (fun K hK => ?_); go_simp; refine hK _ ?_; clear hK K)
      refine wpT_read (.slice (some ⟨b, 0, none⟩) L.length cap) rfl (fun w' hS => by go_simp) (fun K hK => ?_)
      go_simp
      refine hK _ ?_
      clear hK K
      repeat (refine wpT_dry (fun K hK => ?_); go_simp; refine hK _ ?_; clear hK K)
      refine wpT_do ?_
      go_wp2_with fail
      refine ⟨c1h, ?_⟩
      repeat (refine wpT_dry (fun K hK => ?_); go_simp; refine hK _ ?_; clear hK K)
      try rw [hA2]
      refine wpT_do ?_
      refine (wpList_append_full _ rfl (.tmp 55) (.tmp 62) 83 rfl 82 i1 _ 2 32 Try.underlying83 hi1 hy0 hy1 hy2 rfl (by decide) ⟨b, 0, none⟩ i i (Nat.le_refl _) (lvv (L4.take i)) rfl LW1 RW1.out ad2 (L.length - (i + 1)) (cap - (i + 1)) (lvv (L4.drop (i + 1))) (by first | rfl | (simp only [← hA2]; rfl)) LW2 RW3h.out (by unfold maxLen; omega) (by omega) (Nat.le_refl _) ?_)
      intro v7 w7 gr7 r7
      obtain ⟨LR7, OB7⟩ := lrow_full (w := w6.drew) (w' := w7) (S6h.out.below (Below.refl _ w6).drew).row (n := i) (by omega) (Nat.le_trans hbs T6.out.size) (m := L.length - (i + 1)) (M := L4.drop (i + 1)) (by rw [List.length_drop, len4]) r7
      have B7 : Below w6.heap.size w6 w7 := ((Below.refl w6.heap.size w6).drew).grown gr7 (Nat.le_refl _) (fun j hj => by cases hj)
      have S7 := S6h.out.below B7
      have c1i : w7.cell? ⟨gs, 1, none⟩ = some (.slice (some ⟨b, 0, none⟩) L.length cap) := cell_below B7 c1h
      have f2 : w7.frozen? ⟨gs, 1, none⟩ = false := blk_free S7.box 1
      obtain ⟨L8, hL8⟩ : ∃ x, x = L4.take i ++ L4.drop (i + 1) := ⟨_, rfl⟩
      have eL8 : L8 = L.take i ++ L.drop (i + 1) := by
        rw [hL8, hL4, List.take_set_of_le (Nat.le_refl _), List.drop_set_of_lt (Nat.lt_succ_self _)]
      have M8 : ∀ x ∈ L8, x ∈ L4 := fun x hx => by
        rw [hL8] at hx
        rcases List.mem_append.1 hx with hx | hx
        · exact List.mem_of_mem_take hx
        · exact List.mem_of_mem_drop hx
      rw [← hL8] at LR7
      obtain ⟨A7, n7, c7, rfl⟩ : ∃ A n c, v7 = .slice A n c := by
        rcases LR7 with ⟨e, _⟩ | ⟨g, cp, _, e, _⟩
        · exact ⟨none, 0, 0, e⟩
        · exact ⟨_, _, _, e⟩
      have S8 := Lib.hid (S7.setRow LR7 (fun x hx => S7.rd x (M8 x hx)))
      have G8 : Hid (Good L8) := fun x hx => by
        rw [eL8] at hx
        rcases List.mem_append.1 hx with hx | hx
        · exact HG.out x (List.mem_of_mem_take hx)
        · exact HG.out x (List.mem_of_mem_drop hx)
      have SH8 : Hid (shP L8 = (shP L).take i ++ (shP L).drop (i + 1)) := by unfold Hid; rw [eL8]; simp [shP, List.map_take, List.map_drop]
      have len8 : L8.length ≤ 50000 := by rw [eL8, List.length_append, List.length_take, List.length_drop]; omega
      have T8 : Hid (Touch (fun k => k = gs ∨ v0.ownBlock = some k) w (w7.setCell ⟨gs, 1, none⟩ (.slice A7 n7 c7))) := (T6.out.trans (Touch.of_below B7 : Touch (fun _ => False) w6 w7) (fun _ _ x => x.elim)).setCell (p := ⟨gs, 1, none⟩) (.inl (.inl rfl)) _
      have OB8 : Hid (∀ k, (Value.slice A7 n7 c7).ownBlock = some k → v0.ownBlock = some k ∨ w.heap.size ≤ k) := fun k' hk' => by
        rcases OB7 with e | ⟨q, e, hq⟩
        · rw [e] at hk'; cases hk'; exact .inl (by rw [hv0]; rfl)
        · rw [e] at hk'; cases hk'
          exact .inr (Nat.le_trans T6.out.size hq)
      have TD := Lib.hid (tidy_any _ base gs gj _ _ S8.out G8.out (by omega) (Nat.le_trans hbs T8.out.size) i (by omega))
      clear gr7 r7 LR7 OB7 B7 S7 hL8 eL8 M8 len8 S6h RW1 RW3h LW1 LW2 hA2
      go_wp2_with fail
      refine ⟨c1i, ?_⟩
      repeat (refine wpT_dry (fun K hK => ?_); go_simp; refine hK _ ?_; clear hK K)
      refine wpT_tail ?_
      refine wpE_do ?_
      go_wp2_with fail
      refine ⟨trivial, ?_⟩
      refine wpE_nil ?_
      go_wp2_with fail
      refine TD.out.mono ?_
      rintro e w9 ⟨rfl, v9, L9, r9⟩
      have R9 := Lib.hid r9
      clear r9 TD
      go_wp2
      go_ret
      obtain ⟨s9, h9, g9, t9, o9⟩ := R9.out
      refine ⟨by rw [PE2.out]; rfl, v9, L9, s9, by rw [h9, SH8.out, PE2.out], g9, ?_, fun k hk => ?_⟩
      · rw [← hv0]
        refine T8.out.trans t9 (fun k hk h => ?_)
        rcases h with h | h
        · exact .inl h
        · rcases OB8.out k h with h | h
          · exact .inr h
          · omega
      · rw [← hv0]
        rcases o9 k hk with h | h
        · exact OB8.out k h
        · exact .inr (by have := T8.out.size; omega)
    · have d1 : ((l1.length : Int) == 1) = false := by rw [beq_eq_false_iff_ne]; omega
      have d1' : (l1.length == 1) = false := by rw [beq_eq_false_iff_ne]; exact hone
      have PE2 : Hid (pa = (true, stepsT (setL (shP L) i nl) (i : Nat) 2)) := by unfold Hid; rw [PE.out, if_neg hone]
      have G6 : Good (L.set i ⟨id1, nl, Al, cl⟩) := fun y hy => by
        rcases List.mem_or_eq_of_mem_set hy with hy | rfl
        · exact HG.out y hy
        · exact ⟨NZ.out, by show 0 < nl.length; rw [HNL.out]; omega⟩
      have TD := Lib.hid (tidy_any _ base gs gj _ _ S6h.out G6 (by rw [List.length_set]; omega) (Nat.le_trans hbs T6.out.size) i (by omega))
      clear G6
      go_wp2_with fail
      refine TD.out.mono ?_
      rintro e w9 ⟨rfl, v9, L9, r9⟩
      have R9 := Lib.hid r9
      clear r9 TD
      go_wp2
      go_ret
      obtain ⟨s9, h9, g9, t9, o9⟩ := R9.out
      refine ⟨by rw [PE2.out]; rfl, v9, L9, s9, by rw [h9, SH6.out, PE2.out], g9, by rw [← hv0] at t9 ⊢; exact T6.out.trans t9 (fun _ _ h => h), fun k hk => ?_⟩
      rcases o9 k hk with h | h
      · exact .inl h
      · exact .inr (by have := T6.out.size; omega)
end Go.Proofs.Ytoolkamajlgcbaa
/- ShV: plain laws of a shelf's leaves: what Put and Drop keep, and when there is room. -/
set_option linter.unusedVariables false
set_option linter.unusedSimpArgs false
namespace Go.Proofs.Ytoolkamajlgcbaa
open Go.RowKit

/-! Numbers. -/
theorem gd_take (l : List Nat) (j k : Nat) : (l.take j).getD k 0 = if k < j then l.getD k 0 else 0 := by
  rw [List.getD_eq_getElem?_getD, List.getElem?_take]
  split
  · rw [List.getD_eq_getElem?_getD]
  · rfl
theorem gd_drop (l : List Nat) (j k : Nat) : (l.drop j).getD k 0 = l.getD (j + k) 0 := by
  rw [List.getD_eq_getElem?_getD, List.getElem?_drop, List.getD_eq_getElem?_getD]
theorem gd_out {l : List Nat} {k : Nat} (h : l.length ≤ k) : l.getD k 0 = 0 := by
  rw [List.getD_eq_getElem?_getD, List.getElem?_eq_none h]; rfl
theorem gd_app (a b : List Nat) (k : Nat) : (a ++ b).getD k 0 = if k < a.length then a.getD k 0 else b.getD (k - a.length) 0 := by
  rw [List.getD_eq_getElem?_getD, List.getElem?_append]
  split <;> rw [List.getD_eq_getElem?_getD]
theorem gd_cons (x : Nat) (b : List Nat) (k : Nat) : (x :: b).getD k 0 = if k = 0 then x else b.getD (k - 1) 0 := by
  cases k with
  | zero => rfl
  | succ k => rw [if_neg (by omega)]; rfl
def mergeZ (l : List Nat) (j : Nat) : List Nat := l.take j ++ ((l.getD j 0 + l.getD (j + 1) 0) :: l.drop (j + 2))
theorem mergeZ_len {l : List Nat} {j : Nat} (h : j + 1 < l.length) : (mergeZ l j).length = l.length - 1 := by
  unfold mergeZ
  rw [List.length_append, List.length_cons, List.length_take, List.length_drop]
  omega
theorem mergeZ_get {l : List Nat} {j : Nat} (h : j + 1 < l.length) (k : Nat) : (mergeZ l j).getD k 0 = if k < j then l.getD k 0 else if k = j then l.getD j 0 + l.getD (j + 1) 0 else l.getD (k + 1) 0 := by
  unfold mergeZ
  have e : (l.take j).length = j := by rw [List.length_take]; omega
  rw [gd_app, e]
  split
  · rw [gd_take, if_pos (by assumption)]
  · rw [gd_cons]
    split
    · rw [if_pos (by omega)]
    · rw [if_neg (by omega), gd_drop]
      congr 1
      omega
theorem sum_app (a b : List Nat) : (a ++ b).sum = a.sum + b.sum := List.sum_append
theorem sum_at {l : List Nat} {j : Nat} (h : j < l.length) : l.sum = (l.take j).sum + l.getD j 0 + (l.drop (j + 1)).sum := by
  have e : l = l.take j ++ (l[j] :: l.drop (j + 1)) := by rw [List.getElem_cons_drop, List.take_append_drop]
  have e2 : l.getD j 0 = l[j] := by rw [List.getD_eq_getElem?_getD, List.getElem?_eq_getElem h]; rfl
  rw [e2]
  conv => lhs; rw [e]
  rw [sum_app, List.sum_cons]
  omega
theorem mergeZ_sum {l : List Nat} {j : Nat} (h : j + 1 < l.length) : (mergeZ l j).sum = l.sum := by
  have e1 := sum_at (l := l) (j := j) (by omega)
  have e2 := sum_at (l := l.drop (j + 1)) (j := 0) (by rw [List.length_drop]; omega)
  rw [List.drop_drop, gd_drop, List.take_zero, List.sum_nil] at e2
  unfold mergeZ
  rw [sum_app, List.sum_cons]
  simp only [Nat.add_zero] at e2
  rw [show j + 1 + (0 + 1) = j + 2 by omega] at e2
  omega
/-- No two side by side are together at most 1020, but may be at two places. -/
def Two (l : List Nat) (e f : Int) : Prop := ∀ k : Nat, k + 1 < l.length → (k : Int) ≠ e → (k : Int) ≠ f → 1020 < l.getD k 0 + l.getD (k + 1) 0
theorem two_merge {l : List Nat} {e : Int} {j : Nat} (h : Two l e j) (hj : j + 1 < l.length) (he : e < j) : Two (mergeZ l j) e (-9) := by
  intro k hk hke _
  rw [mergeZ_len hj] at hk
  rw [mergeZ_get hj, mergeZ_get hj]
  rcases Nat.lt_trichotomy k j with hlt | heq | hgt
  · have q := h k (by omega) hke (by omega)
    rw [if_pos hlt]
    by_cases e1 : k + 1 < j
    · rw [if_pos e1]; exact q
    · rw [if_neg e1, if_pos (by omega)]
      rw [show k + 1 = j by omega] at q
      omega
  · subst heq
    have q := h (k + 1) (by omega) (by omega) (by omega)
    rw [if_neg (by omega), if_pos rfl, if_neg (by omega), if_neg (by omega)]
    omega
  · have q := h (k + 1) (by omega) (by omega) (by omega)
    rw [if_neg (by omega), if_neg (by omega), if_neg (by omega), if_neg (by omega)]
    exact q
theorem run_sum : ∀ (l : List Nat), (∀ k, k + 1 < l.length → 1020 < l.getD k 0 + l.getD (k + 1) 0) → 1021 * (l.length / 2) ≤ l.sum
  | [], _ => by simp
  | [x], _ => by simp
  | x :: y :: r, h => by
    have h0 := h 0 (by simp)
    have ih := run_sum r (fun k hk => by
      have := h (k + 2) (by simp; omega)
      simpa [gd_cons] using this)
    simp only [List.getD_cons_zero, List.getD_cons_succ, Nat.zero_add] at h0
    simp only [List.length_cons, List.sum_cons]
    rw [show (r.length + 1 + 1) / 2 = r.length / 2 + 1 by omega]
    omega
/-- Where one of m leaves would have over 1020, and no two others side by side fit, all have more than 510 times less one. -/
theorem room_sum {l : List Nat} {i z : Nat} (h : Two l (-9) (-9)) (hi : i < l.length) (hz : 1020 < z) : 510 * (l.length - 1) < (l.take i).sum + z + (l.drop (i + 1)).sum := by
  have h1 := run_sum (l.take i) (fun k hk => by
    rw [List.length_take] at hk
    rw [gd_take, gd_take, if_pos (by omega), if_pos (by omega)]
    exact h k (by omega) (by omega) (by omega))
  have h2 := run_sum (l.drop (i + 1)) (fun k hk => by
    rw [List.length_drop] at hk
    rw [gd_drop, gd_drop]
    exact h (i + 1 + k) (by omega) (by omega) (by omega))
  rw [List.length_take] at h1
  rw [List.length_drop] at h2
  rw [show min i l.length = i by omega] at h1
  omega
theorem many_ids : ∀ (n : Nat) (l : List Nat), (∀ i, 1 ≤ i → i ≤ n → i ∈ l) → n ≤ l.length
  | 0, _, _ => Nat.zero_le _
  | n + 1, l, h => by
    have hm : n + 1 ∈ l := h (n + 1) (by omega) (Nat.le_refl _)
    have := many_ids n (l.erase (n + 1)) (fun i h1 h2 => (List.mem_erase_of_ne (by omega)).2 (h i h1 (by omega)))
    rw [List.length_erase_of_mem hm] at this
    have : 0 < l.length := List.length_pos_of_mem hm
    omega
/-! Leaves. -/
def zs (sh : List (Nat × PL)) : List Nat := sh.map (fun x => szL x.2)
theorem zs_len (sh : List (Nat × PL)) : (zs sh).length = sh.length := List.length_map ..
theorem zs_get (sh : List (Nat × PL)) (k : Nat) : (zs sh).getD k 0 = szL (lfA sh k) := by
  unfold zs lfA
  rw [List.getD_eq_getElem?_getD, List.getElem?_map, List.getD_eq_getElem?_getD]
  cases sh[k]? with
  | none => rfl
  | some x => rfl
theorem zs_sizS (sh : List (Nat × PL)) : sizS sh sh.length = (zs sh).sum := by
  have key : ∀ n, sizS sh n = ((zs sh).take n).sum := by
    intro n
    induction n with
    | zero => rfl
    | succ n ih =>
      rw [sizS, ih, ← zs_get]
      by_cases h : n < (zs sh).length
      · rw [List.take_succ_eq_append_getElem h, sum_app, List.sum_singleton, List.getD_eq_getElem?_getD, List.getElem?_eq_getElem h]; rfl
      · rw [gd_out (by omega), List.take_of_length_le (by omega), List.take_of_length_le (by omega)]; rfl
  rw [key, List.take_of_length_le (by rw [zs_len]; exact Nat.le_refl _)]
theorem zs_merge (sh : List (Nat × PL)) (j : Nat) : zs (mergeP sh j) = mergeZ (zs sh) j := by
  unfold mergeP mergeZ
  rw [zs_get, zs_get, ← szL_app]
  simp [zs, List.map_take, List.map_drop]
theorem zs_setL (sh : List (Nat × PL)) (i : Nat) (l : PL) : zs (setL sh i l) = (zs sh).set i (szL l) := by
  unfold zs setL; rw [List.map_set]
/-- An entry that may be. -/
def EntOK (p : ByteArray × ByteArray) : Prop := 1 ≤ p.1.size ∧ p.1.size ≤ 64 ∧ p.2.size ≤ 400
theorem EntOK.sz {p : ByteArray × ByteArray} (h : EntOK p) : szP p ≤ 467 := by unfold szP; obtain ⟨_, h1, h2⟩ := h; omega
/-- A leaf that may be. -/
def LfOK (x : Nat × PL) : Prop := szL x.2 ≤ 1020 ∧ 0 < x.2.length ∧ (∀ p ∈ x.2, EntOK p) ∧ x.1 ≤ 1000
def GoodS (sh : List (Nat × PL)) : Prop := ∀ x ∈ sh, LfOK x
theorem lf_mem {sh : List (Nat × PL)} {k : Nat} (h : k < sh.length) : ((sh.getD k (0, [])).1, lfA sh k) ∈ sh := by
  have e : sh.getD k (0, []) = sh[k] := by rw [List.getD_eq_getElem?_getD, List.getElem?_eq_getElem h]; rfl
  unfold lfA
  rw [e]
  exact List.getElem_mem h
theorem goodS_merge {sh : List (Nat × PL)} {k : Nat} (h : GoodS sh) (hk : k + 1 < sh.length) (hf : szL (lfA sh k) + szL (lfA sh (k + 1)) ≤ 1020) : GoodS (mergeP sh k) := by
  intro x hx
  unfold mergeP at hx
  rcases List.mem_append.1 hx with hx | hx
  · rcases List.mem_append.1 hx with hx | hx
    · exact h x (List.mem_of_mem_take hx)
    · rw [List.mem_singleton] at hx
      subst hx
      have h1 := h _ (lf_mem (show k < sh.length by omega))
      have h2 := h _ (lf_mem hk)
      refine ⟨by show szL (lfA sh k ++ lfA sh (k + 1)) ≤ 1020; rw [szL_app]; exact hf, ?_, fun p hp => ?_, h1.2.2.2⟩
      · show 0 < (lfA sh k ++ lfA sh (k + 1)).length
        have := h1.2.1
        simp only [List.length_append] at this ⊢
        omega
      · rcases List.mem_append.1 hp with hp | hp
        · exact h1.2.2.1 p hp
        · exact h2.2.2.1 p hp
  · exact h x (List.mem_of_mem_drop hx)
theorem t1_inv {sh : List (Nat × PL)} {e kk : Int} (hg : GoodS sh) (h2 : Two (zs sh) e kk) (he : e < kk) : GoodS (t1 sh kk) ∧ Two (zs (t1 sh kk)) e (-9) ∧ (zs (t1 sh kk)).sum = (zs sh).sum := by
  by_cases h : Fits sh kk
  · obtain ⟨k, rfl, hk, hf⟩ := id h
    rw [t1_on h, zs_merge]
    exact ⟨goodS_merge hg hk hf, two_merge h2 (by rw [zs_len]; exact hk) he, mergeZ_sum (by rw [zs_len]; exact hk)⟩
  · rw [t1_off h]
    refine ⟨hg, fun k hk h1 _ => ?_, rfl⟩
    by_cases hkk : (k : Int) = kk
    · subst hkk
      rw [zs_len] at hk
      rw [zs_get, zs_get]
      rcases Nat.lt_or_ge 1020 (szL (lfA sh k) + szL (lfA sh (k + 1))) with q | q
      · exact q
      · exact absurd ⟨k, rfl, hk, q⟩ h
    · exact h2 k hk h1 hkk
theorem Two.weak {l : List Nat} {e f e' f' : Int} (h : Two l e f) (h1 : ∀ k : Nat, (k : Int) ≠ e' → (k : Int) ≠ f' → (k : Int) ≠ e ∧ (k : Int) ≠ f) : Two l e' f' := fun k hk a b => h k hk (h1 k a b).1 (h1 k a b).2
/-- tidy mends what lies at i and i - 1. -/
theorem tidy_inv {sh : List (Nat × PL)} {i : Nat} (hg : GoodS sh) (h2 : Two (zs sh) ((i : Int) - 1) i) : GoodS (stepsT sh i 2) ∧ Two (zs (stepsT sh i 2)) (-9) (-9) ∧ (zs (stepsT sh i 2)).sum = (zs sh).sum := by
  show GoodS (t1 (t1 sh ((i : Int) - (0 : Nat))) ((i : Int) - (1 : Nat))) ∧ Two (zs (t1 (t1 sh ((i : Int) - (0 : Nat))) ((i : Int) - (1 : Nat)))) (-9) (-9) ∧ (zs (t1 (t1 sh ((i : Int) - (0 : Nat))) ((i : Int) - (1 : Nat)))).sum = (zs sh).sum
  rw [show (i : Int) - (0 : Nat) = (i : Int) by omega, show (i : Int) - (1 : Nat) = (i : Int) - 1 by omega]
  obtain ⟨a1, a2, a3⟩ := t1_inv hg h2 (by omega)
  obtain ⟨b1, b2, b3⟩ := t1_inv (e := -9) (kk := (i : Int) - 1) a1 (a2.weak (fun k h1 h2 => ⟨h2, h1⟩)) (by omega)
  exact ⟨b1, b2, by rw [b3, a3]⟩
/-- tidy of the leaf behind keeps what lies at i - 1. -/
theorem tidy_inv2 {sh : List (Nat × PL)} {i : Nat} (hg : GoodS sh) (h2 : Two (zs sh) ((i : Int) - 1) ((i : Int) + 1)) : GoodS (stepsT sh ((i + 1 : Nat) : Int) 2) ∧ Two (zs (stepsT sh ((i + 1 : Nat) : Int) 2)) ((i : Int) - 1) (-9) ∧ (zs (stepsT sh ((i + 1 : Nat) : Int) 2)).sum = (zs sh).sum := by
  show GoodS (t1 (t1 sh (((i + 1 : Nat) : Int) - (0 : Nat))) (((i + 1 : Nat) : Int) - (1 : Nat))) ∧ Two (zs (t1 (t1 sh (((i + 1 : Nat) : Int) - (0 : Nat))) (((i + 1 : Nat) : Int) - (1 : Nat)))) ((i : Int) - 1) (-9) ∧ (zs (t1 (t1 sh (((i + 1 : Nat) : Int) - (0 : Nat))) (((i + 1 : Nat) : Int) - (1 : Nat)))).sum = (zs sh).sum
  rw [show ((i + 1 : Nat) : Int) - (0 : Nat) = (i : Int) + 1 by omega, show ((i + 1 : Nat) : Int) - (1 : Nat) = (i : Int) by omega]
  obtain ⟨a1, a2, a3⟩ := t1_inv hg h2 (by omega)
  obtain ⟨b1, b2, b3⟩ := t1_inv (e := (i : Int) - 1) (kk := (i : Int)) a1 (a2.weak (fun k h1 h2 => ⟨h1, by omega⟩)) (by omega)
  exact ⟨b1, b2, by rw [b3, a3]⟩
theorem mem_setL {sh : List (Nat × PL)} {i : Nat} {l : PL} {x : Nat × PL} (h : x ∈ setL sh i l) : x ∈ sh ∨ x = ((sh.getD i (0, [])).1, l) := List.mem_or_eq_of_mem_set h
theorem gd_set (l : List Nat) (i z k : Nat) (h : k ≠ i) : (l.set i z).getD k 0 = l.getD k 0 := by
  rw [List.getD_eq_getElem?_getD, List.getElem?_set_ne (by omega), List.getD_eq_getElem?_getD]
theorem two_set {l : List Nat} {i z : Nat} (h : Two l (-9) (-9)) : Two (l.set i z) ((i : Int) - 1) i := fun k hk h1 h2 => by
  rw [List.length_set] at hk
  rw [gd_set _ _ _ _ (by omega), gd_set _ _ _ _ (by omega)]
  exact h k hk (by omega) (by omega)
theorem set_sum {l : List Nat} {i z : Nat} (hi : i < l.length) : (l.set i z).sum = (l.take i).sum + z + (l.drop (i + 1)).sum := by
  have e := sum_at (l := l.set i z) (j := i) (by rw [List.length_set]; exact hi)
  rw [List.take_set_of_le (Nat.le_refl _), List.drop_set_of_lt (Nat.lt_succ_self _)] at e
  rw [e, List.getD_eq_getElem?_getD, List.getElem?_set_self hi]
  rfl
theorem hit_split {sh : List (Nat × PL)} {i k : Nat} {a v : ByteArray} (h : hitK sh i k a = some v) : k < (lfA sh i).length ∧ lfA sh i = (lfA sh i).take k ++ ((a, v) :: (lfA sh i).drop (k + 1)) := by
  unfold hitK at h
  by_cases hk : k < (lfA sh i).length
  · rw [dif_pos hk] at h
    by_cases he : (lfA sh i)[k].1 = a
    · rw [if_pos he] at h
      have e : (lfA sh i)[k] = (a, v) := by
        cases h
        rw [← he]
      refine ⟨hk, ?_⟩
      rw [← e, List.getElem_cons_drop, List.take_append_drop]
    · rw [if_neg he] at h; cases h
  · rw [dif_neg hk] at h; cases h
/-- The size of what a key has. -/
def oldZ (sh : List (Nat × PL)) (a : ByteArray) : Nat := match getK sh a with | some v => szP (a, v) | none => 0
theorem szL_cons (p : ByteArray × ByteArray) (l : PL) : szL (p :: l) = szP p + szL l := by
  have := szL_app [p] l
  rw [List.singleton_append] at this
  rw [this]
  show 0 + szP p + szL l = szP p + szL l
  omega
theorem newL_sz (sh : List (Nat × PL)) (a x : ByteArray) : szL (newL sh a x) + oldZ sh a = szL (lfA sh (fI sh a)) + szP (a, x) := by
  unfold newL restP oldZ
  rw [szL_app, szL_append]
  cases h : getK sh a with
  | none =>
    have q := szL_app ((lfA sh (fI sh a)).take (fK sh a)) ((lfA sh (fI sh a)).drop (fK sh a))
    rw [List.take_append_drop] at q
    show szL _ + szP (a, x) + szL ((lfA sh (fI sh a)).drop (fK sh a)) + 0 = _
    omega
  | some v =>
    obtain ⟨hk, e⟩ := hit_split h
    have q := congrArg szL e
    rw [szL_app, szL_cons] at q
    show szL _ + szP (a, x) + szL ((lfA sh (fI sh a)).drop (fK sh a + 1)) + szP (a, v) = _
    omega
theorem newL_mem {sh : List (Nat × PL)} {a x : ByteArray} {p : ByteArray × ByteArray} (h : p ∈ newL sh a x) : p ∈ lfA sh (fI sh a) ∨ p = (a, x) := by
  unfold newL restP at h
  rcases List.mem_append.1 h with h | h
  · rcases List.mem_append.1 h with h | h
    · exact .inl (List.mem_of_mem_take h)
    · rw [List.mem_singleton] at h; exact .inr h
  · left
    split at h <;> exact List.mem_of_mem_drop h
theorem newL_pos (sh : List (Nat × PL)) (a x : ByteArray) : 0 < (newL sh a x).length := by
  unfold newL
  simp only [List.length_append, List.length_singleton]
  omega
/-- Where a leaf that is too big is cut. -/
theorem cut_ok {l : PL} (hz : 1020 < szL l) (he : ∀ p ∈ l, EntOK p) : 0 < cutA l ∧ cutA l < l.length ∧ 507 ≤ szL (l.take (cutA l)) ∧ szL (l.take (cutA l)) ≤ 973 := by
  have key : ∀ f c, f + c = l.length → szL (l.take c) ≤ 973 → 507 ≤ szL (l.take (cutF l f c)) ∧ szL (l.take (cutF l f c)) ≤ 973 := by
    intro f
    induction f with
    | zero =>
      intro c hc h
      rw [List.take_of_length_le (by omega)] at h
      omega
    | succ f ih =>
      intro c hc h
      rw [cutF]
      split
      · rename_i hlt
        refine ih (c + 1) (by omega) ?_
        have hcl : c < l.length := by omega
        rw [List.take_succ_eq_append_getElem hcl, szL_append]
        have := (he l[c] (List.getElem_mem _)).sz
        omega
      · omega
  obtain ⟨h1, h2⟩ := key l.length 0 (by omega) (by rw [List.take_zero]; decide)
  have h1 : 507 ≤ szL (l.take (cutA l)) := h1
  have h2 : szL (l.take (cutA l)) ≤ 973 := h2
  refine ⟨?_, ?_, h1, h2⟩
  · rcases Nat.eq_zero_or_pos (cutA l) with h | h
    · rw [h, List.take_zero] at h1
      exact absurd h1 (by decide)
    · exact h
  · rcases Nat.lt_or_ge (cutA l) l.length with h | h
    · exact h
    · rw [List.take_of_length_le h] at h2
      omega
theorem spareA_full {sh : List (Nat × PL)} {P : Nat} (hP : 2 ≤ P) (h : spareA sh P = 0) : P - 1 ≤ sh.length := by
  have hall : ∀ i, i < P → usedA sh sh.length i = true := by
    unfold spareA at h
    cases hf : (List.range P).find? (fun i => !usedA sh sh.length i) with
    | none =>
      intro i hi
      have := List.find?_range_eq_none.1 hf i hi
      simpa using this
    | some k =>
      rw [hf] at h
      have hk : k = 0 := h
      subst hk
      have := (List.find?_range_eq_some.1 hf).1
      simp [usedA] at this
  have := many_ids (P - 1) (sh.map (·.1)) (fun i h1 h2 => by
    have := hall i (by omega)
    unfold usedA at this
    rw [List.take_length] at this
    simp only [Bool.or_eq_true, beq_iff_eq, List.contains_iff_mem] at this
    rcases this with h | h
    · omega
    · exact h)
  rwa [List.length_map] at this
theorem spareA_lt {sh : List (Nat × PL)} {P : Nat} (hP : 2 ≤ P) : spareA sh P < P := by
  unfold spareA
  cases hf : (List.range P).find? (fun i => !usedA sh sh.length i) with
  | none => show 0 < P; omega
  | some k => exact List.mem_range.1 (List.find?_range_eq_some.1 hf).2.1
theorem zs_split (sh : List (Nat × PL)) (i : Nat) (l : PL) (id : Nat) : zs (splitL sh i l id) = (zs sh).take i ++ (szL (l.take (cutA l)) :: szL (l.drop (cutA l)) :: (zs sh).drop (i + 1)) := by
  unfold splitL
  simp [zs, List.map_take, List.map_drop]
/-- What Put keeps, what it adds, and when it finds no room. -/
theorem put_inv {sh : List (Nat × PL)} {P : Nat} {a x : ByteArray} (hg : GoodS sh) (h2 : Two (zs sh) (-9) (-9)) (hP : 2 ≤ P) (hP2 : P ≤ 1000) (ha : EntOK (a, x)) :
    GoodS (putA sh P a x).2 ∧ Two (zs (putA sh P a x).2) (-9) (-9) ∧ (((putA sh P a x).1 = 0 ∧ (zs (putA sh P a x).2).sum + oldZ sh a = (zs sh).sum + szP (a, x)) ∨ ((putA sh P a x).1 = 5 ∧ (putA sh P a x).2 = sh ∧ 510 * (P - 2) + oldZ sh a < (zs sh).sum + szP (a, x))) := by
  unfold putA
  by_cases hsh : sh = []
  · subst hsh
    rw [if_pos rfl]
    have hs := ha.sz
    have e0 : oldZ [] a = 0 := by
      unfold oldZ
      have : getK [] a = none := by unfold getK hitK; rw [dif_neg (by simp [lfA])]
      rw [this]
    refine ⟨fun y hy => ?_, fun k hk _ _ => ?_, .inl ⟨rfl, ?_⟩⟩
    · have hy : y ∈ [(1, [(a, x)])] := hy
      rw [List.mem_singleton] at hy
      subst hy
      refine ⟨?_, by show 0 < 1; omega, fun p hp => ?_, by show 1 ≤ 1000; omega⟩
      · show 0 + szP (a, x) ≤ 1020; omega
      · have hp : p ∈ [(a, x)] := hp
        rw [List.mem_singleton] at hp
        subst hp
        exact ha
    · have hk : k + 1 < 1 := hk
      omega
    · rw [e0]
      show (0 + szP (a, x)) + 0 + 0 = 0 + szP (a, x)
      omega
  · rw [if_neg hsh]
    have hlen : 0 < sh.length := by
      rcases Nat.eq_zero_or_pos sh.length with h | h
      · exact absurd (List.eq_nil_of_length_eq_zero h) hsh
      · exact h
    have hi : fI sh a < sh.length := fI_lt hlen
    have hsz := newL_sz sh a x
    have hmem : ∀ p ∈ newL sh a x, EntOK p := fun p hp => by
      rcases newL_mem hp with h | h
      · exact (hg _ (lf_mem hi)).2.2.1 p h
      · rw [h]; exact ha
    have hpos := newL_pos sh a x
    have hid := (hg _ (lf_mem hi)).2.2.2
    have hat := sum_at (l := zs sh) (j := fI sh a) (by rw [zs_len]; exact hi)
    rw [zs_get] at hat
    generalize newL sh a x = l at hsz hmem hpos ⊢
    generalize fI sh a = i at hi hsz hid hat ⊢
    by_cases hfit : szL l ≤ 1020
    · rw [if_pos hfit]
      have g1 : GoodS (setL sh i l) := fun y hy => by
        rcases mem_setL hy with hy | rfl
        · exact hg y hy
        · exact ⟨hfit, hpos, hmem, hid⟩
      have t := tidy_inv (i := i) g1 (by rw [zs_setL]; exact two_set h2)
      refine ⟨t.1, t.2.1, .inl ⟨rfl, ?_⟩⟩
      show (zs (stepsT (setL sh i l) i 2)).sum + oldZ sh a = _
      rw [t.2.2, zs_setL, set_sum (by rw [zs_len]; exact hi)]
      omega
    · rw [if_neg hfit]
      by_cases hsp : spareA sh P = 0
      · rw [if_pos hsp]
        refine ⟨hg, h2, .inr ⟨rfl, rfl, ?_⟩⟩
        have h1 := spareA_full hP hsp
        have h3 := room_sum (z := szL l) h2 (show i < (zs sh).length by rw [zs_len]; exact hi) (by omega)
        rw [zs_len] at h3
        have : 510 * (P - 2) ≤ 510 * (sh.length - 1) := Nat.mul_le_mul_left _ (by omega)
        omega
      · rw [if_neg hsp]
        have hlt := spareA_lt (sh := sh) hP
        generalize spareA sh P = sp at hsp hlt ⊢
        obtain ⟨c1, c2, c3, c4⟩ := cut_ok (by omega) hmem
        have hcz := szL_app (l.take (cutA l)) (l.drop (cutA l))
        rw [List.take_append_drop] at hcz
        have hbig : szL l ≤ 1487 := by
          have := (hg _ (lf_mem hi)).1
          have := ha.sz
          have q : szL (lfA sh i) ≤ 1020 := (hg _ (lf_mem hi)).1
          omega
        have g1 : GoodS (splitL sh i l sp) := fun y hy => by
          unfold splitL at hy
          rcases List.mem_append.1 hy with hy | hy
          · exact hg y (List.mem_of_mem_take hy)
          rcases List.mem_append.1 hy with hy | hy
          · rcases List.mem_cons.1 hy with rfl | hy
            · exact ⟨by show szL (l.take (cutA l)) ≤ 1020; omega, by show 0 < (l.take (cutA l)).length; rw [List.length_take]; omega, fun p hp => hmem p (List.mem_of_mem_take hp), hid⟩
            · rw [List.mem_singleton] at hy
              subst hy
              exact ⟨by show szL (l.drop (cutA l)) ≤ 1020; omega, by show 0 < (l.drop (cutA l)).length; rw [List.length_drop]; omega, fun p hp => hmem p (List.mem_of_mem_drop hp), by show sp ≤ 1000; omega⟩
          · exact hg y (List.mem_of_mem_drop hy)
        have zl : ((zs sh).take i).length = i := by rw [List.length_take, zs_len]; omega
        have t1' : Two (zs (splitL sh i l sp)) ((i : Int) - 1) ((i : Int) + 1) := fun k hk e1 e2 => by
          rw [zs_split] at hk ⊢
          rw [List.length_append, zl, List.length_cons, List.length_cons, List.length_drop, zs_len] at hk
          rw [gd_app, gd_app, zl]
          rcases Nat.lt_trichotomy k i with h | h | h
          · rw [if_pos h, if_pos (by omega), gd_take, gd_take, if_pos (by omega), if_pos (by omega)]
            exact h2 k (by rw [zs_len]; omega) (by omega) (by omega)
          · subst h
            rw [if_neg (by omega), if_neg (by omega), show k - k = 0 by omega, show k + 1 - k = 1 by omega]
            simp only [List.getD_cons_zero, List.getD_cons_succ]
            omega
          · rw [if_neg (by omega), if_neg (by omega), gd_cons, gd_cons, if_neg (by omega), if_neg (by omega), gd_cons, gd_cons, if_neg (by omega), if_neg (by omega), gd_drop, gd_drop]
            have := h2 (k - 1) (by rw [zs_len]; omega) (by omega) (by omega)
            rw [show i + 1 + (k - i - 1 - 1) = k - 1 by omega, show i + 1 + (k + 1 - i - 1 - 1) = k - 1 + 1 by omega]
            exact this
        have t := tidy_inv2 g1 t1'
        have u := tidy_inv (i := i) t.1 (t.2.1.weak (fun k h1 h2 => ⟨h1, by omega⟩))
        refine ⟨u.1, u.2.1, .inl ⟨rfl, ?_⟩⟩
        show (zs (stepsT (stepsT (splitL sh i l sp) ((i + 1 : Nat) : Int) 2) i 2)).sum + oldZ sh a = _
        rw [u.2.2, t.2.2, zs_split, sum_app, List.sum_cons, List.sum_cons]
        omega
theorem drop_inv {sh : List (Nat × PL)} {a : ByteArray} (hg : GoodS sh) (h2 : Two (zs sh) (-9) (-9)) : GoodS (dropA sh a).2 ∧ Two (zs (dropA sh a).2) (-9) (-9) ∧ (zs (dropA sh a).2).sum + oldZ sh a = (zs sh).sum := by
  unfold dropA
  cases h : getK sh a with
  | none =>
    refine ⟨hg, h2, ?_⟩
    show (zs sh).sum + oldZ sh a = _
    unfold oldZ
    rw [h]
    rfl
  | some v =>
    obtain ⟨hk, he⟩ := hit_split h
    have hi : fI sh a < sh.length := by
      rcases Nat.lt_or_ge (fI sh a) sh.length with h | h
      · exact h
      · rw [lfA_out h] at hk; simp at hk
    have ho : oldZ sh a = szP (a, v) := by unfold oldZ; rw [h]
    rw [ho]
    have hq := congrArg szL he
    rw [szL_app, szL_cons] at hq
    have hat := sum_at (l := zs sh) (j := fI sh a) (by rw [zs_len]; exact hi)
    rw [zs_get] at hat
    have hl := hg _ (lf_mem hi)
    generalize fI sh a = i at hi hk he hq hat hl ⊢
    generalize fK sh a = k at hk he hq ⊢
    rw [if_pos (by rfl)]
    show GoodS (stepsT _ i 2) ∧ Two (zs (stepsT _ i 2)) (-9) (-9) ∧ (zs (stepsT _ i 2)).sum + szP (a, v) = _
    by_cases hone : (lfA sh i).length = 1
    · rw [if_pos hone]
      have g1 : GoodS (sh.take i ++ sh.drop (i + 1)) := fun y hy => by
        rcases List.mem_append.1 hy with hy | hy
        · exact hg y (List.mem_of_mem_take hy)
        · exact hg y (List.mem_of_mem_drop hy)
      have ez : zs (sh.take i ++ sh.drop (i + 1)) = (zs sh).take i ++ (zs sh).drop (i + 1) := by simp [zs, List.map_take, List.map_drop]
      have zl : ((zs sh).take i).length = i := by rw [List.length_take, zs_len]; omega
      have t := tidy_inv (i := i) g1 (fun m hm e1 e2 => by
        rw [ez] at hm ⊢
        rw [List.length_append, zl, List.length_drop, zs_len] at hm
        rw [gd_app, gd_app, zl]
        rcases Nat.lt_or_ge m i with h | h
        · rw [if_pos h, if_pos (by omega), gd_take, gd_take, if_pos (by omega), if_pos (by omega)]
          exact h2 m (by rw [zs_len]; omega) (by omega) (by omega)
        · rw [if_neg (by omega), if_neg (by omega), gd_drop, gd_drop]
          have := h2 (m + 1) (by rw [zs_len]; omega) (by omega) (by omega)
          rw [show i + 1 + (m - i) = m + 1 by omega, show i + 1 + (m + 1 - i) = m + 1 + 1 by omega]
          exact this)
      refine ⟨t.1, t.2.1, ?_⟩
      rw [t.2.2, ez, sum_app]
      have l1 : (lfA sh i).take k = [] ∧ (lfA sh i).drop (k + 1) = [] := by
        constructor
        · rw [show k = 0 by omega]; rfl
        · exact List.drop_eq_nil_of_le (by omega)
      rw [l1.1, l1.2] at hq
      have e0 : szL [] = 0 := rfl
      omega
    · rw [if_neg hone]
      have g1 : GoodS (setL sh i ((lfA sh i).take k ++ (lfA sh i).drop (k + 1))) := fun y hy => by
        rcases mem_setL hy with hy | rfl
        · exact hg y hy
        · refine ⟨?_, ?_, fun p hp => ?_, hl.2.2.2⟩
          · show szL ((lfA sh i).take k ++ (lfA sh i).drop (k + 1)) ≤ 1020
            rw [szL_app]
            have : szL (lfA sh i) ≤ 1020 := hl.1
            omega
          · show 0 < ((lfA sh i).take k ++ (lfA sh i).drop (k + 1)).length
            rw [List.length_append, List.length_take, List.length_drop]
            omega
          · rcases List.mem_append.1 hp with hp | hp
            · exact hl.2.2.1 p (List.mem_of_mem_take hp)
            · exact hl.2.2.1 p (List.mem_of_mem_drop hp)
      have t := tidy_inv (i := i) g1 (by rw [zs_setL]; exact two_set h2)
      refine ⟨t.1, t.2.1, ?_⟩
      rw [t.2.2, zs_setL, set_sum (by rw [zs_len]; exact hi), szL_app]
      omega
end Go.Proofs.Ytoolkamajlgcbaa
/- ShK: the law's lives: a shelf of two entries. -/
set_option linter.unusedVariables false
set_option linter.unusedSimpArgs false
namespace Go.Proofs.Ytoolkamajlgcbaa
open Go.RowKit

theorem lf_one {l : PL} : ∀ i, lfA [(1, l)] i = if i = 0 then l else []
  | 0 => rfl
  | i + 1 => by rw [if_neg (by omega)]; simp [lfA]
theorem one_full {l : PL} (h : 0 < l.length) : Full [(1, l)] := fun i hi => by
  obtain rfl : i = 0 := by simpa using hi
  exact h
theorem one_len {l : PL} (i : Nat) : (lfA [(1, l)] i).length ≤ l.length := by
  rw [lf_one]
  split
  · exact Nat.le_refl _
  · exact Nat.zero_le _
theorem one_tail {l : PL} (i k : Nat) : (tailS [(1, l)] i k).length ≤ l.length := by
  unfold tailS
  rw [lf_one]
  have : ([(1, l)].drop (i + 1)).flatMap (·.2) = [] := by rw [List.drop_eq_nil_of_le (by simp)]; rfl
  rw [this, List.append_nil, List.length_drop]
  split
  · omega
  · simp
theorem two_range {a x b y : ByteArray} (h1 : gtB a a = false) (h2 : geB b a = true) (h3 : geB a a = true) (h4 : gtB a b = false) (h5 : gtB b b = false) : rngR [(1, [(a, x), (b, y)])] a b 1 = [(a, x)] := by
  have e1 : fI [(1, [(a, x), (b, y)])] a = 0 := by
    unfold fI
    rw [show [(1, [(a, x), (b, y)])].length = 1 from rfl, srch, if_pos (by decide), if_neg (by show ¬ gtB a a = true; rw [h1]; decide), srch, if_neg (by decide)]
  have e2 : fK [(1, [(a, x), (b, y)])] a = 0 := by
    unfold fK
    rw [if_neg (by simp), e1]
    show srch (fun k => geB (keyA [(a, x), (b, y)] k) a) 0 2 = 0
    rw [srch, if_pos (by decide), if_pos (by show geB b a = true; exact h2), srch, if_pos (by decide), if_pos (by show geB a a = true; exact h3), srch, if_neg (by decide)]
  unfold rngR
  rw [e1, e2]
  show (rngK b 1 [(a, x), (b, y)] []).1 = [(a, x)]
  unfold rngK
  rw [if_neg (by rw [h4]; simp)]
  unfold rngK
  rw [if_pos (by right; simp)]
  rfl
set_option maxHeartbeats 3200000 in
set_option maxRecDepth 100000 in
theorem slives_any (w : World) : Calls Try.prog 10 #[] w fun e w' => e = .returned (.bool true) ∧ Below w.heap.size w w' := by
  have OP := Lib.hid (sopened_any w 3 (by decide) (by decide))
  obtain ⟨a, ha⟩ : ∃ a : ByteArray, a = { data := #[97] } := ⟨_, rfl⟩
  obtain ⟨x, hx⟩ : ∃ a : ByteArray, a = { data := #[120] } := ⟨_, rfl⟩
  obtain ⟨b, hb⟩ : ∃ a : ByteArray, a = { data := #[98] } := ⟨_, rfl⟩
  obtain ⟨y, hy⟩ : ∃ a : ByteArray, a = { data := #[121] } := ⟨_, rfl⟩
  have sa : a.size = 1 := by rw [ha]; rfl
  have sx : x.size = 1 := by rw [hx]; rfl
  have sb : b.size = 1 := by rw [hb]; rfl
  have sy : y.size = 1 := by rw [hy]; rfl
  have g1 : gtB a b = false := by rw [ha, hb]; decide +kernel
  have g2 : geB a b = false := by rw [ha, hb]; decide +kernel
  have g3 : gtB a a = false := by rw [ha]; decide +kernel
  have g4 : geB b a = true := by rw [ha, hb]; decide +kernel
  have g5 : geB a a = true := by rw [ha]; decide +kernel
  have g6 : gtB b b = false := by rw [hb]; decide +kernel
  have RG : Hid (rngR [(1, [(a, x), (b, y)])] a b 1 = [(a, x)]) := two_range g3 g4 g5 g1 g6
  have P1 := fun W gs gj h => Lib.hid (put_first W gs gj h a x (by omega) (by omega) (by omega))
  have P2 := fun W base gs gj bl c bp h hb => Lib.hid (put_second W base gs gj bl c bp a x b y h hb (by omega) (by omega) (by omega) (by omega) (by omega) g1 g2)
  have SZ : Hid (Small [(a, x), (b, y)]) := ⟨by show 2 ≤ 1000000; omega, fun p hp => by
    simp only [List.mem_cons, List.not_mem_nil, or_false] at hp
    rcases hp with rfl | rfl
    · exact ⟨by show a.size ≤ _; omega, by show x.size ≤ _; omega⟩
    · exact ⟨by show b.size ≤ _; omega, by show y.size ≤ _; omega⟩⟩
  have S10 : Hid (sizS [(1, [(a, x), (b, y)])] 1 = 10) := by
    show 0 + (0 + (3 + a.size + x.size) + (3 + b.size + y.size)) = 10
    omega
  have S2 : Hid (lenS [(1, [(a, x), (b, y)])] 1 = 2) := rfl
  have HA := Lib.hid ha; have HX := Lib.hid hx; have HB := Lib.hid hb; have HY := Lib.hid hy
  clear sa sx sb sy g1 g2 g3 g4 g5 g6 ha hx hb hy
  go_enter Try.func10, Try.ntmps10
  go_wp2_with fail
  refine OP.out.mono ?_
  rintro e w1 ⟨g, gj, gs, rfl, hb1, hgs, q1, _, _⟩
  have HB1 := Lib.hid hb1; have Q1 := Lib.hid q1; have HGS := Lib.hid hgs
  clear hb1 hgs q1 OP
  go_wp2_with fail
  rw [← HA.out, ← HX.out]
  refine (P1 _ _ _ HB1.out).out.mono ?_
  rintro e w2 ⟨rfl, t2, bl, c, bp, h2⟩
  have H2 := Lib.hid h2
  have Q2 : Hid (Below w.heap.size w w2) := Q1.out.trans (t2.below Q1.out.size (fun k hk => by have := HGS.out; omega))
  have HBL : Hid (w1.heap.size ≤ bl) := (h2.row.lt bl rfl).1
  have Z2 : Hid (w1.heap.size ≤ w2.heap.size) := t2.size
  clear h2 t2
  go_wp2_with fail
  rw [← HB.out, ← HY.out]
  refine (P2 _ _ _ _ _ _ _ H2.out Z2.out).out.mono ?_
  rintro e w3 ⟨rfl, t3, bq, c3, h3⟩
  have H3 := Lib.hid h3
  have Q3 : Hid (Below w.heap.size w w3) := Q2.out.trans (t3.below Q2.out.size (fun k hk => by have := HBL.out; have := Q1.out.size; omega))
  clear h3 t3
  have RD := Lib.hid (one_rd H3.out).1
  have RA := Lib.hid (range_any w3 gs [(1, [(a, x), (b, y)])] RD.out (one_full (by show 0 < 2; omega)) (by show 1 ≤ _; omega) (fun i => Nat.le_trans (one_len i) (by show 2 ≤ _; omega)) (fun i k => Nat.le_trans (one_tail i k) (by show 2 ≤ _; omega)) a b 1)
  rw [RG.out] at RA
  have SL := fun W hW => Lib.hid (slen_any W gs [(1, [(a, x), (b, y)])] (RD.out.below hW) (by show 1 ≤ _; omega) (fun i hi => by
    obtain rfl : i = 0 := by simpa using hi
    exact SZ.out) (by show lenS [(1, [(a, x), (b, y)])] 1 ≤ _; rw [S2.out]; decide))
  have SS := fun W hW => Lib.hid (ssize_any W gs [(1, [(a, x), (b, y)])] (RD.out.below hW) (by show 1 ≤ _; omega) (fun i hi => by
    obtain rfl : i = 0 := by simpa using hi
    exact SZ.out) (by show sizS [(1, [(a, x), (b, y)])] 1 ≤ _; rw [S10.out]; decide))
  simp only [List.length_singleton] at SL SS
  rw [S2.out] at SL
  rw [S10.out] at SS
  go_wp2_with fail
  rw [← HA.out, ← HB.out]
  refine RA.out.mono ?_
  rintro e w4 ⟨v, rfl, ho, q4⟩
  have HO := Lib.hid ho
  obtain ⟨gr, cr, rfl⟩ := own_shape ho
  have cc := ho.cells (g := gr) rfl
  have k0 : w4.cell? ⟨gr, 0, none⟩ = some (.string a) := by simpa [Addr.add] using cc 0 _ rfl
  have k1 : w4.cell? ⟨gr, 1, none⟩ = some (.string x) := by simpa [Addr.add] using cc 1 _ rfl
  rw [HA.out] at k0
  rw [HX.out] at k1
  have Q4h := Lib.hid q4
  have Q4 : Hid (Below w.heap.size w w4) := Q3.out.trans (q4.mono Q3.out.size)
  have SL4 := SL w4 q4
  clear ho cc q4 RA
  go_wp2_with fail
  refine SL4.out.mono ?_
  rintro e w5 ⟨rfl, q5⟩
  have Q5 : Hid (Below w.heap.size w w5) := Q4.out.trans (q5.mono Q4.out.size)
  have SS5 := SS w5 (Q4h.out.trans (q5.mono Q4h.out.size))
  clear q5 SL4 SL
  go_wp2_with fail
  refine SS5.out.mono ?_
  rintro e w6 ⟨rfl, q6⟩
  have Q6 : Hid (Below w.heap.size w w6) := Q5.out.trans (q6.mono Q5.out.size)
  clear q6 SS5 SS
  go_wp2
  go_ret
  exact ⟨rfl, Q6.out⟩
end Go.Proofs.Ytoolkamajlgcbaa
