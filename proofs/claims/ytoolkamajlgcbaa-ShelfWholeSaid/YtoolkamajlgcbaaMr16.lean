/- ShT: Put where there are leaves (written by gen_sht.py). -/
import Derived.Test.YtoolkamajlgcbaaMr15
import Derived.Deep.Cut
import Derived.Deep.CutRange
import Derived.Deep.DeepCutAuto
set_option linter.unusedVariables false
set_option linter.unusedSimpArgs false
namespace Go.Proofs.Ytoolkamajlgcbaa
open Go.RowKit

/-- What stands behind the entry that is put. -/
def restP (sh : List (Nat × PL)) (a : ByteArray) : PL := if (getK sh a).isSome then (lfA sh (fI sh a)).drop (fK sh a + 1) else (lfA sh (fI sh a)).drop (fK sh a)
/-- The leaf with the entry that is put. -/
def newL (sh : List (Nat × PL)) (a x : ByteArray) : PL := (lfA sh (fI sh a)).take (fK sh a) ++ [(a, x)] ++ restP sh a
def setL (sh : List (Nat × PL)) (i : Nat) (l : PL) : List (Nat × PL) := sh.set i ((sh.getD i (0, [])).1, l)
/-- Where a leaf is cut. -/
def cutF (l : PL) : Nat → Nat → Nat
  | 0, c => c
  | f + 1, c => if szL (l.take c) < 507 then cutF l f (c + 1) else c
def cutA (l : PL) : Nat := cutF l l.length 0
def splitL (sh : List (Nat × PL)) (i : Nat) (l : PL) (id : Nat) : List (Nat × PL) := sh.take i ++ ([((sh.getD i (0, [])).1, l.take (cutA l)), (id, l.drop (cutA l))] ++ sh.drop (i + 1))
/-- What Put does. -/
noncomputable def putA (sh : List (Nat × PL)) (P : Nat) (a x : ByteArray) : Nat × List (Nat × PL) :=
  if sh = [] then (0, [(1, [(a, x)])])
  else if szL (newL sh a x) ≤ 1020 then (0, stepsT (setL sh (fI sh a) (newL sh a x)) (fI sh a : Nat) 2)
  else if spareA sh P = 0 then (5, sh)
  else (0, stepsT (stepsT (splitL sh (fI sh a) (newL sh a x) (spareA sh P)) ((fI sh a + 1 : Nat) : Int) 2) (fI sh a : Nat) 2)
theorem rd_take {w : World} {b o : Nat} {l : PL} (h : RdPr w (some ⟨b, o, none⟩) l) (k : Nat) : ∀ j u, (prv (l.take k))[j]? = some u → w.cell? ((⟨b, o, none⟩ : Addr).add j) = some u := by
  intro j u hj
  refine rd_cells h j u ?_
  have hjl := (List.getElem?_eq_some_iff.1 hj).1
  rw [show l = l.take k ++ l.drop k from (List.take_append_drop k l).symm, prv_append, List.getElem?_append_left hjl]
  exact hj
theorem rd_drop {w : World} {b o : Nat} {l : PL} (h : RdPr w (some ⟨b, o, none⟩) l) (k : Nat) (hk : k ≤ l.length) : ∀ j u, (prv (l.drop k))[j]? = some u → w.cell? ((⟨b, o + k * 2, none⟩ : Addr).add j) = some u := by
  intro j u hj
  have hjl := (List.getElem?_eq_some_iff.1 hj).1
  have e : (prv l)[k * 2 + j]? = some u := by
    rw [show l = l.take k ++ l.drop k from (List.take_append_drop k l).symm, prv_append, List.getElem?_append_right (by rw [prv_len, List.length_take]; omega), prv_len, List.length_take, show k * 2 + j - min k l.length * 2 = j by omega]
    exact hj
  have := rd_cells h (k * 2 + j) u e
  rw [Addr.add_lit] at this ⊢
  rw [show o + k * 2 + j = o + (k * 2 + j) by omega]
  exact this
/-- A slice from one on: its address, whatever its capacity. -/
theorem rd_from {w : World} {b o c : Nat} {l : PL} (h : RdPr w (some ⟨b, o, none⟩) l) (k : Nat) (hk : k ≤ l.length) (hc : l.length ≤ c) : ∃ ad : Addr, (if c = k then some (⟨b, o, none⟩ : Addr) else some ⟨b, o + k * 2, none⟩) = some ad ∧ ∀ j u, (prv (l.drop k))[j]? = some u → w.cell? (ad.add j) = some u := by
  by_cases e : c = k
  · refine ⟨⟨b, o, none⟩, by rw [if_pos e], fun j u hj => ?_⟩
    rw [List.drop_eq_nil_of_le (by omega)] at hj
    simp [prv] at hj
  · exact ⟨⟨b, o + k * 2, none⟩, by rw [if_neg e], rd_drop h k hk⟩
theorem szL_drop_le (l : PL) (k : Nat) : szL (l.drop (k + 1)) ≤ szL (l.drop k) := by
  have q := szL_app ((l.drop k).take 1) ((l.drop k).drop 1)
  rw [List.take_append_drop, List.drop_drop] at q
  omega
theorem szP_le {p : ByteArray × ByteArray} (h : szP p ≤ 467) : p.1.size ≤ 467 ∧ p.2.size ≤ 467 := by unfold szP at h; omega
theorem shP_set (L : List Lf) (i : Nat) (x : Lf) (hi : i < L.length) (hx : x.id = L[i].id) : shP (L.set i x) = setL (shP L) i x.l := by
  unfold setL
  have e : ((shP L).getD i (0, [])).1 = x.id := by
    rw [List.getD_eq_getElem?_getD, List.getElem?_eq_getElem (by rw [shP_len]; exact hi), hx]
    simp [shP]
  rw [e]
  unfold shP
  rw [List.map_set]
/-- The leaves of a row from one on: their address, whatever the capacity. -/
theorem lr_from {w : World} {base g cap : Nat} {L : List Lf} (h : LRow w base (.slice (some ⟨g, 0, none⟩) L.length cap) L) (k : Nat) (hk : k ≤ L.length) : ∃ ad : Addr, (if cap = k then some (⟨g, 0, none⟩ : Addr) else some ⟨g, k * 2, none⟩) = some ad ∧ ∀ j u, (lvv (L.drop k))[j]? = some u → w.cell? (ad.add j) = some u := by
  have hc : L.length ≤ cap := by
    rcases h with ⟨e, _⟩ | ⟨_, _, _, e, _, _, h1, _⟩
    · cases e
    · cases e; exact h1
  by_cases e : cap = k
  · refine ⟨⟨g, 0, none⟩, by rw [if_pos e], fun j u hj => ?_⟩
    rw [List.drop_eq_nil_of_le (by omega)] at hj
    simp [lvv] at hj
  · exact ⟨⟨g, k * 2, none⟩, by rw [if_neg e], lr_cells h k⟩
theorem lf_take {w : World} {b o cl id : Nat} {l : PL} (h : LfRd w ⟨id, l, some ⟨b, o, none⟩, cl⟩) (k : Nat) (hk : k ≤ l.length) (id' : Nat) : LfRd w ⟨id', l.take k, some ⟨b, o, none⟩, k⟩ := by
  obtain ⟨h1, h2, h3⟩ := h
  refine ⟨fun hp => ?_, by show (l.take k).length ≤ k; rw [List.length_take]; omega, h3⟩
  have hp : 0 < (l.take k).length := hp
  rw [List.length_take] at hp
  obtain ⟨b', o', e, hc⟩ := h1 (show 0 < l.length by omega)
  cases e
  refine ⟨b, o, rfl, fun j hj => ?_⟩
  have hj : j < (l.take k).length := hj
  have hj2 : j < l.length := by rw [List.length_take] at hj; omega
  have := hc j hj2
  show w.cell? ⟨b, o + j * 2, none⟩ = some (.string (l.take k)[j].1) ∧ w.cell? ⟨b, o + j * 2 + 1, none⟩ = some (.string (l.take k)[j].2)
  rw [List.getElem_take]
  exact this
theorem lf_drop {w : World} {b o cl id : Nat} {l : PL} (h : LfRd w ⟨id, l, some ⟨b, o, none⟩, cl⟩) (k : Nat) (hk : k ≤ l.length) (id' : Nat) : LfRd w ⟨id', l.drop k, some ⟨b, o + k * 2, none⟩, l.length - k⟩ := by
  obtain ⟨h1, h2, h3⟩ := h
  refine ⟨fun hp => ?_, by show (l.drop k).length ≤ l.length - k; rw [List.length_drop]; omega, fun b' o' e => by cases e; exact h3 b o rfl⟩
  have hp : 0 < (l.drop k).length := hp
  rw [List.length_drop] at hp
  obtain ⟨b', o', e, hc⟩ := h1 (show 0 < l.length by omega)
  cases e
  refine ⟨b, o + k * 2, rfl, fun j hj => ?_⟩
  have hj : j < (l.drop k).length := hj
  have hj2 : k + j < l.length := by rw [List.length_drop] at hj; omega
  have := hc (k + j) hj2
  show w.cell? ⟨b, o + k * 2 + j * 2, none⟩ = some (.string (l.drop k)[j].1) ∧ w.cell? ⟨b, o + k * 2 + j * 2 + 1, none⟩ = some (.string (l.drop k)[j].2)
  rw [List.getElem_drop, show o + k * 2 + j * 2 = o + (k + j) * 2 by omega]
  exact this
theorem t1_len (sh : List (Nat × PL)) (kk : Int) : (t1 sh kk).length ≤ sh.length := by
  by_cases h : Fits sh kk
  · obtain ⟨k, rfl, hk, _⟩ := id h
    rw [t1_on h]
    unfold mergeP
    simp only [List.length_append, List.length_take, List.length_drop, List.length_singleton]
    omega
  · rw [t1_off h]; exact Nat.le_refl _
theorem stepsT_len (sh : List (Nat × PL)) (i : Int) : ∀ n, (stepsT sh i n).length ≤ sh.length
  | 0 => Nat.le_refl _
  | n + 1 => by rw [stepsT]; exact Nat.le_trans (t1_len _ _) (stepsT_len sh i n)
theorem cutF_stop (l : PL) (f c : Nat) (h : ¬ szL (l.take c) < 507) : cutF l f c = c := by
  cases f with
  | zero => rfl
  | succ f => rw [cutF, if_neg h]
theorem two_at2 {w : World} {g : Nat} {a b : Value} {t : TypeId} (h : w.heap[g]? = some (.cells #[a, b] t (0, 0))) : ∀ j u, [a, b][j]? = some u → w.cell? ((⟨g, 0, none⟩ : Addr).add j) = some u := by
  intro j u hj
  match j, hj with
  | 0, hj => rw [show (⟨g, 0, none⟩ : Addr).add 0 = ⟨g, 0, none⟩ from rfl, blk_cell h 0]; simpa using hj
  | 1, hj => rw [show (⟨g, 0, none⟩ : Addr).add 1 = ⟨g, 1, none⟩ from rfl, blk_cell h 1]; simpa using hj
  | j + 2, hj => simp at hj
set_option maxHeartbeats 6400000 in
set_option maxRecDepth 100000 in
theorem put_any (w : World) (base gs gj g P : Nat) (v0 : Value) (L : List Lf) (h : ShO w base gs gj v0 L) (hj : Jb w gj g P) (hP : P ≤ 1000) (hG : Good L) (hE : ∀ y ∈ L, ∀ p ∈ y.l, szP p ≤ 467) (hp : 0 < L.length) (hn : L.length ≤ 50000) (hid : ∀ y ∈ L, y.id ≤ 1000000) (hbs : base ≤ w.heap.size) (a x : ByteArray) (h1 : 1 ≤ a.size) (h2 : a.size ≤ 64) (h3 : x.size ≤ 400) :
    Calls Try.prog 17 #[.pointer (some ⟨gs, 0, none⟩), .string a, .string x] w fun e w' => e = .returned (.int .i64 ((putA (shP L) P a x).1 : Nat)) ∧ ∃ v L', ShO w' base gs gj v L' ∧ shP L' = (putA (shP L) P a x).2 ∧ Touch (fun k => k = gs ∨ v0.ownBlock = some k) w w' ∧ (∀ k, v.ownBlock = some k → v0.ownBlock = some k ∨ w.heap.size ≤ k) := by
  obtain ⟨i0, hi0, hz0, hz1, hz2⟩ := info_parts infoPr
  have MY := Lib.hid (may_ok w a x h1 h2 h3)
  have H0 := Lib.hid h; have HJ0 := Lib.hid hj; have HG := Lib.hid hG; have HE := Lib.hid hE; have HID := Lib.hid hid
  obtain ⟨W1, hW1⟩ : ∃ W1, W1 = w.alloc (.cells #[.string a, .string x] 47) := ⟨_, rfl⟩
  have Q1 : Below w.heap.size w W1 := by rw [hW1]; exact (Below.refl _ w).alloc (Nat.le_refl _) _
  have hp1 : W1.heap[w.heap.size]? = some (.cells #[.string a, .string x] 47 (0, 0)) := by rw [hW1]; exact blk_new w _
  have small : ∀ i, (lfA (shP L) i).length ≤ 1000 := fun i => by
    by_cases hi : i < L.length
    · rw [lfA_shP hi]
      have := (hG L[i] (List.getElem_mem _)).1
      have := (szL_len L[i].l).1
      omega
    · rw [lfA_out (by rw [shP_len]; omega)]; simp
  have full : Full (shP L) := fun i hi => by
    rw [shP_len] at hi
    rw [lfA_shP hi]
    exact (hG L[i] (List.getElem_mem _)).2
  have FN := Lib.hid (find_any W1 gs (shP L) (h.below Q1).read full (by rw [shP_len]; omega) (fun i => by have := small i; omega) a)
  have hiL : fI (shP L) a < L.length := by have := fI_lt (sh := shP L) (key := a) (by rw [shP_len]; exact hp); rwa [shP_len] at this
  have hkl : fK (shP L) a ≤ (lfA (shP L) (fI (shP L) a)).length := fK_le
  have PUT : Hid (putA (shP L) P a x = if szL (newL (shP L) a x) ≤ 1020 then (0, stepsT (setL (shP L) (fI (shP L) a) (newL (shP L) a x)) (fI (shP L) a : Nat) 2) else if spareA (shP L) P = 0 then (5, shP L) else (0, stepsT (stepsT (splitL (shP L) (fI (shP L) a) (newL (shP L) a x) (spareA (shP L) P)) ((fI (shP L) a + 1 : Nat) : Int) 2) (fI (shP L) a : Nat) 2)) := by
    unfold Hid putA
    rw [if_neg (fun e => by have := congrArg List.length e; rw [shP_len] at this; simp at this; rw [this] at hp; simp at hp)]
  have NL : Hid (newL (shP L) a x = (lfA (shP L) (fI (shP L) a)).take (fK (shP L) a) ++ [(a, x)] ++ (if (getK (shP L) a).isSome then (lfA (shP L) (fI (shP L) a)).drop (fK (shP L) a + 1) else (lfA (shP L) (fI (shP L) a)).drop (fK (shP L) a))) := rfl
  have GK : Hid (getK (shP L) a = hitK (shP L) (fI (shP L) a) (fK (shP L) a) a) := rfl
  rw [hW1] at FN
  generalize putA (shP L) P a x = pa at PUT ⊢
  generalize newL (shP L) a x = nl at PUT NL
  generalize getK (shP L) a = gk at NL GK
  generalize fI (shP L) a = i at FN hiL hkl PUT NL GK
  generalize fK (shP L) a = k at FN hkl NL GK
  have Q1h := Lib.hid Q1; have HP1 := Lib.hid hp1
  have SM := Lib.hid (small i)
  rw [lfA_shP hiL] at hkl NL SM
  obtain ⟨y, hy⟩ : ∃ y, y = L[i] := ⟨_, rfl⟩
  have HY := Lib.hid hy
  rw [← hy] at hkl NL SM
  obtain ⟨id1, l1, A1, c1⟩ := y
  simp only at hkl NL SM
  have hR := h.rd _ (List.getElem_mem hiL)
  rw [← hy] at hR
  have RDh := Lib.hid hR
  have l1p : 0 < l1.length := by have := (hG _ (List.getElem_mem hiL)).2; rw [← hy] at this; exact this
  have l1s : l1.length ≤ 1000 := SM.out
  have l1z : Hid (szL l1 ≤ 1020) := by have := (hG _ (List.getElem_mem hiL)).1; rw [← hy] at this; exact this
  have c1l : l1.length ≤ c1 := hR.2.1
  obtain ⟨b1, o1, rfl, _⟩ := hR.1 l1p
  obtain ⟨b, cap, rfl⟩ : ∃ b cap, v0 = .slice (some ⟨b, 0, none⟩) L.length cap := by
    rcases h.row with ⟨_, e⟩ | ⟨g, cap, cur, e, _⟩
    · rw [e] at hp; simp at hp
    · exact ⟨g, cap, e⟩
  have CELL : Hid (∀ W v, ShO W base gs gj (.slice (some ⟨b, 0, none⟩) L.length cap) L → W.cell? ⟨b, i * 2 + v, none⟩ = [Value.int .i64 (id1 : Int), .slice (some ⟨b1, o1, none⟩) l1.length c1][v]? ∨ 2 ≤ v) := fun W v hW => by
    rcases hW.row with ⟨e, _⟩ | ⟨g', cap', cur, e, _, hk', z1, _, z2, z3, _⟩
    · cases e
    · cases e
      obtain ⟨g0, g1⟩ := lvv_get L i hiL
      rw [← z3, List.getElem?_take_of_lt (by omega), Array.getElem?_toList, ← hy] at g0 g1
      match v with
      | 0 => left; rw [Nat.add_zero, blk_cell hk', g0]; rfl
      | 1 => left; rw [blk_cell hk', g1]; rfl
      | v + 2 => right; omega
  clear small full h hj hG hE hid hR hy Q1 hp1
  have capL : L.length ≤ cap := by
    rcases H0.out.row with ⟨e, _⟩ | ⟨_, _, _, e, _, _, h1, _⟩
    · cases e
    · cases e; exact h1
  have d0 : ((L.length : Int) == 0) = false := by rw [beq_eq_false_iff_ne]; omega
  have d0' : (L.length == 0) = false := by rw [beq_eq_false_iff_ne]; omega
  have hii : (i : Int) < (L.length : Int) := by omega
  have hkk : (k : Int) ≤ (l1.length : Int) := by omega
  go_enter Try.func17, Try.ntmps17
  go_wp2_with fail
  refine MY.out.mono ?_
  rintro e w' ⟨rfl, rfl⟩
  go_wp2_with fail
  refine FN.out.mono ?_
  rw [← hW1]
  rintro e w2 ⟨rfl, q2⟩
  have Q2 : Hid (Below w.heap.size w w2) := Q1h.out.trans (q2.mono Q1h.out.size)
  have hp2 : w2.heap[w.heap.size]? = some (.cells #[.string a, .string x] 47 (0, 0)) := (q2.block _ (lt_of_block HP1.out)).trans HP1.out
  have S2 := Lib.hid (H0.out.below Q2.out)
  have r1 := blk_cell S2.out.box 1
  simp at r1
  have r2 : w2.cell? ⟨b, i * 2 + 1, none⟩ = some (.slice (some ⟨b1, o1, none⟩) l1.length c1) := by
    rcases CELL.out w2 1 S2.out with h | h
    · exact h
    · omega
  have p0 := blk_cell hp2 0; have p1 := blk_cell hp2 1
  simp at p0 p1
  have HP2 := Lib.hid hp2
  have RD2 : Hid (RdPr w2 (some ⟨b1, o1, none⟩) l1) := RDh.out.1.below Q2.out
  have AT := Lib.hid (at_any w2 gs (shP L) S2.out.read i k (by omega) (by omega) a)
  rw [← GK.out] at AT
  obtain ⟨adk, hadk, RCk⟩ := rd_from RD2.out k (by omega) c1l
  have RCK := Lib.hid RCk
  clear q2 FN hp2 hW1 RCk HP1
  go_wp2_with fail
  refine AT.out.mono ?_
  rintro e w' ⟨rfl, hh⟩
  obtain ⟨pv, rfl, hpv⟩ : ∃ pv, e = .returned (.pointer pv) ∧ ((gk.isSome = true ∧ k < l1.length ∧ ∃ q, pv = some q) ∨ (gk = none ∧ pv = none)) := by
    rcases hh with ⟨e1, e2⟩ | ⟨b', o', val, e1, e2, _⟩
    · exact ⟨none, e2, .inr ⟨e1, rfl⟩⟩
    · refine ⟨_, e2, .inl ⟨by rw [e1]; rfl, ?_, _, rfl⟩⟩
      have q := GK.out
      rw [e1] at q
      unfold hitK at q
      by_cases hk : k < (lfA (shP L) i).length
      · rw [lfA_shP hiL, ← HY.out] at hk; exact hk
      · rw [dif_neg hk] at q; cases q
  obtain ⟨R, hR⟩ : ∃ R, R = if gk.isSome = true then l1.drop (k + 1) else l1.drop k := ⟨_, rfl⟩
  rw [← hR] at NL
  have HR := Lib.hid hR
  have Rl : R.length ≤ 1000 := by rw [hR]; split <;> (rw [List.length_drop]; omega)
  clear hh AT hR
  go_upto_if 68 with fail
  go_cut [11] (fun rv wx => ∃ (rp : Addr) (cr : Nat), rv = .slice (some rp) R.length cr ∧ Hid (∀ j u, (prv R)[j]? = some u → w2.cell? (rp.add j) = some u) ∧ wx = w2)
  case first =>
    rcases hpv with ⟨hs, hk2, q, rfl⟩ | ⟨hs, rfl⟩
    · obtain ⟨ad3, had3, RC3⟩ := rd_from RD2.out (k + 1) (by omega) c1l
      have RC3h := Lib.hid RC3
      have hR : R = l1.drop (k + 1) := by rw [HR.out, if_pos hs]
      have hRl : R.length = l1.length - (k + 1) := by rw [hR, List.length_drop]
      have HR2 := Lib.hid hR; have HRl := Lib.hid hRl
      have hkk2 : (k : Int) + 1 ≤ (l1.length : Int) := by omega
      have wk1 : IntKind.i64.wrap ((k : Int) + 1) = (k : Int) + 1 := by rw [IntKind.wrap_i64]; omega
      have hk0 : (0 : Int) ≤ (k : Int) + 1 := by omega
      have htk : ((k : Int) + 1).toNat = k + 1 := by omega
      clear RC3 hR hRl hs
      go_wp2_with fail
      go_meet
      exact ⟨ad3, c1 - (k + 1), by rw [HRl.out], by rw [HR2.out]; exact RC3h, rfl⟩
    · have hR : R = l1.drop k := by rw [HR.out, if_neg (by rw [hs]; decide)]
      have HR2 := Lib.hid hR
      have HRl : Hid (R.length = l1.length - k) := by rw [hR]; exact List.length_drop ..
      clear hR hs
      go_wp2_with fail
      go_meet
      exact ⟨adk, c1 - k, by rw [HRl.out], by rw [HR2.out]; exact RCK, rfl⟩
  case rest =>
    obtain ⟨rp, cr, rfl, RC, hwc⟩ := hcut
    subst wc
    have RZ : szL R ≤ szL (l1.drop k) := by
      rw [HR.out]
      split
      · exact szL_drop_le l1 k
      · exact Nat.le_refl _
    have RE : ∀ p ∈ R, p ∈ l1 := fun p hp => by
      rw [HR.out] at hp
      split at hp <;> exact List.mem_of_mem_drop hp
    have ax : szP (a, x) ≤ 467 := by show 3 + a.size + x.size ≤ 467; omega
    have NZ : szL nl ≤ 1487 := by
      have q := szL_app (l1.take k) (l1.drop k)
      rw [List.take_append_drop] at q
      have := l1z.out
      rw [NL.out, szL_app, szL_append]
      omega
    have MEM : (⟨id1, l1, some ⟨b1, o1, none⟩, c1⟩ : Lf) ∈ L := by rw [HY.out]; exact List.getElem_mem hiL
    have NE : Hid (∀ p ∈ nl, szP p ≤ 467) := fun p hp => by
      rw [NL.out] at hp
      rcases List.mem_append.1 hp with hp | hp
      · rcases List.mem_append.1 hp with hp | hp
        · exact HE.out _ MEM p (List.mem_of_mem_take hp)
        · rw [List.mem_singleton] at hp; rw [hp]; exact ax
      · exact HE.out _ MEM p (RE p hp)
    have NP : 0 < nl.length := by
      rw [NL.out]; simp only [List.length_append, List.length_singleton]; omega
    have NLL : nl.length ≤ 1000 := by
      have := (szL_len nl).1; omega
    clear hpv HR hadk RCK RZ RE ax MEM
    have SRC : Hid (∀ j u, (prv (l1.take k))[j]? = some u → w2.cell? ((⟨b1, o1, none⟩ : Addr).add j) = some u) := rd_take RD2.out k
    have TK : (prv (l1.take k)).length = k * 2 := by rw [prv_len, List.length_take]; omega
    have kc1 : (k : Int) ≤ (c1 : Int) := by omega
    go_upto_region 12 with fail
    go_cut [12] (fun lv wx => ∃ (Al : Option Addr) (cl : Nat), lv = .slice Al nl.length cl ∧ Hid (LfRd wx ⟨id1, nl, Al, cl⟩) ∧ Hid (Below w2.heap.size w2 wx))
    case first =>
      refine wp_region_plan (fun w' => w'.cell? ⟨w.heap.size, 0, none⟩ = some (.string a) ∧ w'.cell? ⟨w.heap.size, 1, none⟩ = some (.string x)) (.op 1 1 (.op 2 1 (.op 3 1 (.op 8 1 (.op 5 2 (.two 0 (.two 4 (.op 6 0 (.op 7 0 (.op 9 0 (.op 10 1 .done)))) 6 (.op 4 0 (.op 7 0 (.op 9 0 (.op 10 1 .done))))) 6 (.op 0 0 (.op 4 0 (.op 7 0 (.op 9 0 (.op 10 1 .done))))))))))) (by kernel_rfl) (by kernel_rfl) ⟨p0, p1⟩ ?_
      repeat (refine wpP_dry (fun K hK => ?_); simp only [List.getD_cons_zero, List.getD_cons_succ]; go_simp; refine hK _ ?_; clear hK K)
      refine wpP_read (.agg #[.string a, .string x]) rfl (fun w' hS => by obtain ⟨s1, s2⟩ := hS; simp only [List.getD_cons_zero, List.getD_cons_succ]; go_simp) (fun K hK => ?_)
      simp only [List.getD_cons_zero, List.getD_cons_succ]
      go_simp
      refine hK _ ?_
      clear hK K
      refine wpP_two ?_ ?_
      focus
        simp only [List.getD_cons_zero, List.getD_cons_succ]
        go_wp2_with fail
        obtain ⟨E1, hE1⟩ : ∃ W, W = (w2.alloc (.cells #[] 47)).drew := ⟨_, rfl⟩
        have KE1 : Hid (Below w2.heap.size w2 E1) := by rw [hE1]; exact ((Below.refl _ w2).alloc (Nat.le_refl _) _).drew
        have HE1 : Hid (E1.ownsRow w2.heap.size 47 2 (.slice (some ⟨w2.heap.size, 0, none⟩) 0 0) 0 []) := by rw [hE1]; exact own_touch (World.ownsRow_made w2 #[] 0 (Nat.le_refl _) (by decide) rfl) (Touch.of_below (Below.refl _ _).drew : Touch (fun _ => False) _ (w2.alloc (.cells #[] 47)).drew) (fun _ _ x => x)
        rw [← hE1]
        clear hE1
        refine ⟨⟨cell_below KE1.out p0, cell_below KE1.out p1⟩, ?_⟩
        refine wpP_two ?_ ?_
        focus
          simp only [List.getD_cons_zero, List.getD_cons_succ]
          refine (wpList_append_own_at _ rfl (.tmp 73) (.tmp 76) 43 rfl w2.heap.size 47 i0 _ 2 32 Try.underlying43 hi0 hz0 hz1 hz2 rfl (by decide) (.slice (some ⟨w2.heap.size, 0, none⟩) 0 0) 0 [] rfl HE1.out ⟨b1, o1, none⟩ k c1 (prv (l1.take k)) rfl TK (fun j u hj => cell_below KE1.out (SRC.out j u hj)) (prv_one _) (by unfold maxLen; omega) (by omega) KE1.out.size ?_)
          intro v1 w4 ho1 hg4 _ hat4
          have K4 : Hid (Below w2.heap.size w2 w4) := KE1.out.trans ((Below.refl w2.heap.size E1).grown hg4 KE1.out.size (fun j hj => by cases hj; exact Nat.le_refl _))
          rw [Nat.zero_add, List.nil_append] at ho1
          have HO4 := Lib.hid ho1
          clear hg4 ho1 hat4
          go_wp2_with fail
          refine ⟨⟨cell_below K4.out p0, cell_below K4.out p1⟩, ?_⟩
          refine wpP_do ?_
          simp only [List.getD_cons_zero, List.getD_cons_succ]
          go_wp2_with fail
          obtain ⟨pb2, hpb⟩ : ∃ p, p = w4.heap.size := ⟨_, rfl⟩
          obtain ⟨Wz, hWz⟩ : ∃ Wz, Wz = w4.alloc (.cells #[.string a, .string x] 47) := ⟨_, rfl⟩
          have KZ : Hid (Below w2.heap.size w2 Wz) := by rw [hWz]; exact K4.out.alloc K4.out.size _
          have PB : Hid (Wz.heap[pb2]? = some (.cells #[.string a, .string x] 47 (0, 0))) := by rw [hWz, hpb]; exact blk_new w4 _
          have HO1 : Hid (Wz.ownsRow w2.heap.size 47 2 v1 k (prv (l1.take k))) := by rw [hWz]; exact HO4.out.alloc _
          rw [← hWz, ← hpb]
          clear hWz hpb K4 HO4
          refine ⟨⟨cell_below KZ.out p0, cell_below KZ.out p1⟩, ?_⟩
          refine wpP_do ?_
          simp only [List.getD_cons_zero, List.getD_cons_succ]
          refine (wpList_append_own_at _ rfl (.tmp 77) (.tmp 79) 43 rfl w2.heap.size 47 i0 _ 2 32 Try.underlying43 hi0 hz0 hz1 hz2 rfl (by decide) v1 k (prv (l1.take k)) rfl HO1.out ⟨pb2, 0, none⟩ 1 1 [.string a, .string x] rfl rfl (two_at2 PB.out) (by simp [Value.oneCell']) (by unfold maxLen; omega) (by omega) KZ.out.size ?_)
          intro v2 w5 ho2 hg5 _ hat5
          have K5 : Hid (Below w2.heap.size w2 w5) := KZ.out.trans ((Below.refl w2.heap.size Wz).grown hg5 KZ.out.size (fun j hj => (HO1.out.lt j hj).1))
          have HO2 : Hid (w5.ownsRow w2.heap.size 47 2 v2 (k + 1) (prv (l1.take k ++ [(a, x)]))) := by unfold Hid; rw [prv_append]; exact ho2
          clear ho2 hg5 hat5
          go_wp2_with fail
          refine ⟨⟨cell_below K5.out p0, cell_below K5.out p1⟩, ?_⟩
          refine wpP_do ?_
          simp only [List.getD_cons_zero, List.getD_cons_succ]
          refine (wpList_append_own_at _ rfl (.tmp 80) (.tmp 81) 43 rfl w2.heap.size 47 i0 _ 2 32 Try.underlying43 hi0 hz0 hz1 hz2 rfl (by decide) v2 (k + 1) (prv (l1.take k ++ [(a, x)])) rfl HO2.out rp R.length cr (prv R) rfl (prv_len R) (fun j u hj => cell_below K5.out (RC.out j u hj)) (prv_one _) (by unfold maxLen; omega) (by omega) K5.out.size ?_)
          intro v3 w6 ho3 hg6 _ hat6
          have K6 : Hid (Below w2.heap.size w2 w6) := K5.out.trans ((Below.refl w2.heap.size w5).grown hg6 K5.out.size (fun j hj => (HO2.out.lt j hj).1))
          obtain ⟨Al, cl, rfl, HL⟩ : ∃ A c, v3 = .slice A nl.length c ∧ Hid (LfRd w6 ⟨id1, nl, A, c⟩) := by
            have e : prv (l1.take k ++ [(a, x)]) ++ prv R = prv nl := by rw [← prv_append, ← NL.out]
            rw [e] at ho3
            obtain ⟨A, c, e1, e2⟩ := lf_own ho3 id1
            exact ⟨A, c, e1, e2⟩
          clear ho3 hg6 hat6
          go_wp2_with fail
          refine ⟨⟨cell_below K6.out p0, cell_below K6.out p1⟩, ?_⟩
          repeat (refine wpP_dry (fun K hK => ?_); simp only [List.getD_cons_zero, List.getD_cons_succ]; go_simp; refine hK _ ?_; clear hK K)
          refine wpP_done ?_
          go_wp2_with fail
          go_meet
          exact ⟨Al, cl, rfl, HL, K6⟩
        focus
          simp only [List.getD_cons_zero, List.getD_cons_succ]
          go_wp2_with fail
          obtain ⟨pb2, hpb⟩ : ∃ p, p = E1.heap.size := ⟨_, rfl⟩
          obtain ⟨E2, hE2⟩ : ∃ W, W = E1.alloc (.cells #[.string a, .string x] 47) := ⟨_, rfl⟩
          have KE2 : Hid (Below w2.heap.size w2 E2) := by rw [hE2]; exact KE1.out.alloc KE1.out.size _
          have PB2 : Hid (E2.heap[pb2]? = some (.cells #[.string a, .string x] 47 (0, 0))) := by rw [hE2, hpb]; exact blk_new E1 _
          have HE2 : Hid (E2.ownsRow w2.heap.size 47 2 (.slice (some ⟨w2.heap.size, 0, none⟩) 0 0) 0 []) := by rw [hE2]; exact HE1.out.alloc _
          have NPB : Hid (pb2 ≠ w2.heap.size) := by have := (HE1.out.lt w2.heap.size rfl).2; unfold Hid; omega
          rw [← hE2, ← hpb]
          clear hE2 hpb
          refine ⟨⟨cell_below KE2.out p0, cell_below KE2.out p1⟩, ?_⟩
          refine wpP_do ?_
          simp only [List.getD_cons_zero, List.getD_cons_succ]
          refine (wpList_append_own_at _ rfl (.tmp 73) (.tmp 76) 43 rfl w2.heap.size 47 i0 _ 2 32 Try.underlying43 hi0 hz0 hz1 hz2 rfl (by decide) (.slice (some ⟨w2.heap.size, 0, none⟩) 0 0) 0 [] rfl HE2.out ⟨b1, o1, none⟩ k c1 (prv (l1.take k)) rfl TK (fun j u hj => cell_below KE2.out (SRC.out j u hj)) (prv_one _) (by unfold maxLen; omega) (by omega) KE2.out.size ?_)
          intro v1 Wz ho1 hg4 _ hat4
          have KZ : Hid (Below w2.heap.size w2 Wz) := KE2.out.trans ((Below.refl w2.heap.size E2).grown hg4 KE2.out.size (fun j hj => by cases hj; exact Nat.le_refl _))
          rw [Nat.zero_add, List.nil_append] at ho1
          have HO1 := Lib.hid ho1
          have PB : Hid (Wz.heap[pb2]? = some (.cells #[.string a, .string x] 47 (0, 0))) := (hg4.block _ (lt_of_block PB2.out) (fun e => by cases e; exact NPB.out rfl)).trans PB2.out
          clear hg4 ho1 PB2 NPB hat4
          go_wp2_with fail
          refine ⟨⟨cell_below KZ.out p0, cell_below KZ.out p1⟩, ?_⟩
          refine wpP_do ?_
          simp only [List.getD_cons_zero, List.getD_cons_succ]
          refine (wpList_append_own_at _ rfl (.tmp 77) (.tmp 79) 43 rfl w2.heap.size 47 i0 _ 2 32 Try.underlying43 hi0 hz0 hz1 hz2 rfl (by decide) v1 k (prv (l1.take k)) rfl HO1.out ⟨pb2, 0, none⟩ 1 1 [.string a, .string x] rfl rfl (two_at2 PB.out) (by simp [Value.oneCell']) (by unfold maxLen; omega) (by omega) KZ.out.size ?_)
          intro v2 w5 ho2 hg5 _ hat5
          have K5 : Hid (Below w2.heap.size w2 w5) := KZ.out.trans ((Below.refl w2.heap.size Wz).grown hg5 KZ.out.size (fun j hj => (HO1.out.lt j hj).1))
          have HO2 : Hid (w5.ownsRow w2.heap.size 47 2 v2 (k + 1) (prv (l1.take k ++ [(a, x)]))) := by unfold Hid; rw [prv_append]; exact ho2
          clear ho2 hg5 hat5
          go_wp2_with fail
          refine ⟨⟨cell_below K5.out p0, cell_below K5.out p1⟩, ?_⟩
          refine wpP_do ?_
          simp only [List.getD_cons_zero, List.getD_cons_succ]
          refine (wpList_append_own_at _ rfl (.tmp 80) (.tmp 81) 43 rfl w2.heap.size 47 i0 _ 2 32 Try.underlying43 hi0 hz0 hz1 hz2 rfl (by decide) v2 (k + 1) (prv (l1.take k ++ [(a, x)])) rfl HO2.out rp R.length cr (prv R) rfl (prv_len R) (fun j u hj => cell_below K5.out (RC.out j u hj)) (prv_one _) (by unfold maxLen; omega) (by omega) K5.out.size ?_)
          intro v3 w6 ho3 hg6 _ hat6
          have K6 : Hid (Below w2.heap.size w2 w6) := K5.out.trans ((Below.refl w2.heap.size w5).grown hg6 K5.out.size (fun j hj => (HO2.out.lt j hj).1))
          obtain ⟨Al, cl, rfl, HL⟩ : ∃ A c, v3 = .slice A nl.length c ∧ Hid (LfRd w6 ⟨id1, nl, A, c⟩) := by
            have e : prv (l1.take k ++ [(a, x)]) ++ prv R = prv nl := by rw [← prv_append, ← NL.out]
            rw [e] at ho3
            obtain ⟨A, c, e1, e2⟩ := lf_own ho3 id1
            exact ⟨A, c, e1, e2⟩
          clear ho3 hg6 hat6
          go_wp2_with fail
          refine ⟨⟨cell_below K6.out p0, cell_below K6.out p1⟩, ?_⟩
          repeat (refine wpP_dry (fun K hK => ?_); simp only [List.getD_cons_zero, List.getD_cons_succ]; go_simp; refine hK _ ?_; clear hK K)
          refine wpP_done ?_
          go_wp2_with fail
          go_meet
          exact ⟨Al, cl, rfl, HL, K6⟩
      focus
        simp only [List.getD_cons_zero, List.getD_cons_succ]
        go_wp2_with fail
        obtain ⟨pb2, hpb⟩ : ∃ p, p = w2.heap.size := ⟨_, rfl⟩
        obtain ⟨E1, hE1⟩ : ∃ W, W = (w2.alloc (.cells #[.string a, .string x] 47)).drew := ⟨_, rfl⟩
        have KE1 : Hid (Below w2.heap.size w2 E1) := by rw [hE1]; exact ((Below.refl _ w2).alloc (Nat.le_refl _) _).drew
        have PB1 : Hid (E1.heap[pb2]? = some (.cells #[.string a, .string x] 47 (0, 0))) := by rw [hE1, hpb]; exact blk_new w2 _
        rw [← hE1, ← hpb]
        clear hE1 hpb
        refine ⟨⟨cell_below KE1.out p0, cell_below KE1.out p1⟩, ?_⟩
        refine wpP_do ?_
        simp only [List.getD_cons_zero, List.getD_cons_succ]
        go_wp2_with fail
        obtain ⟨E2, hE2⟩ : ∃ W, W = E1.alloc (.cells #[] 47) := ⟨_, rfl⟩
        have KE2 : Hid (Below w2.heap.size w2 E2) := by rw [hE2]; exact KE1.out.alloc KE1.out.size _
        have PB2 : Hid (E2.heap[pb2]? = some (.cells #[.string a, .string x] 47 (0, 0))) := by rw [hE2]; exact blk_alloc PB1.out _
        have HE2 : Hid (E2.ownsRow w2.heap.size 47 2 (.slice (some ⟨E1.heap.size, 0, none⟩) 0 0) 0 []) := by rw [hE2]; exact World.ownsRow_made E1 #[] 0 KE1.out.size (by decide) rfl
        have NPB : Hid (pb2 ≠ E1.heap.size) := by have := lt_of_block PB1.out; unfold Hid; omega
        rw [← hE2]
        clear hE2
        refine ⟨⟨cell_below KE2.out p0, cell_below KE2.out p1⟩, ?_⟩
        refine wpP_do ?_
        simp only [List.getD_cons_zero, List.getD_cons_succ]
        refine (wpList_append_own_at _ rfl (.tmp 73) (.tmp 76) 43 rfl w2.heap.size 47 i0 _ 2 32 Try.underlying43 hi0 hz0 hz1 hz2 rfl (by decide) (.slice (some ⟨E1.heap.size, 0, none⟩) 0 0) 0 [] rfl HE2.out ⟨b1, o1, none⟩ k c1 (prv (l1.take k)) rfl TK (fun j u hj => cell_below KE2.out (SRC.out j u hj)) (prv_one _) (by unfold maxLen; omega) (by omega) KE2.out.size ?_)
        intro v1 Wz ho1 hg4 _ hat4
        have KZ : Hid (Below w2.heap.size w2 Wz) := KE2.out.trans ((Below.refl w2.heap.size E2).grown hg4 KE2.out.size (fun j hj => by cases hj; exact KE1.out.size))
        rw [Nat.zero_add, List.nil_append] at ho1
        have HO1 := Lib.hid ho1
        have PB : Hid (Wz.heap[pb2]? = some (.cells #[.string a, .string x] 47 (0, 0))) := (hg4.block _ (lt_of_block PB2.out) (fun e => by cases e; exact NPB.out rfl)).trans PB2.out
        clear hg4 ho1 PB2 NPB hat4
        go_wp2_with fail
        refine ⟨⟨cell_below KZ.out p0, cell_below KZ.out p1⟩, ?_⟩
        refine wpP_do ?_
        simp only [List.getD_cons_zero, List.getD_cons_succ]
        refine (wpList_append_own_at _ rfl (.tmp 77) (.tmp 79) 43 rfl w2.heap.size 47 i0 _ 2 32 Try.underlying43 hi0 hz0 hz1 hz2 rfl (by decide) v1 k (prv (l1.take k)) rfl HO1.out ⟨pb2, 0, none⟩ 1 1 [.string a, .string x] rfl rfl (two_at2 PB.out) (by simp [Value.oneCell']) (by unfold maxLen; omega) (by omega) KZ.out.size ?_)
        intro v2 w5 ho2 hg5 _ hat5
        have K5 : Hid (Below w2.heap.size w2 w5) := KZ.out.trans ((Below.refl w2.heap.size Wz).grown hg5 KZ.out.size (fun j hj => (HO1.out.lt j hj).1))
        have HO2 : Hid (w5.ownsRow w2.heap.size 47 2 v2 (k + 1) (prv (l1.take k ++ [(a, x)]))) := by unfold Hid; rw [prv_append]; exact ho2
        clear ho2 hg5 hat5
        go_wp2_with fail
        refine ⟨⟨cell_below K5.out p0, cell_below K5.out p1⟩, ?_⟩
        refine wpP_do ?_
        simp only [List.getD_cons_zero, List.getD_cons_succ]
        refine (wpList_append_own_at _ rfl (.tmp 80) (.tmp 81) 43 rfl w2.heap.size 47 i0 _ 2 32 Try.underlying43 hi0 hz0 hz1 hz2 rfl (by decide) v2 (k + 1) (prv (l1.take k ++ [(a, x)])) rfl HO2.out rp R.length cr (prv R) rfl (prv_len R) (fun j u hj => cell_below K5.out (RC.out j u hj)) (prv_one _) (by unfold maxLen; omega) (by omega) K5.out.size ?_)
        intro v3 w6 ho3 hg6 _ hat6
        have K6 : Hid (Below w2.heap.size w2 w6) := K5.out.trans ((Below.refl w2.heap.size w5).grown hg6 K5.out.size (fun j hj => (HO2.out.lt j hj).1))
        obtain ⟨Al, cl, rfl, HL⟩ : ∃ A c, v3 = .slice A nl.length c ∧ Hid (LfRd w6 ⟨id1, nl, A, c⟩) := by
          have e : prv (l1.take k ++ [(a, x)]) ++ prv R = prv nl := by rw [← prv_append, ← NL.out]
          rw [e] at ho3
          obtain ⟨A, c, e1, e2⟩ := lf_own ho3 id1
          exact ⟨A, c, e1, e2⟩
        clear ho3 hg6 hat6
        go_wp2_with fail
        refine ⟨⟨cell_below K6.out p0, cell_below K6.out p1⟩, ?_⟩
        repeat (refine wpP_dry (fun K hK => ?_); simp only [List.getD_cons_zero, List.getD_cons_succ]; go_simp; refine hK _ ?_; clear hK K)
        refine wpP_done ?_
        go_wp2_with fail
        go_meet
        exact ⟨Al, cl, rfl, HL, K6⟩
    case rest =>
      obtain ⟨Al, cl, rfl, HL, K6⟩ := hcut
      clear RC SRC TK p0 p1 HP2
      have B6 : Hid (Below w.heap.size w wc) := Q2.out.trans (K6.out.mono Q2.out.size)
      have SZ := Lib.hid (sizes_any wc Al nl.length cl nl rfl HL.out.1 ⟨by omega, fun p hp => by have := szP_le (NE.out p hp); omega⟩)
      generalize hsz : szL nl = sz at SZ NZ PUT
      have HSZ := Lib.hid hsz
      clear hsz
      by_cases hfit : sz ≤ 1020
      · have dsz : decide ((sz : Int) ≤ 1020) = true := by simp; omega
        have dsz' : decide (sz ≤ 1020) = true := by simpa using hfit
        go_wp2_with fail
        refine SZ.out.mono ?_
        rintro e w7 ⟨rfl, q7⟩
        have B7 : Hid (Below w.heap.size w w7) := B6.out.trans (q7.mono B6.out.size)
        have S7 := H0.out.below B7.out
        have r1 := blk_cell S7.box 1
        simp at r1
        have f1 := S7.row_free (i * 2 + 1)
        have r2 : w7.cell? ⟨b, i * 2 + 1, none⟩ = some (.slice (some ⟨b1, o1, none⟩) l1.length c1) := by
          rcases CELL.out w7 1 S7 with h | h
          · exact h
          · omega
        have hx : id1 = L[i].id := by rw [← HY.out]
        have HL7 : LfRd w7 ⟨id1, nl, Al, cl⟩ := HL.out.touch (Touch.of_below q7 : Touch (fun _ => False) wc w7) (fun _ _ x => x)
        have S8 : ShO (w7.setCell ⟨b, i * 2 + 1, none⟩ (.slice Al nl.length cl)) base gs gj (.slice (some ⟨b, 0, none⟩) L.length cap) (L.set i ⟨id1, nl, Al, cl⟩) := S7.setLeaf hiL ⟨id1, nl, Al, cl⟩ hx HL7
        have T8 : Hid (Touch (fun k => k = gs ∨ (Value.slice (some ⟨b, 0, none⟩) L.length cap).ownBlock = some k) w (w7.setCell ⟨b, i * 2 + 1, none⟩ (.slice Al nl.length cl))) := (Touch.of_below B7.out : Touch (fun k => k = gs ∨ (Value.slice (some ⟨b, 0, none⟩) L.length cap).ownBlock = some k) w w7).setCell (p := ⟨b, i * 2 + 1, none⟩) (.inl (.inr rfl)) _
        have G8 : Good (L.set i ⟨id1, nl, Al, cl⟩) := fun y hy => by
          rcases List.mem_or_eq_of_mem_set hy with hy | rfl
          · exact HG.out y hy
          · exact ⟨by show szL nl ≤ 1020; rw [HSZ.out]; exact hfit, NP⟩
        have TD := Lib.hid (tidy_any _ base gs gj _ _ S8 G8 (by rw [List.length_set]; omega) (by have := T8.out.size; omega) i (by omega))
        have SH : Hid (shP (L.set i ⟨id1, nl, Al, cl⟩) = setL (shP L) i nl) := shP_set L i ⟨id1, nl, Al, cl⟩ hiL hx
        have PE : Hid (pa = (0, stepsT (setL (shP L) i nl) (i : Nat) 2)) := by unfold Hid; rw [PUT.out, if_pos hfit]
        clear q7 SZ S7 HL7 S8 G8 hx CELL
        go_wp2_with fail
        refine TD.out.mono ?_
        rintro e w9 ⟨rfl, v9, L9, r9⟩
        have R9 := Lib.hid r9
        clear r9 TD
        go_wp2
        go_ret
        obtain ⟨s9, h9, g9, t9, o9⟩ := R9.out
        refine ⟨by rw [PE.out]; rfl, v9, L9, s9, by rw [h9, SH.out, PE.out], T8.out.trans t9 (fun _ _ h => h), fun k hk => ?_⟩
        rcases o9 k hk with h | h
        · exact .inl h
        · exact .inr (by have := T8.out.size; omega)
      · have dsz : decide ((sz : Int) ≤ 1020) = false := by simp; omega
        have dsz' : decide (sz ≤ 1020) = false := by simpa using hfit
        obtain ⟨bl, ol, rfl, _⟩ := HL.out.1 NP
        go_wp2_with fail
        refine SZ.out.mono ?_
        rintro e w7 ⟨rfl, q7⟩
        have B7 : Hid (Below w.heap.size w w7) := B6.out.trans (q7.mono B6.out.size)
        have S7 := Lib.hid (H0.out.below B7.out)
        have HL7 : Hid (LfRd w7 ⟨id1, nl, some ⟨bl, ol, none⟩, cl⟩) := HL.out.touch (Touch.of_below q7 : Touch (fun _ => False) wc w7) (fun _ _ x => x)
        have c0 : w7.cell? ⟨gs, 0, none⟩ = some (.pointer (some ⟨gj, 0, none⟩)) := by have := blk_cell S7.out.box 0; simpa using this
        have SP := Lib.hid (spare_any w7 gs gj g P (shP L) S7.out.read (HJ0.out.below B7.out) hP c0 (by rw [shP_len]; omega) (fun j hj => by
          have hj2 : j < L.length := by rw [shP_len] at hj; exact hj
          have e : (shP L)[j] = (L[j].id, L[j].l) := by simp [shP]
          rw [e]
          exact HID.out L[j] (List.getElem_mem _)))
        generalize spareA (shP L) P = sp at SP PUT
        clear q7 SZ c0 r1 r2
        go_wp2_with fail
        refine SP.out.mono ?_
        rintro e w8 ⟨rfl, q8⟩
        have B8 : Hid (Below w.heap.size w w8) := B7.out.trans (q8.mono B7.out.size)
        have S8 := Lib.hid (S7.out.below q8)
        have HL8 : Hid (LfRd w8 ⟨id1, nl, some ⟨bl, ol, none⟩, cl⟩) := HL7.out.touch (Touch.of_below q8 : Touch (fun _ => False) w7 w8) (fun _ _ x => x)
        clear q8 SP
        by_cases hsp : sp = 0
        · subst hsp
          have PE : Hid (pa = (5, shP L)) := by unfold Hid; rw [PUT.out, if_neg hfit, if_pos rfl]
          go_wp2
          go_ret
          exact ⟨by rw [PE.out]; rfl, _, L, S8.out, by rw [PE.out], Touch.of_below B8.out, fun k hk => .inl hk⟩
        · have dsp : ((sp : Int) == 0) = false := by rw [beq_eq_false_iff_ne]; omega
          have dsp' : (sp == 0) = false := by rw [beq_eq_false_iff_ne]; omega
          have PE : Hid (pa = (0, stepsT (stepsT (splitL (shP L) i nl sp) ((i + 1 : Nat) : Int) 2) (i : Nat) 2)) := by unfold Hid; rw [PUT.out, if_neg hfit, if_neg hsp]
          have hcl : nl.length ≤ cl := HL8.out.2.1
          clear PUT HL7 S7 NL
          go_wp2_with fail
          go_loopw [14, 15] (fun cv nv wr => ∃ c : Nat, c ≤ nl.length ∧ cv = .int .i64 c ∧ nv = .int .i64 (szL (nl.take c) : Nat) ∧ Hid (cutF nl (nl.length - c) c = cutA nl) ∧ szL (nl.take c) ≤ 973 ∧ Hid (Below w8.heap.size w8 wr)) (fun cv _ _ => nl.length - (intOf cv).toNat)
          case atStart => exact ⟨0, Nat.zero_le _, rfl, rfl, rfl, by rw [List.take_zero]; decide, Below.refl _ _⟩
          case round =>
            obtain ⟨c, hc, rfl, rfl, hcf, hcz, hb⟩ := hrel
            by_cases hlt : szL (nl.take c) < 507
            · have hcl2 : c < nl.length := by
                rcases Nat.lt_or_ge c nl.length with h | h
                · exact h
                · exfalso
                  rw [List.take_of_length_le h, HSZ.out] at hlt
                  omega
              obtain ⟨b', o', e, hcc⟩ := (HL8.out.1.below hb.out) NP
              cases e
              obtain ⟨z0, z1⟩ := hcc c hcl2
              have N1 := NE.out nl[c] (List.getElem_mem _)
              have ST : Hid (szL (nl.take (c + 1)) = szL (nl.take c) + szP nl[c]) := by unfold Hid; rw [List.take_succ_eq_append_getElem hcl2, szL_append]
              have CF : Hid (cutF nl (nl.length - (c + 1)) (c + 1) = cutA nl) := by
                have q := hcf.out
                rw [show nl.length - c = (nl.length - (c + 1)) + 1 by omega, cutF, if_pos hlt] at q
                exact q
              replace z0 : wr.cell? ⟨bl, ol + c * 2, none⟩ = some (.string nl[c].1) := z0
              replace z1 : wr.cell? ⟨bl, ol + c * 2 + 1, none⟩ = some (.string nl[c].2) := z1
              generalize nl[c] = xx at z0 z1 N1 ST
              obtain ⟨x1, x2⟩ := xx
              simp only at z0 z1
              have N2 := szP_le N1
              have SZ1 := fun W => Lib.hid (size1_any W x1 x2 (by have := N2.1; simp only at this; omega) (by have := N2.2; simp only at this; omega))
              generalize szP (x1, x2) = pz at ST N1 SZ1
              generalize szL (nl.take c) = acc at ST hlt hcz ⊢
              obtain ⟨acc2, hacc⟩ : ∃ q, q = szL (nl.take (c + 1)) := ⟨_, rfl⟩
              rw [← hacc] at ST
              have HA := Lib.hid hacc
              have e1 : (acc : Int) + (pz : Int) = (acc2 : Int) := by have := ST.out; omega
              have hac : acc2 ≤ 973 := by have := ST.out; omega
              have hlt' : (acc : Int) < 507 := by omega
              have hcll : (c : Int) < (nl.length : Int) := by omega
              clear hcc hacc hcf N2
              go_wp2_with fail
              refine (SZ1 _).out.mono ?_
              rintro e w9 ⟨rfl, q9⟩
              have B9 : Hid (Below w8.heap.size w8 w9) := hb.out.trans (q9.mono hb.out.size)
              clear q9 SZ1
              go_wp2
              go_roundw
              case rel => first | exact ⟨c + 1, hcl2, by go_num, by rw [HA.out], CF, by rw [← HA.out]; exact hac, B9⟩ | ((repeat apply Exists.intro); refine ⟨?_, rfl⟩; exact ⟨c + 1, hcl2, by go_num, by rw [HA.out], CF, by rw [← HA.out]; exact hac, B9⟩)
              case measure => simp [intOf]; omega
            · have CT : Hid (cutA nl = c) := by unfold Hid; rw [← hcf.out, cutF_stop _ _ _ hlt]
              have cpos : 0 < c := by
                rcases Nat.eq_zero_or_pos c with h | h
                · exfalso; rw [h, List.take_zero] at hlt; exact hlt (by decide)
                · exact h
              have clt : c < nl.length := by
                rcases Nat.lt_or_ge c nl.length with h | h
                · exact h
                · exfalso
                  rw [List.take_of_length_le h, HSZ.out] at hcz
                  omega
              have ZA : Hid (szL (nl.take c) ≤ 1020 ∧ szL (nl.drop c) ≤ 1020) := by
                have q := szL_app (nl.take c) (nl.drop c)
                rw [List.take_append_drop, HSZ.out] at q
                exact ⟨by omega, by omega⟩
              have hlt' : ¬ ((szL (nl.take c) : Nat) : Int) < 507 := by omega
              have BR : Hid (Below w.heap.size w wr) := B8.out.trans (hb.out.mono B8.out.size)
              have SR := Lib.hid (H0.out.below BR.out)
              have HLR : Hid (LfRd wr ⟨id1, nl, some ⟨bl, ol, none⟩, cl⟩) := HL8.out.touch (Touch.of_below hb.out : Touch (fun _ => False) w8 wr) (fun _ _ x => x)
              have c1 := blk_cell SR.out.box 1
              simp at c1
              have c1d : wr.drew.cell? ⟨gs, 1, none⟩ = some (.slice (some ⟨b, 0, none⟩) L.length cap) := c1
              have c2d : wr.drew.cell? ⟨b, i * 2, none⟩ = some (.int .i64 (id1 : Int)) := by
                rcases CELL.out wr 0 SR.out with h | h
                · exact h
                · omega
              obtain ⟨adL, hadL, RL⟩ := lr_from SR.out.row (i + 1) (by omega)
              have RLh := Lib.hid RL
              generalize hzc : szL (nl.take c) = zc at hlt hlt' hcz
              have hii2 : (i : Int) + 1 ≤ (L.length : Int) := by omega
              have hii3 : (0 : Int) ≤ (i : Int) + 1 := by omega
              have hii4 : ((i : Int) + 1).toNat = i + 1 := by omega
              have hii5 : IntKind.i64.wrap ((i : Int) + 1) = (i : Int) + 1 := by rw [IntKind.wrap_i64]; omega
              have hc1 : (c : Int) ≤ (cl : Int) := by omega
              have hc2 : (c : Int) ≤ (nl.length : Int) := by omega
              have hc3 : (nl.length : Int) ≤ (cl : Int) := by omega
              have hc4 : ¬ nl.length = c := by omega
              have hc5 : ¬ c = 0 := by omega
              have hHS := Lib.hid hcf; have HZC := Lib.hid hzc
              obtain ⟨i1, hi1, hy0, hy1, hy2⟩ := info_parts infoLf
              have c1r := Lib.hid c1d; have c2r := Lib.hid c2d
              clear hcf hHS hzc RL c1 hb S8 HL8
              go_wp2_with fail
              refine wp_region_flag (fun w' => w'.cell? ⟨gs, 1, none⟩ = some (.slice (some ⟨b, 0, none⟩) L.length cap) ∧ w'.cell? ⟨b, i * 2, none⟩ = some (.int .i64 (id1 : Int))) [(0, 1), (1, 1), (2, 1), (4, 1), (8, 1), (9, 1), (10, 1), (11, 1), (13, 1), (14, 1), (15, 1), (16, 1), (17, 1), (18, 1), (19, 1), (20, 1), (21, 1), (23, 1), (24, 1), (25, 1), (27, 1), (28, 1), (3, 2), (5, 1), (6, 1), (7, 2), (12, 1), (26, 2), (29, 1), (22, 0), (30, 0), (31, 1)] (by kernel_rfl) (by kernel_rfl) ⟨c1d, c2d⟩ ?_
              simp only [ordered, List.map_cons, List.map_nil, List.getD_cons_zero, List.getD_cons_succ]
              repeat (refine wpF_dry (fun K hK => ?_); go_simp; refine hK _ ?_; clear hK K)
              refine wpF_read (.slice (some ⟨b, 0, none⟩) L.length cap) rfl (fun w' hS => by obtain ⟨s1, s2⟩ := hS; go_simp) (fun K hK => ?_)
              go_simp
              refine hK _ ?_
              clear hK K
              repeat (refine wpF_dry (fun K hK => ?_); go_simp; refine hK _ ?_; clear hK K)
              refine wpF_read (.int .i64 (id1 : Int)) rfl (fun w' hS => by obtain ⟨s1, s2⟩ := hS; go_simp) (fun K hK => ?_)
              go_simp
              refine hK _ ?_
              clear hK K
              repeat (refine wpF_dry (fun K hK => ?_); go_simp; refine hK _ ?_; clear hK K)
              refine wpF_read (.slice (some ⟨b, 0, none⟩) L.length cap) rfl (fun w' hS => by obtain ⟨s1, s2⟩ := hS; go_simp) (fun K hK => ?_)
              go_simp
              refine hK _ ?_
              clear hK K
              repeat (refine wpF_dry (fun K hK => ?_); go_simp; refine hK _ ?_; clear hK K)
              refine wpF_do ?_
              go_wp2_with fail
              obtain ⟨LA, hLA⟩ : ∃ q : Lf, q = ⟨id1, nl.take c, some ⟨bl, ol, none⟩, c⟩ := ⟨_, rfl⟩
              obtain ⟨LB, hLB⟩ : ∃ q : Lf, q = ⟨sp, nl.drop c, some ⟨bl, ol + c * 2, none⟩, nl.length - c⟩ := ⟨_, rfl⟩
              obtain ⟨Wa, hWa⟩ : ∃ q, q = (wr.alloc (.cells #[.int .i64 (id1 : Int), .slice (some ⟨bl, ol, none⟩) c c, .int .i64 (sp : Int), .slice (some ⟨bl, ol + c * 2, none⟩) (nl.length - c) (nl.length - c)] 82)).drew := ⟨_, rfl⟩
              have KA : Hid (Below wr.heap.size wr Wa) := by rw [hWa]; exact ((Below.refl _ wr).alloc (Nat.le_refl _) _).drew
              have lta : (nl.take c).length = c := by rw [List.length_take]; omega
              have OA : Hid (Wa.ownsRow wr.heap.size 82 2 (.slice (some ⟨wr.heap.size, 0, none⟩) 2 2) 2 (lvv [LA, LB])) := by
                have e : lvv [LA, LB] = [.int .i64 (id1 : Int), .slice (some ⟨bl, ol, none⟩) c c, .int .i64 (sp : Int), .slice (some ⟨bl, ol + c * 2, none⟩) (nl.length - c) (nl.length - c)] := by
                  rw [hLA, hLB]
                  simp only [lvv, lta, List.length_drop]
                rw [e]
                exact ⟨rfl, .inr ⟨wr.heap.size, 2, _, rfl, Nat.le_refl _, by rw [hWa]; exact blk_new wr _, by decide, by decide, rfl, rfl⟩⟩
              have RA : Hid (LfRd Wa LA ∧ LfRd Wa LB) := by
                have q := HLR.out.touch (Touch.of_below KA.out : Touch (fun _ => False) wr Wa) (fun _ _ x => x)
                exact ⟨by rw [hLA]; exact lf_take q c (by omega) id1, by rw [hLB]; exact lf_drop q c (by omega) sp⟩
              have c1a := cell_below KA.out c1d; have c2a := cell_below KA.out c2d
              have RLa : Hid (∀ j u, (lvv (L.drop (i + 1)))[j]? = some u → Wa.cell? (adL.add j) = some u) := fun j u hj => cell_below KA.out (RLh.out j u hj)
              have ldl : (lvv (L.drop (i + 1))).length = (L.length - (i + 1)) * 2 := by rw [lvv_len, List.length_drop]
              rw [← hWa]
              have HLA := Lib.hid hLA; have HLB := Lib.hid hLB
              clear hWa hLA hLB lta RLh c1d c2d
              refine ⟨⟨c1a, c2a⟩, ?_⟩
              refine wpF_do ?_
              refine (wpList_append_own_at _ rfl (.tmp 134) (.tmp 141) 83 rfl wr.heap.size 82 i1 _ 2 32 Try.underlying83 hi1 hy0 hy1 hy2 rfl (by decide) (.slice (some ⟨wr.heap.size, 0, none⟩) 2 2) 2 (lvv [LA, LB]) rfl OA.out adL (L.length - (i + 1)) (cap - (i + 1)) (lvv (L.drop (i + 1))) (by first | rfl | (simp only [← hadL]; rfl)) ldl RLa.out (lvv_one _) (by unfold maxLen; omega) (by omega) KA.out.size ?_)
              intro v5 w5 ho5 hg5 _ hat5
              obtain ⟨M, hM⟩ : ∃ q, q = [LA, LB] ++ L.drop (i + 1) := ⟨_, rfl⟩
              have mlen : M.length = 2 + (L.length - (i + 1)) := by rw [hM, List.length_append, List.length_drop]; rfl
              have OM : Hid (w5.ownsRow wr.heap.size 82 2 v5 M.length (lvv M)) := by unfold Hid; rw [mlen, hM, lvv_append]; exact ho5
              obtain ⟨bm, cm, rfl⟩ : ∃ g c, v5 = .slice (some ⟨g, 0, none⟩) M.length c := by
                rcases OM.out.2 with ⟨_, e⟩ | ⟨g, cp, cur, e, _⟩
                · omega
                · exact ⟨g, cp, e⟩
              have K5 : Hid (Below wr.heap.size wr w5) := KA.out.trans ((Below.refl wr.heap.size Wa).grown hg5 KA.out.size (fun j hj => by cases hj; exact Nat.le_refl _))
              have B5 : Hid (Below w.heap.size w w5) := BR.out.trans (K5.out.mono BR.out.size)
              have S5 := Lib.hid (H0.out.below B5.out)
              have c1b := cell_below K5.out (show wr.cell? ⟨gs, 1, none⟩ = _ from c1r.out); have c2b := cell_below K5.out (show wr.cell? ⟨b, i * 2, none⟩ = _ from c2r.out)
              have RD5 : Hid (∀ y ∈ M, LfRd w5 y) := by
                have qa := hg5
                have q := HLR.out.touch (Touch.of_below K5.out : Touch (fun _ => False) wr w5) (fun _ _ x => x)
                have ra : LfRd w5 LA := by rw [HLA.out]; exact lf_take q c (by omega) id1
                have rb : LfRd w5 LB := by rw [HLB.out]; exact lf_drop q c (by omega) sp
                intro y hy
                rw [hM] at hy
                rcases List.mem_append.1 hy with hy | hy
                · rcases List.mem_cons.1 hy with rfl | hy
                  · exact ra
                  · rw [List.mem_singleton] at hy; rw [hy]; exact rb
                · exact S5.out.rd y (List.mem_of_mem_drop hy)
              have HM := Lib.hid hM
              clear ho5 hg5 hat5 c1a c2a RLa OA RA hadL hM
              go_wp2_with fail
              refine ⟨⟨c1b, c2b⟩, ?_⟩
              repeat (refine wpF_dry (fun K hK => ?_); go_simp; refine hK _ ?_; clear hK K)
              refine wpF_nil ?_
              have LW1 : (lvv (L.take i)).length = i * 2 := by rw [lvv_len, List.length_take]; omega
              have RW1 : Hid (∀ j u, (lvv (L.take i))[j]? = some u → w5.cell? ((⟨b, 0, none⟩ : Addr).add j) = some u) := lr_cells0 S5.out.row i
              have RW2 : Hid (∀ j u, (lvv M)[j]? = some u → w5.cell? ((⟨bm, 0, none⟩ : Addr).add j) = some u) := fun j u hj => OM.out.cells (g := bm) rfl j u hj
              have hi7 : (i : Int) ≤ (L.length : Int) := by omega
              have hi8 : (i : Int) ≤ (cap : Int) := by omega
              have f2 : w5.frozen? ⟨gs, 1, none⟩ = false := blk_free S5.out.box 1
              go_wp2_with (at_builtin; refine (wpList_append_full _ rfl (.tmp 150) (.tmp 151) 83 rfl 82 i1 _ 2 32 Try.underlying83 hi1 hy0 hy1 hy2 rfl (by decide) ⟨b, 0, none⟩ i i (Nat.le_refl _) (lvv (L.take i)) rfl LW1 RW1.out ⟨bm, 0, none⟩ (2 + (L.length - (i + 1))) cm (lvv M) rfl (by rw [lvv_len, mlen]) RW2.out (by unfold maxLen; omega) (by omega) (Nat.le_refl _) ?_))
              intro v7 w7' gr7 r7a r7b
              have r7 := (Or.inr ⟨r7a, r7b⟩ : (2 + (L.length - (i + 1)) = 0 ∧ v7 = .slice (some ⟨b, 0, none⟩) i i ∧ w7' = w5) ∨ (0 < 2 + (L.length - (i + 1)) ∧ w7'.ownsRow w5.heap.size 82 2 v7 (i + (2 + (L.length - (i + 1)))) (lvv (L.take i) ++ lvv M)))
              have B7' : Below w5.heap.size w5 w7' := (Below.refl w5.heap.size w5).grown gr7 (Nat.le_refl _) (fun j hj => by cases hj)
              obtain ⟨LR7, OB7⟩ := lrow_full (w := w5) (w' := w7') S5.out.row (n := i) (by omega) (Nat.le_trans hbs B5.out.size) (m := 2 + (L.length - (i + 1))) (M := M) mlen.symm r7
              have S7' := S5.out.below B7'
              have c1f : w7'.cell? ⟨gs, 1, none⟩ = some (.slice (some ⟨b, 0, none⟩) L.length cap) := cell_below B7' c1b
              have f3 : w7'.frozen? ⟨gs, 1, none⟩ = false := blk_free S7'.box 1
              obtain ⟨L8, hL8⟩ : ∃ q, q = L.take i ++ M := ⟨_, rfl⟩
              rw [← hL8] at LR7
              obtain ⟨A7, n7, c7, rfl⟩ : ∃ A n c, v7 = .slice A n c := by
                rcases LR7 with ⟨e, _⟩ | ⟨g, cp, _, e, _⟩
                · exact ⟨none, 0, 0, e⟩
                · exact ⟨_, _, _, e⟩
              have RD8 : ∀ y ∈ L8, LfRd w7' y := fun y hy => by
                rw [hL8] at hy
                rcases List.mem_append.1 hy with hy | hy
                · exact S7'.rd y (List.mem_of_mem_take hy)
                · exact (RD5.out y hy).touch (Touch.of_below B7' : Touch (fun _ => False) w5 w7') (fun _ _ x => x)
              have S8' := S7'.setRow LR7 RD8
              have SH8 : Hid (shP L8 = splitL (shP L) i nl sp) := by
                unfold Hid
                have e : ((shP L).getD i (0, [])).1 = id1 := by
                  rw [List.getD_eq_getElem?_getD, List.getElem?_eq_getElem (by rw [shP_len]; exact hiL)]
                  simp [shP, ← HY.out]
                unfold splitL
                rw [hL8, HM.out, HLA.out, HLB.out, CT.out, e]
                simp [shP, List.map_take, List.map_drop]
              have G8 : Hid (Good L8) := fun y hy => by
                rw [hL8, HM.out] at hy
                rcases List.mem_append.1 hy with hy | hy
                · exact HG.out y (List.mem_of_mem_take hy)
                rcases List.mem_append.1 hy with hy | hy
                · rcases List.mem_cons.1 hy with rfl | hy
                  · rw [HLA.out]
                    exact ⟨ZA.out.1, by show 0 < (nl.take c).length; rw [List.length_take]; omega⟩
                  · rw [List.mem_singleton] at hy
                    rw [hy, HLB.out]
                    exact ⟨ZA.out.2, by show 0 < (nl.drop c).length; rw [List.length_drop]; omega⟩
                · exact HG.out y (List.mem_of_mem_drop hy)
              have len8 : L8.length ≤ 60000 := by rw [hL8, List.length_append, List.length_take, mlen]; omega
              obtain ⟨v0, hv0⟩ : ∃ q, q = Value.slice (some ⟨b, 0, none⟩) L.length cap := ⟨_, rfl⟩
              have T8 : Hid (Touch (fun k => k = gs ∨ v0.ownBlock = some k) w (w7'.setCell ⟨gs, 1, none⟩ (.slice A7 n7 c7))) := (Touch.of_below (B5.out.trans (B7'.mono B5.out.size)) : Touch (fun k => k = gs ∨ v0.ownBlock = some k) w w7').setCell (p := ⟨gs, 1, none⟩) (.inl (.inl rfl)) _
              have OB8 : Hid (∀ k, (Value.slice A7 n7 c7).ownBlock = some k → v0.ownBlock = some k ∨ w.heap.size ≤ k) := fun k' hk' => by
                rcases OB7 with e | ⟨q, e, hq⟩
                · rw [e] at hk'; cases hk'; exact .inl (by rw [hv0]; rfl)
                · rw [e] at hk'; cases hk'
                  exact .inr (Nat.le_trans B5.out.size hq)
              have TD1 := Lib.hid (tidy_any _ base gs gj _ _ S8' G8.out (by omega) (Nat.le_trans hbs T8.out.size) (i + 1) (by omega))
              rw [show ((i + 1 : Nat) : Int) = (i : Int) + 1 from by omega] at TD1
              have HL8' := Lib.hid len8
              clear gr7 r7 r7a r7b LR7 OB7 B7' S7' RD8 S8' hL8 len8 c1b c2b RW1 RW2 RD5 S5 OM K5 B5 HLA HLB HM mlen
              go_wp2_with fail
              refine TD1.out.mono ?_
              rintro e w9 ⟨rfl, v9, L9, r9⟩
              have R9 := Lib.hid r9
              have L9l : Hid (L9.length ≤ 60000) := by
                have q := congrArg List.length r9.2.1
                have q2 := stepsT_len (shP L8) ((i : Int) + 1) 2
                rw [← q, shP_len, shP_len] at q2
                exact Nat.le_trans q2 HL8'.out
              have Z9 : Hid (w.heap.size ≤ w9.heap.size) := Nat.le_trans T8.out.size r9.2.2.2.1.size
              have TD2 := Lib.hid (tidy_any w9 base gs gj v9 L9 r9.1 r9.2.2.1 (by have := L9l.out; omega) (Nat.le_trans hbs Z9.out) i (by omega))
              clear r9 TD1 c1f f3 f2
              go_wp2_with fail
              refine TD2.out.mono ?_
              rintro e w10 ⟨rfl, v10, L10, r10⟩
              have R10 := Lib.hid r10
              clear r10 TD2
              go_wp2
              go_ret
              obtain ⟨s9, h9, g9, t9, o9⟩ := R9.out
              obtain ⟨s10, h10, g10, t10, o10⟩ := R10.out
              have o9' : ∀ k, v9.ownBlock = some k → v0.ownBlock = some k ∨ w.heap.size ≤ k := fun k hk => by
                rcases o9 k hk with h | h
                · exact OB8.out k h
                · exact .inr (by have := T8.out.size; omega)
              refine ⟨by rw [PE.out]; rfl, v10, L10, s10, ?_, ?_, fun k hk => ?_⟩
              · rw [h10, h9, SH8.out, PE.out]
                rfl
              · rw [← hv0]
                refine (T8.out.trans t9 (fun k hk h => ?_)).trans t10 (fun k hk h => ?_)
                · rcases h with h | h
                  · exact .inl h
                  · rcases OB8.out k h with h | h
                    · exact .inr h
                    · omega
                · rcases h with h | h
                  · exact .inl h
                  · rcases o9' k h with h | h
                    · exact .inr h
                    · omega
              · rw [← hv0]
                rcases o10 k hk with h | h
                · exact o9' k h
                · exact .inr (by have := Z9.out; omega)
end Go.Proofs.Ytoolkamajlgcbaa
