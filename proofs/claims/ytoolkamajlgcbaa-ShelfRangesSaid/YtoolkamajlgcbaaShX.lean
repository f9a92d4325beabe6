/- ShX: a shelf amid a law: what each of its functions does to it. -/
import Derived.Test.YtoolkamajlgcbaaShW
set_option linter.unusedVariables false
set_option linter.unusedSimpArgs false
namespace Go.Proofs.Ytoolkamajlgcbaa
open Go.RowKit

structure Stt (w : World) (lo base gs gj g P : Nat) (L : List Lf) : Prop where
  sho : ∃ v, ShO w base gs gj v L
  jb : Jb w gj g P
  lob : lo ≤ base
  log : lo ≤ gs
  bs : base ≤ w.heap.size
  jlt : gj < base
  good : GoodS (shP L)
  two : Two (zs (shP L)) (-9) (-9)
theorem good_of {L : List Lf} (h : GoodS (shP L)) : Good L := fun x hx => by
  have := h (x.id, x.l) (List.mem_map.2 ⟨x, hx, rfl⟩)
  exact ⟨this.1, this.2.1⟩
theorem box_ne {w : World} {base gs gj g P : Nat} {v : Value} {L : List Lf} (h : ShO w base gs gj v L) (hj : Jb w gj g P) : gj ≠ gs := fun e => by
  subst e
  have h1 := h.box
  unfold ShB at h1
  unfold Jb at hj
  rw [h1] at hj
  simp at hj
theorem ShO.own_ge {w : World} {base gs gj : Nat} {v : Value} {L : List Lf} (h : ShO w base gs gj v L) {k : Nat} (hk : v.ownBlock = some k) : base ≤ k := by
  rcases h.row with ⟨rfl, _⟩ | ⟨g, cap, cur, rfl, hb, _⟩
  · cases hk
  · cases hk; exact hb
theorem Stt.below {w w' : World} {lo base gs gj g P : Nat} {L : List Lf} (h : Stt w lo base gs gj g P L) (hb : Below w.heap.size w w') : Stt w' lo base gs gj g P L :=
  ⟨let ⟨v, hv⟩ := h.sho; ⟨v, hv.below hb⟩, h.jb.below hb, h.lob, h.log, Nat.le_trans h.bs hb.size, h.jlt, h.good, h.two⟩
theorem Stt.read {w : World} {lo base gs gj g P : Nat} {L : List Lf} (h : Stt w lo base gs gj g P L) : ShRd w gs (shP L) := let ⟨_, hv⟩ := h.sho; hv.read
theorem shP_leaf {L : List Lf} (h : GoodS (shP L)) (i : Nat) : szL (lfA (shP L) i) ≤ 1020 ∧ (lfA (shP L) i).length ≤ 340 := by
  by_cases hi : i < (shP L).length
  · have h1 := (h _ (lf_mem hi)).1
    have h2 := (szL_len (lfA (shP L) i)).1
    have h1 : szL (lfA (shP L) i) ≤ 1020 := h1
    exact ⟨h1, by omega⟩
  · rw [lfA_out (by omega)]
    exact ⟨by decide, by decide⟩
theorem good_full {L : List Lf} (h : GoodS (shP L)) : Full (shP L) := fun i hi => (h _ (lf_mem hi)).2.1
theorem good_small {L : List Lf} (h : GoodS (shP L)) (i : Nat) : Small (lfA (shP L) i) := small_of (shP_leaf h i).1
theorem zs_le {sh : List (Nat × PL)} (h : GoodS sh) : (zs sh).sum ≤ 1020 * sh.length := by
  induction sh with
  | nil => simp [zs]
  | cons x r ih =>
    have h1 := (h x (List.mem_cons_self ..)).1
    have h2 := ih (fun y hy => h y (List.mem_cons_of_mem _ hy))
    show szL x.2 + (zs r).sum ≤ 1020 * (r.length + 1)
    omega
theorem putA_len (sh : List (Nat × PL)) (P : Nat) (a x : ByteArray) : (putA sh P a x).2.length ≤ sh.length + 1 := by
  unfold putA
  split
  · simp
  · split
    · refine Nat.le_trans (stepsT_len _ _ _) ?_
      unfold setL
      rw [List.length_set]
      omega
    · split
      · show sh.length ≤ _; omega
      · refine Nat.le_trans (stepsT_len _ _ _) (Nat.le_trans (stepsT_len _ _ _) ?_)
        rename_i h0 _ _
        have hp : 0 < sh.length := by
          rcases Nat.eq_zero_or_pos sh.length with h | h
          · exact absurd (List.eq_nil_of_length_eq_zero h) h0
          · exact h
        have := fI_lt (sh := sh) (key := a) hp
        unfold splitL
        simp only [List.length_append, List.length_take, List.length_drop, List.length_cons, List.length_nil]
        omega
theorem dropA_len (sh : List (Nat × PL)) (a : ByteArray) : (dropA sh a).2.length ≤ sh.length := by
  unfold dropA
  split
  · refine Nat.le_trans (stepsT_len _ _ _) ?_
    split
    · simp only [List.length_append, List.length_take, List.length_drop]; omega
    · unfold setL; rw [List.length_set]; exact Nat.le_refl _
  · exact Nat.le_refl _
theorem stt_put {w : World} {lo base gs gj g P : Nat} {L : List Lf} (h : Stt w lo base gs gj g P L) (hP : 2 ≤ P) (hP2 : P ≤ 1000) (hL : L.length ≤ 50000) {a x : ByteArray} (ha : EntOK (a, x)) :
    Calls Try.prog 17 #[.pointer (some ⟨gs, 0, none⟩), .string a, .string x] w fun e w' => e = .returned (.int .i64 ((putA (shP L) P a x).1 : Nat)) ∧ ∃ L', Stt w' lo base gs gj g P L' ∧ shP L' = (putA (shP L) P a x).2 ∧ Below lo w w' := by
  obtain ⟨v, hv⟩ := h.sho
  obtain ⟨k1, k2, k3⟩ := ha
  have fin : ∀ (w' : World) (v' : Value) (L' : List Lf), ShO w' base gs gj v' L' → shP L' = (putA (shP L) P a x).2 → Touch (fun k => k = gs ∨ v.ownBlock = some k) w w' → ∃ L', Stt w' lo base gs gj g P L' ∧ shP L' = (putA (shP L) P a x).2 ∧ Below lo w w' := fun w' v' L' h1 h2 ht => by
    have pi := put_inv h.good h.two hP hP2 (show EntOK (a, x) from ⟨k1, k2, k3⟩)
    rw [← h2] at pi
    exact ⟨L', ⟨⟨v', h1⟩, h.jb.touch ht (fun e => by
      rcases e with e | e
      · exact box_ne hv h.jb e
      · have := hv.own_ge e; have := h.jlt; omega), h.lob, h.log, Nat.le_trans h.bs ht.size, h.jlt, pi.1, pi.2.1⟩, h2, ht.below (Nat.le_trans h.lob h.bs) (fun k e => by
      rcases e with e | e
      · rw [e]; exact h.log
      · exact Nat.le_trans h.lob (hv.own_ge e))⟩
  rcases Nat.eq_zero_or_pos L.length with h0 | h0
  · have e0 := List.eq_nil_of_length_eq_zero h0
    subst e0
    refine (put_zero w base gs gj v hv h.bs a x k1 k2 k3).mono ?_
    rintro e w' ⟨rfl, v', L', h1, h2, h3, _⟩
    have e1 : putA (shP []) P a x = (0, [(1, [(a, x)])]) := by unfold putA; rw [if_pos (show shP [] = [] from rfl)]
    exact ⟨by rw [e1]; rfl, fin w' v' L' h1 (by rw [h2, e1]) h3⟩
  · refine (put_any w base gs gj g P v L hv h.jb hP2 (good_of h.good) (fun y hy p hp => EntOK.sz ((h.good (y.id, y.l) (List.mem_map.2 ⟨y, hy, rfl⟩)).2.2.1 p hp)) h0 hL (fun y hy => by
      have := (h.good (y.id, y.l) (List.mem_map.2 ⟨y, hy, rfl⟩)).2.2.2
      have this : y.id ≤ 1000 := this
      omega) h.bs a x k1 k2 k3).mono ?_
    rintro e w' ⟨rfl, v', L', h1, h2, h3, _⟩
    exact ⟨rfl, fin w' v' L' h1 h2 h3⟩
theorem stt_drop {w : World} {lo base gs gj g P : Nat} {L : List Lf} (h : Stt w lo base gs gj g P L) (hL : L.length ≤ 50000) (a : ByteArray) :
    Calls Try.prog 12 #[.pointer (some ⟨gs, 0, none⟩), .string a] w fun e w' => e = .returned (.bool (dropA (shP L) a).1) ∧ ∃ L', Stt w' lo base gs gj g P L' ∧ shP L' = (dropA (shP L) a).2 ∧ Below lo w w' := by
  obtain ⟨v, hv⟩ := h.sho
  refine (drop_any w base gs gj v L hv (good_of h.good) hL h.bs a).mono ?_
  rintro e w' ⟨rfl, v', L', h1, h2, _, ht, _⟩
  have pi := drop_inv (a := a) h.good h.two
  rw [← h2] at pi
  exact ⟨rfl, L', ⟨⟨v', h1⟩, h.jb.touch ht (fun e => by
    rcases e with e | e
    · exact box_ne hv h.jb e
    · have := hv.own_ge e; have := h.jlt; omega), h.lob, h.log, Nat.le_trans h.bs ht.size, h.jlt, pi.1, pi.2.1⟩, h2, ht.below (Nat.le_trans h.lob h.bs) (fun k e => by
    rcases e with e | e
    · rw [e]; exact h.log
    · exact Nat.le_trans h.lob (hv.own_ge e))⟩
theorem stt_get {w : World} {lo base gs gj g P : Nat} {L : List Lf} (h : Stt w lo base gs gj g P L) (hL : L.length ≤ 50000) (a : ByteArray) :
    Calls Try.prog 15 #[.pointer (some ⟨gs, 0, none⟩), .string a] w fun e w' => e = .returned (.tuple #[.string ((getK (shP L) a).getD ByteArray.empty), .bool (getK (shP L) a).isSome]) ∧ Below w.heap.size w w' :=
  get_any w gs (shP L) h.read (good_full h.good) (by rw [shP_len]; omega) (fun i => by have := (shP_leaf h.good i).2; omega) a
theorem stt_size {w : World} {lo base gs gj g P : Nat} {L : List Lf} (h : Stt w lo base gs gj g P L) (hL : L.length ≤ 50000) :
    Calls Try.prog 16 #[.pointer (some ⟨gs, 0, none⟩)] w fun e w' => e = .returned (.int .i64 ((zs (shP L)).sum : Nat)) ∧ Below w.heap.size w w' := by
  have hz := zs_le h.good
  rw [shP_len] at hz
  rw [← zs_sizS]
  exact ssize_any w gs (shP L) h.read (by rw [shP_len]; omega) (fun i _ => good_small h.good i) (by rw [zs_sizS]; omega)
theorem stt_range {w : World} {lo base gs gj g P : Nat} {L : List Lf} (h : Stt w lo base gs gj g P L) (hL : L.length ≤ 50000) (frm til : ByteArray) (most : Int) :
    Calls Try.prog 19 #[.pointer (some ⟨gs, 0, none⟩), .string frm, .string til, .int .i64 most] w fun e w' => ∃ v, e = .returned v ∧ w'.ownsRow w.heap.size 47 2 v (rngR (shP L) frm til most).length (prv (rngR (shP L) frm til most)) ∧ Below w.heap.size w w' := by
  refine range_any w gs (shP L) h.read (good_full h.good) (by rw [shP_len]; omega) (fun i => by have := (shP_leaf h.good i).2; omega) (fun i k => ?_) frm til most
  have fl : ∀ (l : List (Nat × PL)), (∀ y ∈ l, y.2.length ≤ 340) → (l.flatMap (·.2)).length ≤ 340 * l.length := by
    intro l
    induction l with
    | nil => intro _; simp
    | cons y r ih =>
      intro hl
      have h1 := hl y (List.mem_cons_self ..)
      have h2 := ih (fun z hz => hl z (List.mem_cons_of_mem _ hz))
      rw [List.flatMap_cons, List.length_append, List.length_cons]
      omega
  have h1 := fl ((shP L).drop (i + 1)) (fun y hy => by
    have := (szL_len y.2).1
    have := (h.good y (List.mem_of_mem_drop hy)).1
    omega)
  have h2 := (shP_leaf h.good i).2
  unfold tailS
  rw [List.length_append, List.length_drop]
  rw [List.length_drop, shP_len] at h1
  omega
theorem stt_new {w : World} {lo gs gj g P : Nat} (hb : ShB w gs gj (.slice none 0 0)) (hj : Jb w gj g P) (h1 : lo ≤ gs) (h2 : lo ≤ w.heap.size) : Stt w lo w.heap.size gs gj g P [] :=
  ⟨⟨_, ⟨hb, .inl ⟨rfl, rfl⟩, fun x hx => by cases hx⟩⟩, hj, h2, h1, Nat.le_refl _, lt_of_block hj, (fun x hx => by cases hx), (fun k hk => by simp [zs, shP] at hk)⟩
end Go.Proofs.Ytoolkamajlgcbaa
