/- JwP: a store's pages behind any failure: what a commit or an opening that is broken off leaves. In plain words. -/
import Derived.Test.YtpaabfadniakoaaJwM
import Derived.Test.YtpaabfadniakoaaJsP
set_option linter.unusedVariables false
set_option linter.unusedSimpArgs false
namespace Go.Proofs.Ytpaabfadniakoaa
open Go.RowKit

def sec (l : List ByteArray) (i : Nat) : ByteArray := l.getD i ByteArray.empty
/-- What a page's quarter has: the copy's where the mark tells it, else its own. -/
def valP (P : Nat) (l : List ByteArray) (i j : Nat) : ByteArray := if told (sec l 0) i = true then sec l (1 + 4 * i + j) else sec l (1 + 4 * (P + i) + j)
def VIs (P : Nat) (X : Nat → Nat → ByteArray) (l : List ByteArray) : Prop := ∀ i j, i < P → j < 4 → valP P l i j = X i j
abbrev Sst := List ByteArray × List Stp
def Pre (G : Sst → Prop) (s : Sst) (L : List Stp) : Prop := ∀ k, k ≤ L.length → G (exs s (L.take k))
theorem pre_append {G : Sst → Prop} {s : Sst} {A B : List Stp} (h1 : Pre G s A) (h2 : Pre G (exs s A) B) : Pre G s (A ++ B) := fun k hk => by
  rw [List.length_append] at hk
  by_cases h : k ≤ A.length
  · rw [List.take_append_of_le_length h]; exact h1 k h
  · rw [List.take_append, List.take_of_length_le (by omega), exs_append]
    exact h2 _ (by omega)
theorem pre_mono {G H : Sst → Prop} {s : Sst} {L : List Stp} (h : Pre G s L) (hg : ∀ t, G t → H t) : Pre H s L := fun k hk => hg _ (h k hk)
theorem pre_writes {G : Sst → Prop} {l : List ByteArray} {A : List Stp} (h0 : ∀ x ∈ A, 0 ≤ x.1) (h : ∀ W : List Stp, (∀ x ∈ W, x ∈ A) → G (l, W)) : Pre G (l, []) A := fun k hk => by
  have hm : ∀ x ∈ A.take k, x ∈ A := fun x hx => List.mem_of_mem_take hx
  rw [exs_writes l _ _ (fun x hx => h0 x (hm x hx)), List.nil_append]
  exact h _ hm
theorem pre_flush {G : Sst → Prop} {s : Sst} (h1 : G s) (h2 : G (Dk.settle (fun _ => true) 0 s.2 s.1, [])) : Pre G s [flushS] := fun k hk => by
  match k, hk with
  | 0, _ => exact h1
  | 1, _ => exact h2
/-- All that settles has these pages. -/
def GV (P : Nat) (X : Nat → Nat → ByteArray) (s : Sst) : Prop := ∀ p, VIs P X (Dk.settle p 0 s.2 s.1)
theorem gv_nil {P : Nat} {X : Nat → Nat → ByteArray} {l : List ByteArray} : GV P X (l, []) ↔ VIs P X l := ⟨fun h => h (fun _ => true), fun h _ => h⟩
theorem settle_keep (p : Nat → Bool) {ws : List Stp} {l : List ByteArray} {i : Nat} (hi : i < l.length) (h : ∀ w ∈ ws, w.1.toNat ≠ i) : sec (Dk.settle p 0 ws l) i = sec l i := by
  rcases settle_get p ws 0 l i hi with e | ⟨w, hw, e, _⟩
  · exact e
  · exact absurd e (h w hw)
theorem look_same {i : Int} {v : ByteArray} : ∀ (ws : List Stp) (s : ByteArray), (∀ w ∈ ws, w.1 = i → w.2 = v) → (s = v ∨ ∃ w ∈ ws, w.1 = i) → Dk.look i ws s = v
  | [], s, _, h => by
    rcases h with h | ⟨w, hw, _⟩
    · exact h
    · cases hw
  | w :: ws, s, hv, h => by
    rw [Dk.look]
    refine look_same ws _ (fun x hx => hv x (List.mem_cons_of_mem _ hx)) ?_
    by_cases e : w.1 = i
    · exact .inl (by rw [if_pos e]; exact hv w (List.mem_cons_self ..) e)
    · rw [if_neg e]
      rcases h with h | ⟨x, hx, ex⟩
      · exact .inl h
      · rcases List.mem_cons.1 hx with rfl | hx
        · exact absurd ex e
        · exact .inr ⟨x, hx, ex⟩
theorem flush_sec {ws : List Stp} {l : List ByteArray} {i : Nat} {v : ByteArray} (hi : i < l.length) (h0 : ∀ w ∈ ws, 0 ≤ w.1) (hv : ∀ w ∈ ws, w.1 = (i : Int) → w.2 = v) (h : ∃ w ∈ ws, w.1 = (i : Int)) : sec (Dk.settle (fun _ => true) 0 ws l) i = v := by
  unfold sec
  rw [settle_all _ ws 0 l i hi (fun _ _ _ => rfl) h0]
  exact look_same ws _ hv (.inr h)
/-- Writes that bring home what the mark tells. -/
structure Fin' (P : Nat) (l : List ByteArray) (B : List Stp) : Prop where
  each : ∀ x ∈ B, ∃ i j : Nat, i < P ∧ j < 4 ∧ told (sec l 0) i = true ∧ x = (((1 + 4 * (P + i) + j : Nat) : Int), sec l (1 + 4 * i + j))
  all : ∀ i j : Nat, i < P → j < 4 → told (sec l 0) i = true → ∃ x ∈ B, x.1 = ((1 + 4 * (P + i) + j : Nat) : Int)
theorem sec_set_ne {l : List ByteArray} {i k : Nat} (z : ByteArray) (h : i ≠ k) : sec (l.set i z) k = sec l k := by
  unfold sec
  rw [List.getD_eq_getElem?_getD, List.getElem?_set_ne h, ← List.getD_eq_getElem?_getD]
theorem sec_set_self {l : List ByteArray} {i : Nat} (z : ByteArray) (h : i < l.length) : sec (l.set i z) i = z := by
  unfold sec
  rw [List.getD_eq_getElem?_getD, List.getElem?_set_self h]
  rfl
theorem fin_low {P : Nat} {l : List ByteArray} {B W : List Stp} (hl : 8 * P + 1 ≤ l.length) (hB : Fin' P l B) (hW : ∀ x ∈ W, x ∈ B) (p : Nat → Bool) {k : Nat} (hk : k < 1 + 4 * P) : sec (Dk.settle p 0 W l) k = sec l k :=
  settle_keep p (by omega) (fun w hw e => by
    obtain ⟨i, j, _, _, _, rfl⟩ := hB.each w (hW w hw)
    simp only at e
    omega)
theorem fin_own {P : Nat} {l : List ByteArray} {B W : List Stp} (hl : 8 * P + 1 ≤ l.length) (hB : Fin' P l B) (hW : ∀ x ∈ W, x ∈ B) (p : Nat → Bool) {i j : Nat} (hi : i < P) (hj : j < 4) (ht : told (sec l 0) i = false) : sec (Dk.settle p 0 W l) (1 + 4 * (P + i) + j) = sec l (1 + 4 * (P + i) + j) :=
  settle_keep p (by omega) (fun w hw e => by
    obtain ⟨i', j', _, _, ht', rfl⟩ := hB.each w (hW w hw)
    simp only at e
    obtain rfl : i' = i := by omega
    rw [ht] at ht'
    exact absurd ht' (by decide))
theorem fin_val {P : Nat} {X : Nat → Nat → ByteArray} {l : List ByteArray} {B W : List Stp} (hl : 8 * P + 1 ≤ l.length) (hv : VIs P X l) (hB : Fin' P l B) (hW : ∀ x ∈ W, x ∈ B) : GV P X (l, W) := fun p i j hi hj => by
  rw [← hv i j hi hj]
  unfold valP
  rw [fin_low hl hB hW p (by omega)]
  by_cases ht : told (sec l 0) i = true
  · rw [if_pos ht, if_pos ht, fin_low hl hB hW p (by omega)]
  · rw [if_neg ht, if_neg ht, fin_own hl hB hW p hi hj (by simpa using ht)]
theorem fin_home {P : Nat} {l : List ByteArray} {B : List Stp} (hl : 8 * P + 1 ≤ l.length) (hB : Fin' P l B) {i j : Nat} (hi : i < P) (hj : j < 4) (ht : told (sec l 0) i = true) : sec (Dk.settle (fun _ => true) 0 B l) (1 + 4 * (P + i) + j) = sec l (1 + 4 * i + j) :=
  flush_sec (by omega) (fun w hw => by
    obtain ⟨i', j', _, _, _, rfl⟩ := hB.each w hw
    simp only
    omega) (fun w hw e => by
    obtain ⟨i', j', h1, h2, h3, rfl⟩ := hB.each w hw
    simp only at e ⊢
    obtain rfl : i' = i := by omega
    obtain rfl : j' = j := by omega
    rfl) (hB.all i j hi hj ht)
theorem settle_mark (p : Nat → Bool) (l : List ByteArray) (z : ByteArray) : Dk.settle p 0 [(0, z)] l = l ∨ Dk.settle p 0 [(0, z)] l = l.set 0 z := by
  show (if p 0 = true then l.set 0 z else l) = l ∨ (if p 0 = true then l.set 0 z else l) = l.set 0 z
  split
  · exact .inr rfl
  · exact .inl rfl
/-- A mark that is written: either way. -/
theorem pre_mark {G : List ByteArray → Prop} {l : List ByteArray} {z : ByteArray} (h1 : G l) (h2 : G (l.set 0 z)) : Pre (fun s => ∀ p, G (Dk.settle p 0 s.2 s.1)) (l, []) ([(0, z)] ++ [flushS]) := by
  have h0 : ∀ x ∈ ([(0, z)] : List Stp), 0 ≤ x.1 := fun x hx => by
    obtain rfl : x = (0, z) := by simpa using hx
    exact Int.le_refl _
  have hm : ∀ p, G (Dk.settle p 0 [(0, z)] l) := fun p => by
    rcases settle_mark p l z with e | e
    · rw [e]; exact h1
    · rw [e]; exact h2
  intro k hk
  match k, hk with
  | 0, _ => exact fun _ => h1
  | 1, _ => exact fun p => hm p
  | 2, _ => exact fun _ => h2
theorem fin_pre {P : Nat} {X : Nat → Nat → ByteArray} {l : List ByteArray} {B : List Stp} (hl : 8 * P + 1 ≤ l.length) (hv : VIs P X l) (hB : Fin' P l B) : Pre (GV P X) (l, []) (B ++ [flushS] ++ ([(0, Dk.sector0)] ++ [flushS])) := by
  have h0 : ∀ x ∈ B, 0 ≤ x.1 := fun x hx => by
    obtain ⟨i, j, _, _, _, rfl⟩ := hB.each x hx
    simp only
    omega
  have e1 : exs (l, []) B = (l, B) := by rw [exs_writes l B [] h0, List.nil_append]
  have hG := fin_val hl hv hB (fun x hx => hx)
  have hG1 : VIs P X (Dk.settle (fun _ => true) 0 B l) := hG _
  refine pre_append (pre_append (pre_writes h0 (fun W hW => fin_val hl hv hB hW)) ?_) ?_
  · rw [e1]
    exact pre_flush hG (gv_nil.2 hG1)
  · rw [exs_append, e1, exs_flush]
    refine pre_mark hG1 ?_
    intro i j hi hj
    have hl1 := Dk.settle_length (fun _ => true) B 0 l
    unfold valP
    have z0 : sec ((Dk.settle (fun _ => true) 0 B l).set 0 Dk.sector0) 0 = Dk.sector0 := sec_set_self _ (by omega)
    have z1 : sec ((Dk.settle (fun _ => true) 0 B l).set 0 Dk.sector0) (1 + 4 * (P + i) + j) = sec (Dk.settle (fun _ => true) 0 B l) (1 + 4 * (P + i) + j) := sec_set_ne _ (by omega)
    rw [z0, told_zero, if_neg (by decide), z1, ← hv i j hi hj]
    unfold valP
    by_cases ht : told (sec l 0) i = true
    · rw [if_pos ht, fin_home hl hB hi hj ht]
    · rw [if_neg ht, fin_own hl hB (fun x hx => hx) _ hi hj (by simpa using ht)]
theorem steps_mem {q : Nat → Nat} {M : List Chg} {x : Stp} (h : x ∈ M.flatMap (fun c => laid ((1 + 4 * q c.1 : Nat) : Int) c.2)) : ∃ c ∈ M, ∃ j : Nat, j < 4 ∧ x = (((1 + 4 * q c.1 + j : Nat) : Int), cut4 c.2 j) := by
  rw [List.mem_flatMap] at h
  obtain ⟨c, hc, hx⟩ := h
  obtain ⟨j, hj, rfl⟩ := layK_mem hx
  exact ⟨c, hc, j, hj, by rw [Int.natCast_add ((1 + 4 * q c.1))]⟩
theorem mem_layK {p : Int} {s : ByteArray} : ∀ {n j : Nat}, j < n → (p + (j : Nat), cut4 s j) ∈ layK p s n
  | n + 1, j, h => by
    rw [layK, List.mem_append]
    by_cases e : j = n
    · subst e; exact .inr (List.mem_singleton.2 rfl)
    · exact .inl (mem_layK (by omega))
theorem mem_steps {q : Nat → Nat} {M : List Chg} {c : Chg} (hc : c ∈ M) {j : Nat} (hj : j < 4) : (((1 + 4 * q c.1 + j : Nat) : Int), cut4 c.2 j) ∈ M.flatMap (fun c => laid ((1 + 4 * q c.1 : Nat) : Int) c.2) := by
  rw [List.mem_flatMap]
  refine ⟨c, hc, ?_⟩
  rw [Int.natCast_add (1 + 4 * q c.1)]
  exact mem_layK hj
/-- Pages that a commit makes of others. -/
structure Wnt (P : Nat) (M : List Chg) (X0 X1 : Nat → Nat → ByteArray) : Prop where
  new : ∀ c ∈ M, ∀ j, j < 4 → X1 c.1 j = cut4 c.2 j
  old : ∀ i j, i < P → j < 4 → (∀ c ∈ M, c.1 ≠ i) → X1 i j = X0 i j
theorem commit_pre {P : Nat} {M : List Chg} (hP : P ≤ 128) (hM : ∀ c ∈ M, c.1 < P ∧ c.2.size = 1024) (hd : M.Pairwise (fun a b => a.1 ≠ b.1)) {X0 X1 : Nat → Nat → ByteArray} (hW : Wnt P M X0 X1) {l : List ByteArray} (hl : 8 * P + 1 ≤ l.length) (hm : sec l 0 = Dk.sector0) (hv : VIs P X0 l) :
    Pre (fun s => ∀ p, VIs P X0 (Dk.settle p 0 s.2 s.1) ∨ VIs P X1 (Dk.settle p 0 s.2 s.1)) (l, []) (commitK P M) ∧ GV P X1 (exs (l, []) (commitK P M)) := by
  have hown : ∀ i j, i < P → j < 4 → sec l (1 + 4 * (P + i) + j) = X0 i j := fun i j hi hj => by
    have := hv i j hi hj
    unfold valP at this
    rwa [hm, told_zero, if_neg (by decide)] at this
  have hA0 : ∀ x ∈ stepsA M, 0 ≤ x.1 := fun x hx => by
    obtain ⟨c, _, j, _, rfl⟩ := steps_mem (q := fun i => i) hx
    simp only
    omega
  -- the copies are being written
  have hAk : ∀ (W : List Stp), (∀ x ∈ W, x ∈ stepsA M) → ∀ p k, (k = 0 ∨ 1 + 4 * P ≤ k) → k < l.length → sec (Dk.settle p 0 W l) k = sec l k := fun W hW p k hk hkl =>
    settle_keep p hkl (fun w hw e => by
      obtain ⟨c, hc, j, hj, rfl⟩ := steps_mem (q := fun i => i) (hW w hw)
      have := (hM c hc).1
      simp only at e
      omega)
  have hA : ∀ (W : List Stp), (∀ x ∈ W, x ∈ stepsA M) → GV P X0 (l, W) := fun W hW p i j hi hj => by
    unfold valP
    rw [hAk W hW p 0 (.inl rfl) (by omega), hm, told_zero, if_neg (by decide), hAk W hW p _ (.inr (by omega)) (by omega)]
    exact hown i j hi hj
  have e1 : exs (l, []) (stepsA M) = (l, stepsA M) := by rw [exs_writes l _ [] hA0, List.nil_append]
  have hcopy : ∀ c ∈ M, ∀ j, j < 4 → sec (Dk.settle (fun _ => true) 0 (stepsA M) l) (1 + 4 * c.1 + j) = cut4 c.2 j := fun c hc j hj => by
    have hc1 := (hM c hc).1
    refine flush_sec (by omega) hA0 (fun w hw e => ?_) ⟨_, mem_steps (q := fun i => i) hc hj, rfl⟩
    obtain ⟨c', hc', j', hj', rfl⟩ := steps_mem (q := fun i => i) hw
    simp only at e ⊢
    have e1 : c'.1 = c.1 := by omega
    obtain rfl : j' = j := by omega
    obtain ⟨a, ha, rfl⟩ := List.getElem_of_mem hc
    obtain ⟨b, hb, rfl⟩ := List.getElem_of_mem hc'
    have hp := List.pairwise_iff_getElem.1 hd
    rcases Nat.lt_trichotomy a b with h | h | h
    · exact absurd e1.symm (hp a b ha hb h)
    · subst h; rfl
    · exact absurd e1 (hp b a hb ha h)
  have hv1 : VIs P X0 (Dk.settle (fun _ => true) 0 (stepsA M) l) := hA _ (fun x hx => hx) _
  have hm1 : ∀ k, (k = 0 ∨ 1 + 4 * P ≤ k) → k < l.length → sec (Dk.settle (fun _ => true) 0 (stepsA M) l) k = sec l k := hAk _ (fun x hx => hx) _
  have hl1 : (Dk.settle (fun _ => true) 0 (stepsA M) l).length = l.length := Dk.settle_length ..
  generalize hL1 : Dk.settle (fun _ => true) 0 (stepsA M) l = l1 at hcopy hv1 hm1 hl1
  -- the mark
  have hs0 : sec (l1.set 0 (mkB M)) 0 = mkB M := sec_set_self _ (by omega)
  have htold : ∀ i, told (mkB M) i = M.any (fun c => decide (c.1 = i)) := told_mk hP (fun c hc => (hM c hc).1)
  have hv2 : VIs P X1 (l1.set 0 (mkB M)) := fun i j hi hj => by
    unfold valP
    rw [hs0, htold, sec_set_ne _ (by omega), sec_set_ne _ (by omega)]
    by_cases ht : M.any (fun c => decide (c.1 = i)) = true
    · rw [if_pos ht]
      obtain ⟨c, hc, e⟩ := List.any_eq_true.1 ht
      obtain rfl : c.1 = i := by simpa using e
      rw [hcopy c hc j hj, hW.new c hc j hj]
    · rw [if_neg ht, hm1 _ (.inr (by omega)) (by omega), hown i j hi hj]
      refine (hW.old i j hi hj (fun c hc e => ht ?_)).symm
      rw [List.any_eq_true]
      exact ⟨c, hc, by simpa using e⟩
  have hF : Fin' P (l1.set 0 (mkB M)) (stepsB P M) := by
    refine ⟨fun x hx => ?_, fun i j hi hj ht => ?_⟩
    · obtain ⟨c, hc, j, hj, rfl⟩ := steps_mem (q := fun i => P + i) hx
      refine ⟨c.1, j, (hM c hc).1, hj, ?_, ?_⟩
      · rw [hs0, htold, List.any_eq_true]
        exact ⟨c, hc, by simp⟩
      · rw [sec_set_ne _ (by omega), hcopy c hc j hj]
    · rw [hs0, htold, List.any_eq_true] at ht
      obtain ⟨c, hc, e⟩ := ht
      obtain rfl : c.1 = i := by simpa using e
      exact ⟨_, mem_steps (q := fun i => P + i) hc hj, rfl⟩
  have hfin := fin_pre (B := stepsB P M) (by rw [List.length_set]; omega) hv2 hF
  have e2 : exs (l, []) (stepsA M ++ [flushS]) = (l1, []) := by rw [exs_append, e1, exs_flush, hL1]
  have e3 : exs (l, []) (stepsA M ++ [flushS] ++ ([(0, mkB M)] ++ [flushS])) = (l1.set 0 (mkB M), []) := by rw [exs_append, e2, exs_mark]
  have ec : commitK P M = stepsA M ++ [flushS] ++ ([(0, mkB M)] ++ [flushS]) ++ (stepsB P M ++ [flushS] ++ ([(0, Dk.sector0)] ++ [flushS])) := by
    unfold commitK
    simp only [List.append_assoc]
  rw [ec]
  refine ⟨pre_append (pre_append (pre_append (pre_writes hA0 (fun W hW p => .inl (hA W hW p))) ?_) ?_) ?_, ?_⟩
  · rw [e1]
    exact pre_flush (fun p => .inl (hA _ (fun x hx => hx) p)) (fun p => .inl (by show VIs P X0 (Dk.settle _ 0 (stepsA M) l); rw [hL1]; exact hv1))
  · rw [e2]
    exact pre_mark (G := fun l => VIs P X0 l ∨ VIs P X1 l) (Or.inl hv1) (Or.inr hv2)
  · rw [e3]
    exact pre_mono hfin (fun t h p => .inr (h p))
  · rw [exs_append, e3]
    have := hfin _ (Nat.le_refl _)
    rwa [List.take_length] at this
end Go.Proofs.Ytpaabfadniakoaa
