/- ShY: lists of Ops laid open; stores that may not be. -/
import Derived.Test.YtoolkamajlgcbaaMr18
set_option linter.unusedVariables false
set_option linter.unusedSimpArgs false
namespace Go.Proofs.Ytoolkamajlgcbaa
open Go.RowKit Go.ChangeShapes Go.WideShapes Go.ChangeAt Go.Deep

def RdSOps (w : World) (v : Value) (l : List SOp) : Prop := (∃ A c, v = .slice A l.length c ∧ l.length ≤ c ∧ c ≤ maxLen ∧ (0 < l.length → ∃ b off, A = some ⟨b, off, none⟩ ∧ ∀ i (h : i < l.length),
  w.cell? ⟨b, off + i * 6, none⟩ = some (.int .i64 l[i].kind) ∧ w.cell? ⟨b, off + i * 6 + 1, none⟩ = some (.int .i64 l[i].n) ∧ w.cell? ⟨b, off + i * 6 + 2, none⟩ = some (.int .i64 l[i].long) ∧ w.cell? ⟨b, off + i * 6 + 3, none⟩ = some (.string l[i].key) ∧ w.cell? ⟨b, off + i * 6 + 4, none⟩ = some (.string l[i].til) ∧ w.cell? ⟨b, off + i * 6 + 5, none⟩ = some (.string l[i].val))) ∧ ∀ o ∈ l, o.In
theorem choose_lt {α : Type} (hne : Nonempty α) (n : Nat) (p : Nat → α → Prop) (h : ∀ i, i < n → ∃ x, p i x) : ∃ f : Nat → α, ∀ i, i < n → p i (f i) := by
  refine ⟨fun i => if hi : i < n then Classical.choose (h i hi) else Classical.choice hne, fun i hi => ?_⟩
  simp only [dif_pos hi]
  exact Classical.choose_spec (h i hi)
theorem plain_addr {w : World} {a : Addr} {v : Value} (h : w.cell? (a.add 0) = some v) : a = ⟨a.block, a.off, none⟩ := by
  have e : a.add 0 = a := by unfold Addr.add; simp
  rw [e] at h
  cases a with
  | mk b o s =>
    cases s with
    | none => rfl
    | some x =>
      simp only [World.cell?] at h
      split at h <;> simp at h
section
variable {H : Type} {enc : TypeId × Value → H} {W : World} {base : Nat} {held : Bool}
set_option maxRecDepth 100000 in
theorem cells_sops {fuel : Nat} {v : Value} {x : DataW H × List MemPlace} (hf : DataW.trod enc Try.prog W base (fun _ => true) held fuel 22 [v] = some x) : ∃ l, RdSOps W v l := by
  have c5 : Try.prog.cellsOf 30 = 6 := by kernel_rfl
  rcases open_slice Try.underlying22 hf with ⟨hcs, _⟩ | ⟨a, len, cap, m, n, D, Pl, hcs, _, hl, hm, hmm, _, hx⟩
  · simp at hcs
    subst hcs
    exact ⟨[], ⟨none, 0, rfl, Nat.le_refl _, by decide, fun h => by simp at h⟩, fun o h => by simp at h⟩
  · simp at hcs hmm
    subst hcs
    subst hmm
    obtain ⟨f, hf⟩ := choose_lt (α := SOp) ⟨⟨0, 0, 0, ByteArray.empty, ByteArray.empty, ByteArray.empty⟩⟩ m (fun i o => W.cell? (a.add (i * 6)) = some (.int .i64 o.kind) ∧ W.cell? (a.add (i * 6 + 1)) = some (.int .i64 o.n) ∧ W.cell? (a.add (i * 6 + 2)) = some (.int .i64 o.long) ∧ W.cell? (a.add (i * 6 + 3)) = some (.string o.key) ∧ W.cell? (a.add (i * 6 + 4)) = some (.string o.til) ∧ W.cell? (a.add (i * 6 + 5)) = some (.string o.val) ∧ o.In) (fun i hi => by
      obtain ⟨cs', h1, h2⟩ := hx i hi
      obtain ⟨o, rfl, hat⟩ := cells_sop h2
      rw [c5] at h1
      obtain ⟨_, _, hc⟩ := World.cells?_some h1
      have g0 := hc 0 (by decide)
      have g1 := hc 1 (by decide)
      have g2 := hc 2 (by decide)
      have g3 := hc 3 (by decide)
      have g4 := hc 4 (by decide)
      have g5 := hc 5 (by decide)
      rw [Go.Deep.add_add] at g0 g1 g2 g3 g4 g5
      exact ⟨o, g0, g1, g2, g3, g4, g5, hat⟩)
    refine ⟨(List.range len).map f, ⟨some a, m, by simp, by simpa using hl, by simpa using hm, fun hp => ?_⟩, fun o ho => ?_⟩
    · simp at hp
      obtain ⟨z, _⟩ := hf 0 (by omega)
      have ha := plain_addr (by simpa using z)
      refine ⟨a.block, a.off, by rw [← ha], fun i hi => ?_⟩
      simp at hi
      obtain ⟨g0, g1, g2, g3, g4, g5, _⟩ := hf i (by omega)
      have := And.intro g0 (And.intro g1 (And.intro g2 (And.intro g3 (And.intro g4 g5))))
      rw [ha] at this
      simp only [Addr.add_lit, ← Nat.add_assoc] at this
      simpa using this
    · obtain ⟨i, hi, rfl⟩ := List.mem_map.1 ho
      exact (hf i (by have := List.mem_range.1 hi; omega)).2.2.2.2.2.2
set_option maxRecDepth 100000 in
theorem open_sops {v : Value} {d : DataW H} {ps : List MemPlace} {r : World} (hv : Value.okWide Try.prog r .any base 22 v) (h : DataW.Trod enc Try.prog W 0 (fun _ => true) held 22 v d ps) : ∃ l, RdSOps W v l := by
  obtain ⟨a0, len0, cap0, rfl⟩ := okWide_slice Try.underlying22 hv
  obtain ⟨fuel, hf⟩ := h
  exact cells_sops (W := W) (by simpa [Value.cells] using hf)
end
set_option maxRecDepth 100000 in
theorem sopened_no (w : World) (P : Int) (hP : P < 2 ∨ 12 < P) :
    Calls Try.prog 9 #[.int .i64 P] w fun e w' => e = .returned (.tuple #[.pointer none, .pointer none, .pointer none]) ∧ w = w' := by
  rcases (show P < 2 ∨ 2 ≤ P by omega) with h | h
  · have d1 : decide (P < 2) = true := by simpa using h
    go_enter Try.func9, Try.ntmps9
    go_wp2
    go_ret3
    exact ⟨rfl, rfl⟩
  · have d1 : decide (P < 2) = false := decide_eq_false (by omega)
    have d2 : decide (12 < P) = true := by simp; omega
    go_enter Try.func9, Try.ntmps9
    go_wp2
    go_ret3
    exact ⟨rfl, rfl⟩
end Go.Proofs.Ytoolkamajlgcbaa
/- SrC: plain laws of order; the document's Same; the walk of done (written by gen_src.py, with XSrA and XSrB in it). -/
set_option linter.unusedVariables false
set_option linter.unusedSimpArgs false
namespace Go.Proofs.Ytoolkamajlgcbaa
open Go.RowKit

/-! The order of texts. -/
def ltB (a b : ByteArray) : Bool := Op.bytesLess a.toList b.toList
theorem bl_cons (a b : UInt8) (x y : List UInt8) : Op.bytesLess (a :: x) (b :: y) = (decide (a < b) || (a == b && Op.bytesLess x y)) := by rw [Op.bytesLess]
theorem bl_irr : ∀ x : List UInt8, Op.bytesLess x x = false
  | [] => by simp [Op.bytesLess]
  | a :: x => by rw [bl_cons, bl_irr x]; simp
theorem bl_trans : ∀ x y z : List UInt8, Op.bytesLess x y = true → Op.bytesLess y z = true → Op.bytesLess x z = true
  | _, [], _, h, _ => by cases ‹List UInt8› <;> simp [Op.bytesLess] at h
  | _, _ :: _, [], _, h => by simp [Op.bytesLess] at h
  | [], _ :: _, _ :: _, _, _ => by simp [Op.bytesLess]
  | a :: x, b :: y, c :: z, h1, h2 => by
    rw [bl_cons] at h1 h2 ⊢
    simp only [Bool.or_eq_true, decide_eq_true_eq, Bool.and_eq_true, beq_iff_eq, UInt8.lt_iff_toNat_lt] at h1 h2 ⊢
    rcases h1 with h1 | ⟨rfl, h1⟩
    · rcases h2 with h2 | ⟨rfl, h2⟩
      · left; omega
      · left; exact h1
    · rcases h2 with h2 | ⟨rfl, h2⟩
      · left; exact h2
      · right; exact ⟨rfl, bl_trans x y z h1 h2⟩
theorem bl_tri : ∀ x y : List UInt8, Op.bytesLess x y = false → Op.bytesLess y x = false → x = y
  | [], [], _, _ => rfl
  | [], _ :: _, h, _ => by simp [Op.bytesLess] at h
  | _ :: _, [], _, h => by simp [Op.bytesLess] at h
  | a :: x, b :: y, h1, h2 => by
    rw [bl_cons] at h1 h2
    simp only [Bool.or_eq_false_iff, decide_eq_false_iff_not, Bool.and_eq_false_iff, UInt8.lt_iff_toNat_lt] at h1 h2
    have e : a = b := UInt8.toNat_inj.1 (by omega)
    subst e
    have h3 : Op.bytesLess x y = false := by rcases h1.2 with h | h; simp at h; exact h
    have h4 : Op.bytesLess y x = false := by rcases h2.2 with h | h; simp at h; exact h
    rw [bl_tri x y h3 h4]
theorem ltB_irr (a : ByteArray) : ltB a a = false := bl_irr _
theorem ltB_trans {a b c : ByteArray} (h1 : ltB a b = true) (h2 : ltB b c = true) : ltB a c = true := bl_trans _ _ _ h1 h2
theorem ltB_tri {a b : ByteArray} (h1 : ltB a b = false) (h2 : ltB b a = false) : a = b := toListB_inj (bl_tri _ _ h1 h2)
theorem ltB_asym {a b : ByteArray} (h : ltB a b = true) : ltB b a = false := by
  cases h2 : ltB b a with
  | false => rfl
  | true => have := ltB_trans h h2; rw [ltB_irr] at this; cases this
/-- a ≤ b < c. -/
theorem ltB_lt {a b c : ByteArray} (h1 : ltB b a = false) (h2 : ltB b c = true) : ltB a c = true := by
  cases h3 : ltB a b with
  | true => exact ltB_trans h3 h2
  | false => rw [ltB_tri h3 h1]; exact h2
/-- a < b ≤ c. -/
theorem ltB_lt2 {a b c : ByteArray} (h1 : ltB a b = true) (h2 : ltB c b = false) : ltB a c = true := by
  cases h3 : ltB b c with
  | true => exact ltB_trans h1 h3
  | false => rw [← ltB_tri h3 h2]; exact h1
theorem geB_eq (a b : ByteArray) : geB a b = !ltB a b := rfl
theorem gtB_eq (a b : ByteArray) : gtB a b = ltB b a := by
  unfold gtB
  show (!ltB a b && !(a.toList == b.toList)) = ltB b a
  cases h : ltB a b with
  | true => rw [ltB_asym h]; rfl
  | false =>
    cases h2 : ltB b a with
    | true =>
      have : (a.toList == b.toList) = false := by
        rw [beq_eq_false_iff_ne]
        intro e
        have := toListB_inj e
        subst this
        rw [ltB_irr] at h2
        cases h2
      rw [this]; rfl
    | false =>
      rw [ltB_tri h h2]
      simp
/-! Searching. -/
theorem srch_ok (p : Nat → Bool) (n : Nat) (hm : ∀ i j, i ≤ j → j < n → p i = true → p j = true) : ∀ f i j, j - i ≤ f → i ≤ j → j ≤ n → (∀ k, k < i → p k = false) → (∀ k, j ≤ k → k < n → p k = true) →
    (∀ k, k < srch p i j → p k = false) ∧ (∀ k, srch p i j ≤ k → k < n → p k = true)
  | 0, i, j, h, hij, hj, h1, h2 => by
    rw [srch, if_neg (by omega)]
    exact ⟨h1, fun k hk hn => h2 k (by omega) hn⟩
  | f + 1, i, j, h, hij, hj, h1, h2 => by
    rw [srch]
    split
    · split
      · rename_i hp
        exact srch_ok p n hm f i ((i + j) / 2) (by omega) (by omega) (by omega) h1 (fun k hk hn => hm _ k hk hn hp)
      · rename_i hp
        refine srch_ok p n hm f ((i + j) / 2 + 1) j (by omega) (by omega) hj (fun k hk => ?_) h2
        cases hpk : p k with
        | false => rfl
        | true => exact absurd (hm k _ (by omega) (by omega) hpk) hp
    · exact ⟨h1, fun k hk hn => h2 k (by omega) hn⟩
theorem srch_pos (p : Nat → Bool) (n : Nat) (hm : ∀ i j, i ≤ j → j < n → p i = true → p j = true) : (∀ k, k < srch p 0 n → p k = false) ∧ (∀ k, srch p 0 n ≤ k → k < n → p k = true) :=
  srch_ok p n hm n 0 n (by omega) (Nat.zero_le _) (Nat.le_refl _) (fun k hk => by omega) (fun k hk hn => by omega)
/-! Entries in order. -/
def Srt (l : PL) : Prop := l.Pairwise (fun p q => ltB p.1 q.1 = true)
def flatS (sh : List (Nat × PL)) : PL := sh.flatMap (·.2)
def headS (sh : List (Nat × PL)) (i k : Nat) : PL := (sh.take i).flatMap (·.2) ++ (lfA sh i).take k
theorem flat_split (sh : List (Nat × PL)) (i k : Nat) (hi : i < sh.length) : flatS sh = headS sh i k ++ tailS sh i k := by
  unfold headS tailS flatS
  rw [List.append_assoc, ← List.append_assoc ((lfA sh i).take k), List.take_append_drop]
  conv => lhs; rw [← List.take_append_drop i sh, List.drop_eq_getElem_cons hi]
  rw [List.flatMap_append, List.flatMap_cons, lfA_get hi]
theorem srt_leaf {sh : List (Nat × PL)} (h : Srt (flatS sh)) (i : Nat) : Srt (lfA sh i) := by
  by_cases hi : i < sh.length
  · rw [lfA_get hi]
    exact (List.pairwise_flatMap.1 h).1 _ (List.getElem_mem hi)
  · rw [lfA_out (by omega)]; exact List.Pairwise.nil
theorem srt_leaves {sh : List (Nat × PL)} (h : Srt (flatS sh)) {i j : Nat} (hij : i < j) {p q : ByteArray × ByteArray} (hp : p ∈ lfA sh i) (hq : q ∈ lfA sh j) : ltB p.1 q.1 = true := by
  have hj : j < sh.length := by
    rcases Nat.lt_or_ge j sh.length with h | h
    · exact h
    · rw [lfA_out h] at hq; cases hq
  have := List.pairwise_iff_getElem.1 (List.pairwise_flatMap.1 h).2 i j (by omega) hj hij
  rw [lfA_get (by omega)] at hp
  rw [lfA_get hj] at hq
  exact this p hp q hq
theorem srt_key {l : PL} (h : Srt l) {i j : Nat} (hij : i < j) (hj : j < l.length) : ltB (keyA l i) (keyA l j) = true := by
  rw [keyA_get (by omega), keyA_get hj]
  exact List.pairwise_iff_getElem.1 h i j (by omega) hj hij
theorem first_mem {l : PL} (h : 0 < l.length) : ∃ v, (keyA l 0, v) ∈ l := by
  rw [keyA_get h]
  exact ⟨l[0].2, List.getElem_mem h⟩
theorem first_le {l : PL} (hs : Srt l) {p : ByteArray × ByteArray} (hp : p ∈ l) : ltB p.1 (keyA l 0) = false := by
  obtain ⟨i, hi, rfl⟩ := List.getElem_of_mem hp
  rcases Nat.eq_zero_or_pos i with h | h
  · subst h; rw [keyA_get hi]; exact ltB_irr _
  · have := srt_key hs h hi
    rw [keyA_get hi] at this
    exact ltB_asym this
/-- Where a key belongs: what is ahead is less, what is behind isn't, what lies in later leaves is more. -/
theorem place {sh : List (Nat × PL)} (hs : Srt (flatS sh)) (hf : Full sh) (hp : 0 < sh.length) (key : ByteArray) :
    (∀ p ∈ headS sh (fI sh key) (fK sh key), ltB p.1 key = true) ∧ (∀ p ∈ (lfA sh (fI sh key)).drop (fK sh key), ltB p.1 key = false) ∧ (∀ p ∈ (sh.drop (fI sh key + 1)).flatMap (·.2), ltB key p.1 = true) := by
  have hi := fI_lt (key := key) hp
  have S1 := srch_pos (fun i => gtB (keyA (lfA sh i) 0) key) sh.length (fun i j hij hj h => by
    rw [gtB_eq] at h ⊢
    rcases Nat.lt_or_ge i j with h1 | h1
    · obtain ⟨v, hv⟩ := first_mem (hf i (by omega))
      obtain ⟨u, hu⟩ := first_mem (hf j hj)
      exact ltB_trans h (srt_leaves (p := (keyA (lfA sh i) 0, v)) (q := (keyA (lfA sh j) 0, u)) hs h1 hv hu)
    · rw [show j = i by omega]; exact h)
  have hc : fI sh key = srch (fun i => gtB (keyA (lfA sh i) 0) key) 0 sh.length - 1 := rfl
  have hk : fK sh key = srch (fun k => geB (keyA (lfA sh (fI sh key)) k) key) 0 (lfA sh (fI sh key)).length := by
    unfold fK
    rw [if_neg (fun e => by rw [e] at hp; simp at hp)]
  generalize srch (fun i => gtB (keyA (lfA sh i) 0) key) 0 sh.length = c at S1 hc
  have sl := srt_leaf hs (fI sh key)
  have S2 := srch_pos (fun k => geB (keyA (lfA sh (fI sh key)) k) key) (lfA sh (fI sh key)).length (fun i j hij hj h => by
    simp only [geB_eq, Bool.not_eq_true'] at h ⊢
    rcases Nat.lt_or_ge i j with h1 | h1
    · have := srt_key sl h1 hj
      cases h2 : ltB (keyA (lfA sh (fI sh key)) j) key with
      | false => rfl
      | true => rw [ltB_trans this h2] at h; cases h
    · rw [show j = i by omega]; exact h)
  rw [← hk] at S2
  generalize fI sh key = i at hi hc sl S2 ⊢
  generalize fK sh key = k at S2 ⊢
  refine ⟨fun p hp => ?_, fun p hp => ?_, fun p hp => ?_⟩
  · unfold headS at hp
    rcases List.mem_append.1 hp with hp | hp
    · obtain ⟨y, hy, hpy⟩ := List.mem_flatMap.1 hp
      obtain ⟨j, hj, rfl⟩ := List.getElem_of_mem hy
      rw [List.length_take] at hj
      rw [List.getElem_take] at hpy
      have hpy : p ∈ lfA sh j := by rw [lfA_get (by omega)]; exact hpy
      have h1 := S1.1 i (by omega)
      simp only [gtB_eq] at h1
      obtain ⟨v, hv⟩ := first_mem (hf i hi)
      exact ltB_lt2 (srt_leaves (q := (keyA (lfA sh i) 0, v)) hs (by omega) hpy hv) h1
    · obtain ⟨j, hj, rfl⟩ := List.getElem_of_mem hp
      rw [List.length_take] at hj
      rw [List.getElem_take]
      have := S2.1 j (by omega)
      rw [keyA_get (by omega)] at this
      simpa [geB_eq] using this
  · obtain ⟨j, hj, rfl⟩ := List.getElem_of_mem hp
    rw [List.length_drop] at hj
    rw [List.getElem_drop]
    have := S2.2 (k + j) (by omega) (by omega)
    rw [keyA_get (by omega)] at this
    simpa [geB_eq] using this
  · obtain ⟨y, hy, hpy⟩ := List.mem_flatMap.1 hp
    obtain ⟨j, hj, rfl⟩ := List.getElem_of_mem hy
    rw [List.length_drop] at hj
    rw [List.getElem_drop] at hpy
    have hpy : p ∈ lfA sh (i + 1 + j) := by rw [lfA_get (by omega)]; exact hpy
    have h1 := S1.2 (i + 1 + j) (by omega) (by omega)
    rw [gtB_eq] at h1
    exact ltB_lt2 h1 (first_le (srt_leaf hs _) hpy)
/-! Lists in order. -/
def rngF (F : PL) (frm til : ByteArray) : PL := F.filter (fun p => !ltB p.1 frm && !ltB til p.1)
theorem take_while_srt : ∀ (l : PL) (til : ByteArray), Srt l → l.takeWhile (fun p => !ltB til p.1) = l.filter (fun p => !ltB til p.1)
  | [], _, _ => rfl
  | p :: l, til, h => by
    obtain ⟨h1, h2⟩ := List.pairwise_cons.1 h
    cases hp : ltB til p.1 with
    | false =>
      rw [List.takeWhile_cons_of_pos (by rw [hp]; rfl), List.filter_cons_of_pos (by rw [hp]; rfl), take_while_srt l til h2]
    | true =>
      rw [List.takeWhile_cons_of_neg (by rw [hp]; decide), List.filter_cons_of_neg (by rw [hp]; decide)]
      symm
      rw [List.filter_eq_nil_iff]
      intro q hq
      rw [ltB_trans hp (h1 q hq)]
      decide
theorem rngK_eq (til : ByteArray) (most : Int) : ∀ (l out : PL), (rngK til most l out).1 = out ++ (l.takeWhile (fun p => !ltB til p.1)).take (most - out.length).toNat
  | [], out => by simp [rngK]
  | p :: l, out => by
    unfold rngK
    rw [gtB_eq]
    cases hp : ltB til p.1 with
    | true =>
      rw [if_pos (.inl rfl), List.takeWhile_cons_of_neg (by rw [hp]; decide)]
      simp
    | false =>
      rw [List.takeWhile_cons_of_pos (by rw [hp]; rfl)]
      by_cases hm : most ≤ (out.length : Int)
      · rw [if_pos (.inr hm), show (most - (out.length : Int)).toNat = 0 by omega]
        simp
      · rw [if_neg (by simp; omega), rngK_eq til most l (out ++ [p]), show (most - (out.length : Int)).toNat = (most - ((out ++ [p]).length : Int)).toNat + 1 by simp only [List.length_append, List.length_singleton]; omega]
        simp
/-- A Range is the entries between, as many as are asked for. -/
theorem rngR_eq {sh : List (Nat × PL)} (hs : Srt (flatS sh)) (hf : Full sh) (frm til : ByteArray) (most : Int) : rngR sh frm til most = (rngF (flatS sh) frm til).take most.toNat := by
  unfold rngR
  rw [rngK_eq, List.nil_append, List.length_nil, show (most - ((0 : Nat) : Int)).toNat = most.toNat by omega]
  congr 1
  rcases Nat.eq_zero_or_pos sh.length with h0 | h0
  · have := List.eq_nil_of_length_eq_zero h0
    subst this
    rw [tail_end (Nat.zero_le _)]
    rfl
  · obtain ⟨p1, p2, p3⟩ := place hs hf h0 frm
    have hi := fI_lt (key := frm) h0
    have e := flat_split sh (fI sh frm) (fK sh frm) hi
    rw [e] at hs ⊢
    obtain ⟨_, s2, _⟩ := List.pairwise_append.1 hs
    rw [take_while_srt _ _ s2]
    unfold rngF
    rw [List.filter_append]
    have e1 : (headS sh (fI sh frm) (fK sh frm)).filter (fun p => !ltB p.1 frm && !ltB til p.1) = [] := by
      rw [List.filter_eq_nil_iff]
      intro p hp
      rw [p1 p hp]
      simp
    rw [e1, List.nil_append]
    refine List.filter_congr (fun p hp => ?_)
    have : ltB p.1 frm = false := by
      unfold tailS at hp
      rcases List.mem_append.1 hp with hp | hp
      · exact p2 p hp
      · exact ltB_asym (p3 p hp)
    rw [this]
    simp
/-- What a key has stands in the list, and nothing else with that key. -/
theorem getK_mem {sh : List (Nat × PL)} {a v : ByteArray} (h : getK sh a = some v) : (a, v) ∈ flatS sh := by
  obtain ⟨hk, e⟩ := hit_split h
  have hi : fI sh a < sh.length := by
    rcases Nat.lt_or_ge (fI sh a) sh.length with h | h
    · exact h
    · rw [lfA_out h] at hk; simp at hk
  unfold flatS
  rw [List.mem_flatMap]
  refine ⟨sh[fI sh a], List.getElem_mem hi, ?_⟩
  rw [← lfA_get hi, e]
  exact List.mem_append_right _ (List.mem_cons_self ..)
theorem getK_of_mem {sh : List (Nat × PL)} (hs : Srt (flatS sh)) (hf : Full sh) {a v : ByteArray} (h : (a, v) ∈ flatS sh) : getK sh a = some v := by
  have h0 : 0 < sh.length := by
    rcases Nat.eq_zero_or_pos sh.length with h0 | h0
    · have := List.eq_nil_of_length_eq_zero h0
      subst this
      cases h
    · exact h0
  obtain ⟨p1, p2, p3⟩ := place hs hf h0 a
  have hi := fI_lt (key := a) h0
  have sl := srt_leaf hs (fI sh a)
  rw [flat_split sh (fI sh a) (fK sh a) hi] at h
  unfold getK hitK
  rcases List.mem_append.1 h with h | h
  · have := p1 _ h; rw [ltB_irr] at this; cases this
  · unfold tailS at h
    rcases List.mem_append.1 h with h | h
    · obtain ⟨j, hj, e⟩ := List.getElem_of_mem h
      rw [List.length_drop] at hj
      rw [List.getElem_drop] at e
      have hk : fK sh a < (lfA sh (fI sh a)).length := by omega
      have hj0 : j = 0 := by
        rcases Nat.eq_zero_or_pos j with h | h
        · exact h
        · have q := srt_key sl (show fK sh a < fK sh a + j by omega) (by omega)
          rw [keyA_get (show fK sh a + j < _ by omega), e, keyA_get hk] at q
          have r := p2 (lfA sh (fI sh a))[fK sh a] (by
            rw [List.drop_eq_getElem_cons hk]
            exact List.mem_cons_self ..)
          rw [q] at r
          cases r
      subst hj0
      simp only [Nat.add_zero] at e
      rw [dif_pos hk, if_pos (by rw [e]), e]
    · have := p3 _ h; rw [ltB_irr] at this; cases this
theorem getK_none {sh : List (Nat × PL)} (hs : Srt (flatS sh)) (hf : Full sh) {a : ByteArray} (h : getK sh a = none) : ∀ p ∈ flatS sh, p.1 ≠ a := fun p hp e => by
  have := getK_of_mem hs hf (a := a) (v := p.2) (by rw [← e]; exact hp)
  rw [h] at this
  cases this
/-- A list in order, parted at a key. -/
theorem part3 : ∀ (F : PL) (e : ByteArray), Srt F → F = F.filter (fun p => ltB p.1 e) ++ (F.filter (fun p => !ltB p.1 e && !ltB e p.1) ++ F.filter (fun p => ltB e p.1))
  | [], _, _ => rfl
  | p :: r, e, h => by
    obtain ⟨h1, h2⟩ := List.pairwise_cons.1 h
    have ih := part3 r e h2
    cases hlt : ltB p.1 e with
    | true =>
      have hgt := ltB_asym hlt
      rw [List.filter_cons_of_pos (by exact hlt), List.filter_cons_of_neg (by rw [hlt]; simp), List.filter_cons_of_neg (by rw [hgt]; decide), List.cons_append, ← ih]
    | false =>
      have rl : r.filter (fun p => ltB p.1 e) = [] := by
        rw [List.filter_eq_nil_iff]
        intro q hq hc
        rw [ltB_trans (h1 q hq) hc] at hlt
        cases hlt
      rw [rl, List.nil_append] at ih
      rw [List.filter_cons_of_neg (by rw [hlt]; decide), rl, List.nil_append]
      cases hgt : ltB e p.1 with
      | true =>
        have rm : r.filter (fun p => !ltB p.1 e && !ltB e p.1) = [] := by
          rw [List.filter_eq_nil_iff]
          intro q hq
          rw [ltB_trans hgt (h1 q hq)]
          simp
        rw [rm, List.nil_append] at ih
        rw [List.filter_cons_of_neg (by rw [hlt, hgt]; decide), rm, List.nil_append, List.filter_cons_of_pos (by exact hgt), ← ih]
      | false =>
        rw [List.filter_cons_of_pos (by rw [hlt, hgt]; rfl), List.filter_cons_of_neg (by rw [hgt]; decide), List.cons_append, ← ih]
/-- Of one key there is one entry at most. -/
theorem mid_eq {F : PL} {e : ByteArray} (h : Srt F) : (∃ v, (e, v) ∈ F ∧ F.filter (fun p => !ltB p.1 e && !ltB e p.1) = [(e, v)]) ∨ ((∀ p ∈ F, p.1 ≠ e) ∧ F.filter (fun p => !ltB p.1 e && !ltB e p.1) = []) := by
  induction F with
  | nil => exact .inr ⟨(fun p hp => by cases hp), rfl⟩
  | cons p r ih =>
    obtain ⟨h1, h2⟩ := List.pairwise_cons.1 h
    by_cases he : p.1 = e
    · left
      refine ⟨p.2, by rw [← he]; exact List.mem_cons_self .., ?_⟩
      rw [List.filter_cons_of_pos (by rw [he, ltB_irr]; rfl)]
      have : r.filter (fun p => !ltB p.1 e && !ltB e p.1) = [] := by
        rw [List.filter_eq_nil_iff]
        intro q hq
        rw [← he, h1 q hq]
        simp
      rw [this, ← he]
    · have hn : ¬ (!ltB p.1 e && !ltB e p.1) = true := fun hc => by
        simp only [Bool.and_eq_true, Bool.not_eq_true'] at hc
        exact he (ltB_tri hc.1 hc.2)
      rw [show (p :: r).filter (fun p => !ltB p.1 e && !ltB e p.1) = r.filter (fun p => !ltB p.1 e && !ltB e p.1) from List.filter_cons_of_neg hn]
      rcases ih h2 with ⟨v, hv, hr⟩ | ⟨hv, hr⟩
      · exact .inl ⟨v, List.mem_cons_of_mem _ hv, hr⟩
      · right
        refine ⟨fun q hq => ?_, hr⟩
        rcases List.mem_cons.1 hq with rfl | hq
        · exact he
        · exact hv q hq
/-! What Put and Drop make of the list. -/
def putF (F : PL) (a x : ByteArray) : PL := F.filter (fun p => ltB p.1 a) ++ ((a, x) :: F.filter (fun p => ltB a p.1))
def dropF (F : PL) (a : ByteArray) : PL := F.filter (fun p => ltB p.1 a) ++ F.filter (fun p => ltB a p.1)
theorem srt_filter {F : PL} (h : Srt F) (p : ByteArray × ByteArray → Bool) : Srt (F.filter p) := List.Pairwise.filter p h
theorem srt_putF {F : PL} (h : Srt F) (a x : ByteArray) : Srt (putF F a x) := by
  unfold putF Srt
  rw [List.pairwise_append]
  refine ⟨srt_filter h _, ?_, fun p hp q hq => ?_⟩
  · rw [List.pairwise_cons]
    exact ⟨fun q hq => by have := (List.mem_filter.1 hq).2; exact this, srt_filter h _⟩
  · have h1 : ltB p.1 a = true := (List.mem_filter.1 hp).2
    rcases List.mem_cons.1 hq with rfl | hq
    · exact h1
    · have h2 : ltB a q.1 = true := (List.mem_filter.1 hq).2
      exact ltB_trans h1 h2
theorem srt_dropF {F : PL} (h : Srt F) (a : ByteArray) : Srt (dropF F a) := by
  unfold dropF Srt
  rw [List.pairwise_append]
  refine ⟨srt_filter h _, srt_filter h _, fun p hp q hq => ?_⟩
  have h1 : ltB p.1 a = true := (List.mem_filter.1 hp).2
  have h2 : ltB a q.1 = true := (List.mem_filter.1 hq).2
  exact ltB_trans h1 h2
theorem flat_merge (sh : List (Nat × PL)) (k : Nat) (hk : k + 1 < sh.length) : flatS (mergeP sh k) = flatS sh := by
  unfold mergeP flatS
  conv => rhs; rw [← List.take_append_drop k sh, List.drop_eq_getElem_cons (show k < sh.length by omega), List.drop_eq_getElem_cons hk]
  rw [List.flatMap_append, List.flatMap_append, List.flatMap_append, List.flatMap_cons, List.flatMap_cons, List.flatMap_cons, List.flatMap_nil, lfA_get (show k < sh.length by omega), lfA_get hk]
  simp
theorem flat_t1 (sh : List (Nat × PL)) (kk : Int) : flatS (t1 sh kk) = flatS sh := by
  by_cases h : Fits sh kk
  · obtain ⟨k, rfl, hk, _⟩ := id h
    rw [t1_on h, flat_merge sh k hk]
  · rw [t1_off h]
theorem flat_steps (sh : List (Nat × PL)) (i : Int) : ∀ n, flatS (stepsT sh i n) = flatS sh
  | 0 => rfl
  | n + 1 => by rw [stepsT, flat_t1, flat_steps sh i n]
theorem flat_setL (sh : List (Nat × PL)) (i : Nat) (l : PL) (hi : i < sh.length) : flatS (setL sh i l) = (sh.take i).flatMap (·.2) ++ (l ++ (sh.drop (i + 1)).flatMap (·.2)) := by
  unfold setL flatS
  rw [List.set_eq_take_append_cons_drop, if_pos hi, List.flatMap_append, List.flatMap_cons]
/-- What is ahead of a key's place, and behind it. -/
theorem place_filter {sh : List (Nat × PL)} (hs : Srt (flatS sh)) (hf : Full sh) (hp : 0 < sh.length) (a : ByteArray) :
    (flatS sh).filter (fun p => ltB p.1 a) = headS sh (fI sh a) (fK sh a) ∧ (flatS sh).filter (fun p => ltB a p.1) = (if (getK sh a).isSome = true then (lfA sh (fI sh a)).drop (fK sh a + 1) else (lfA sh (fI sh a)).drop (fK sh a)) ++ (sh.drop (fI sh a + 1)).flatMap (·.2) := by
  obtain ⟨p1, p2, p3⟩ := place hs hf hp a
  have hi := fI_lt (key := a) hp
  have hg := @getK_none sh hs hf a
  have e := flat_split sh (fI sh a) (fK sh a) hi
  have hs2 := hs
  rw [e] at hs2
  unfold tailS at hs2 e
  have sl := srt_leaf hs (fI sh a)
  constructor
  · rw [e, List.filter_append, List.filter_eq_self.2 (fun p hp => p1 p hp)]
    rw [List.filter_eq_nil_iff.2 (fun p hp => ?_), List.append_nil]
    rcases List.mem_append.1 hp with hp | hp
    · rw [p2 p hp]; decide
    · rw [ltB_asym (p3 p hp)]; decide
  · rw [e, List.filter_append, List.filter_append, List.filter_eq_nil_iff.2 (fun p hp => by rw [ltB_asym (p1 p hp)]; decide), List.nil_append, List.filter_eq_self.2 (fun p hp => p3 p hp)]
    congr 1
    cases h : getK sh a with
    | some v =>
      obtain ⟨hk, _⟩ := hit_split h
      rw [if_pos (show (some v).isSome = true from rfl)]
      have he : (lfA sh (fI sh a))[fK sh a].1 = a := by
        unfold getK hitK at h
        rw [dif_pos hk] at h
        by_cases he : (lfA sh (fI sh a))[fK sh a].1 = a
        · exact he
        · rw [if_neg he] at h; cases h
      rw [List.drop_eq_getElem_cons hk, List.filter_cons_of_neg (by rw [he, ltB_irr]; decide)]
      refine List.filter_eq_self.2 (fun p hp => ?_)
      obtain ⟨j, hj, rfl⟩ := List.getElem_of_mem hp
      rw [List.length_drop] at hj
      rw [List.getElem_drop]
      have q := srt_key sl (show fK sh a < fK sh a + 1 + j by omega) (by omega)
      rw [keyA_get hk, keyA_get (by omega), he] at q
      exact q
    | none =>
      rw [if_neg (by decide)]
      refine List.filter_eq_self.2 (fun p hp => ?_)
      have h1 := p2 p hp
      have h2 := hg h p (by rw [e]; exact List.mem_append_right _ (List.mem_append_left _ hp))
      cases h3 : ltB a p.1 with
      | true => rfl
      | false => exact absurd (ltB_tri h1 h3) h2
theorem flat_nil : flatS [] = [] := rfl
theorem put_flat {sh : List (Nat × PL)} {P : Nat} {a x : ByteArray} (hs : Srt (flatS sh)) (hf : Full sh) : flatS (putA sh P a x).2 = if (putA sh P a x).1 = 0 then putF (flatS sh) a x else flatS sh := by
  unfold putA
  by_cases hsh : sh = []
  · subst hsh
    rw [if_pos rfl]
    rfl
  · rw [if_neg hsh]
    have hlen : 0 < sh.length := by
      rcases Nat.eq_zero_or_pos sh.length with h | h
      · exact absurd (List.eq_nil_of_length_eq_zero h) hsh
      · exact h
    have hi : fI sh a < sh.length := fI_lt hlen
    obtain ⟨q1, q2⟩ := place_filter hs hf hlen a
    have e : putF (flatS sh) a x = (sh.take (fI sh a)).flatMap (·.2) ++ (newL sh a x ++ (sh.drop (fI sh a + 1)).flatMap (·.2)) := by
      unfold putF newL restP
      rw [q1, q2]
      unfold headS
      simp
    by_cases hfit : szL (newL sh a x) ≤ 1020
    · rw [if_pos hfit]
      show flatS (stepsT _ _ 2) = if 0 = 0 then _ else _
      rw [if_pos rfl, flat_steps, flat_setL _ _ _ hi, e]
    · rw [if_neg hfit]
      by_cases hsp : spareA sh P = 0
      · rw [if_pos hsp]
        rfl
      · rw [if_neg hsp]
        show flatS (stepsT (stepsT _ _ 2) _ 2) = if 0 = 0 then _ else _
        rw [if_pos rfl, flat_steps, flat_steps, e]
        unfold splitL flatS
        rw [List.flatMap_append, List.flatMap_append, List.flatMap_cons, List.flatMap_cons, List.flatMap_nil, List.append_nil, List.take_append_drop]
theorem drop_flat {sh : List (Nat × PL)} {a : ByteArray} (hs : Srt (flatS sh)) (hf : Full sh) : flatS (dropA sh a).2 = dropF (flatS sh) a := by
  rcases Nat.eq_zero_or_pos sh.length with h0 | h0
  · have := List.eq_nil_of_length_eq_zero h0
    subst this
    have e : getK [] a = none := by unfold getK hitK; rw [dif_neg (by simp [lfA])]
    unfold dropA
    rw [e]
    rfl
  · have hi : fI sh a < sh.length := fI_lt h0
    obtain ⟨q1, q2⟩ := place_filter hs hf h0 a
    unfold dropA dropF
    rw [q1, q2]
    cases h : getK sh a with
    | none =>
      rw [if_neg (by decide), if_neg (by decide)]
      exact flat_split sh (fI sh a) (fK sh a) hi
    | some v =>
      rw [if_pos (show (some v).isSome = true from rfl), if_pos (show (some v).isSome = true from rfl)]
      show flatS (stepsT _ _ 2) = _
      rw [flat_steps]
      obtain ⟨hk, _⟩ := hit_split h
      by_cases hone : (lfA sh (fI sh a)).length = 1
      · rw [if_pos hone]
        unfold headS flatS
        rw [List.flatMap_append, show fK sh a = 0 by omega, List.take_zero, List.append_nil, List.drop_eq_nil_of_le (show (lfA sh (fI sh a)).length ≤ 0 + 1 by omega), List.nil_append]
      · rw [if_neg hone, flat_setL _ _ _ hi]
        unfold headS
        simp

set_option maxHeartbeats 3200000 in
set_option maxRecDepth 100000 in
theorem psame_any (w : World) (A1 A2 : Option Addr) (c1 c2 : Nat) (l1 l2 : PL) (h1 : RdPr w A1 l1) (h2 : RdPr w A2 l2) (hn : l1.length ≤ 1000000000) (hn2 : l2.length ≤ 1000000000) :
    Calls Try.prog 20 #[.slice A1 l1.length c1, .slice A2 l2.length c2] w fun e w' => e = .returned (.bool (decide (l1 = l2))) ∧ Below w.heap.size w w' := by
  have H1 := Lib.hid h1; have H2 := Lib.hid h2
  clear h1 h2
  by_cases hlen : l1.length = l2.length
  rotate_left
  · have d0 : (l1.length != l2.length) = true := by simpa using hlen
    have d0' : ((l1.length : Int) != (l2.length : Int)) = true := by simp; omega
    have E : Hid (decide (l1 = l2) = false) := by unfold Hid; rw [decide_eq_false_iff_not]; intro e; rw [e] at hlen; exact hlen rfl
    clear hlen
    go_enter Try.func20, Try.ntmps20
    go_wp2
    go_ret
    exact ⟨by rw [E.out]; rfl, Below.refl _ _⟩
  have d0 : (l1.length != l2.length) = false := by simpa using hlen
  have d0' : ((l1.length : Int) != (l2.length : Int)) = false := by simp; omega
  have HLEN := Lib.hid hlen
  clear hlen
  go_enter Try.func20, Try.ntmps20
  go_wp2_with fail
  go_loopw [5] (fun i wr => ∃ k : Nat, k ≤ l1.length ∧ i = .int .i64 k ∧ Hid (∀ j (hj : j < l1.length) (hj2 : j < l2.length), j < k → l1[j] = l2[j]) ∧ Hid (Below w.heap.size w wr)) (fun i _ => l1.length - (intOf i).toNat)
  case atStart => exact ⟨0, Nat.zero_le _, rfl, fun j _ _ h => absurd h (Nat.not_lt_zero _), Below.refl _ _⟩
  case round =>
    obtain ⟨k, hk, rfl, he, hb⟩ := hrel
    by_cases hlt : k < l1.length
    · have hlt2 : k < l2.length := by have := HLEN.out; omega
      obtain ⟨b1, o1, e1, hc1⟩ := H1.out (by omega)
      obtain ⟨b2, o2, e2, hc2⟩ := H2.out (by omega)
      subst e1 e2
      obtain ⟨y1, y2⟩ := hc1 k hlt
      obtain ⟨u1, u2⟩ := hc2 k hlt2
      replace y1 := cell_below hb.out.drew y1; replace y2 := cell_below hb.out.drew y2
      replace u1 := cell_below hb.out.drew u1; replace u2 := cell_below hb.out.drew u2
      have HE : Hid (l1[k] = l2[k] → ∀ j (hj : j < l1.length) (hj2 : j < l2.length), j < k + 1 → l1[j] = l2[j]) := fun e j hj hj2 h => by
        by_cases hjk : j = k
        · subst hjk; exact e
        · exact he.out j hj hj2 (by omega)
      have HN : Hid (l1[k] ≠ l2[k] → decide (l1 = l2) = false) := fun e => by
        rw [decide_eq_false_iff_not]
        intro h
        subst h
        exact e rfl
      generalize l1[k] = p at y1 y2 HE HN
      generalize l2[k] = q at u1 u2 HE HN
      obtain ⟨p1, p2⟩ := p
      obtain ⟨q1, q2⟩ := q
      simp only at y1 y2 u1 u2
      have hkl : (k : Int) < (l1.length : Int) := by omega
      have hkl2 : (k : Int) < (l2.length : Int) := by omega
      have B2 := Lib.hid hb.out.drew
      clear hc1 hc2 he
      go_wp2_with fail
      refine wp_region_flag (fun w' => w'.cell? ⟨b1, o1 + k * 2, none⟩ = some (.string p1) ∧ w'.cell? ⟨b1, o1 + k * 2 + 1, none⟩ = some (.string p2) ∧ w'.cell? ⟨b2, o2 + k * 2, none⟩ = some (.string q1) ∧ w'.cell? ⟨b2, o2 + k * 2 + 1, none⟩ = some (.string q2)) [(0, 1), (1, 1), (2, 1), (4, 1), (5, 1), (6, 1), (3, 2), (7, 0), (8, 1)] (by kernel_rfl) (by kernel_rfl) ⟨y1, y2, u1, u2⟩ ?_
      simp only [ordered, List.map_cons, List.map_nil, List.getD_cons_zero, List.getD_cons_succ]
      repeat (refine wpF_dry (fun K hK => ?_); go_simp; refine hK _ ?_; clear hK K)
      refine wpF_read (.agg #[.string p1, .string p2]) rfl (fun w' hS => by obtain ⟨s1, s2, s3, s4⟩ := hS; go_simp) (fun K hK => ?_)
      go_simp
      refine hK _ ?_
      clear hK K
      refine wpF_do ?_
      go_wp2_with fail
      refine ⟨⟨y1, y2, u1, u2⟩, ?_⟩
      by_cases e : (p1, p2) = (q1, q2)
      · have HE2 := Lib.hid (HE.out e)
        cases e
        repeat (refine wpF_dry (fun K hK => ?_); go_simp; refine hK _ ?_; clear hK K)
        refine wpF_nil ?_
        go_wp2
        go_roundw
        case rel => first | exact ⟨k + 1, hlt, by go_num, HE2, B2⟩ | ((repeat apply Exists.intro); refine ⟨?_, rfl⟩; exact ⟨k + 1, hlt, by go_num, HE2, B2⟩)
        case measure => simp [intOf]; omega
      · have EF := Lib.hid (HN.out e)
        clear HE HN
        by_cases e1 : p1 = q1
        · have e2 : p2 ≠ q2 := fun h => e (by rw [e1, h])
          have d1 : (p1.toList == q1.toList) = true := by rw [e1]; simp
          have d2 : (p2.toList == q2.toList) = false := by rw [beq_eq_false_iff_ne]; exact fun h => e2 (toListB_inj h)
          have d3 : (p2.toList != q2.toList) = true := by rw [bneS]; simpa using e2
          clear e e1 e2
          repeat (refine wpF_dry (fun K hK => ?_); go_simp; refine hK _ ?_; clear hK K)
          refine wpF_nil ?_
          go_wp2
          go_ret
          exact ⟨by rw [EF.out]; rfl, B2.out⟩
        · have d1 : (p1.toList == q1.toList) = false := by rw [beq_eq_false_iff_ne]; exact fun h => e1 (toListB_inj h)
          have d3 : (p1.toList != q1.toList) = true := by rw [bneS]; simpa using e1
          clear e e1
          repeat (refine wpF_dry (fun K hK => ?_); go_simp; refine hK _ ?_; clear hK K)
          refine wpF_nil ?_
          go_wp2
          go_ret
          exact ⟨by rw [EF.out]; rfl, B2.out⟩
    · have hkl : k = l1.length := by omega
      subst hkl
      have EQ : Hid (decide (l1 = l2) = true) := by
        unfold Hid
        rw [decide_eq_true_eq]
        exact List.ext_getElem HLEN.out (fun j h1 h2 => he.out j h1 h2 h1)
      clear he
      go_wp2
      go_ret
      exact ⟨by rw [EQ.out]; rfl, hb.out⟩
set_option maxRecDepth 100000 in
theorem may_no (w : World) (a b : ByteArray) (h : mayB a b = false) : Calls Try.prog 41 #[.string a, .string b] w fun e w' => e = .returned (.bool false) ∧ w = w' := by
  by_cases h1 : 1 ≤ a.size
  · have d1 : decide (1 ≤ (a.size : Int)) = true := decide_eq_true (by omega)
    have d1' : decide (1 ≤ a.size) = true := decide_eq_true h1
    by_cases h2 : a.size ≤ 64
    · have d2 : decide ((a.size : Int) ≤ 64) = true := decide_eq_true (by omega)
      have d2' : decide (a.size ≤ 64) = true := decide_eq_true h2
      have h3 : ¬ b.size ≤ 400 := fun h3 => by
        rw [mayB_iff.2 ⟨h1, h2, h3⟩] at h; cases h
      have d3 : decide ((b.size : Int) ≤ 400) = false := decide_eq_false (by omega)
      have d3' : decide (b.size ≤ 400) = false := decide_eq_false h3
      clear h
      go_enter Try.func41, Try.ntmps41
      go_wp2
      go_ret
      exact ⟨rfl, rfl⟩
    · have d2 : decide ((a.size : Int) ≤ 64) = false := decide_eq_false (by omega)
      have d2' : decide (a.size ≤ 64) = false := decide_eq_false h2
      clear h
      go_enter Try.func41, Try.ntmps41
      go_wp2
      go_ret
      exact ⟨rfl, rfl⟩
  · have d1 : decide (1 ≤ (a.size : Int)) = false := decide_eq_false (by omega)
    have d1' : decide (1 ≤ a.size) = false := decide_eq_false h1
    clear h
    go_enter Try.func41, Try.ntmps41
    go_wp2
    go_ret
    exact ⟨rfl, rfl⟩
set_option maxRecDepth 100000 in
theorem put_no (w : World) (gs : Nat) (a b : ByteArray) (h : mayB a b = false) : Calls Try.prog 17 #[.pointer (some ⟨gs, 0, none⟩), .string a, .string b] w fun e w' => e = .returned (.int .i64 1) ∧ w = w' := by
  have MN := Lib.hid (may_no w a b h)
  clear h
  go_enter Try.func17, Try.ntmps17
  go_wp2_with fail
  refine MN.out.mono ?_
  rintro e w' ⟨rfl, rfl⟩
  go_wp2
  go_ret
  exact ⟨rfl, rfl⟩

/-- One Op of a list, as its six cells. -/
theorem sops_at {w : World} {A : Option Addr} {n c : Nat} {l : List SOp} (h : RdSOps w (.slice A n c) l) (i : Nat) (hi : i < l.length) : n = l.length ∧ n ≤ c ∧ c ≤ maxLen ∧ ∃ b off, A = some ⟨b, off, none⟩ ∧ ∃ o : SOp, o.In ∧ w.cell? ⟨b, off + i * 6, none⟩ = some (.int .i64 o.kind) ∧ w.cell? ⟨b, off + i * 6 + 1, none⟩ = some (.int .i64 o.n) ∧ w.cell? ⟨b, off + i * 6 + 2, none⟩ = some (.int .i64 o.long) ∧ w.cell? ⟨b, off + i * 6 + 3, none⟩ = some (.string o.key) ∧ w.cell? ⟨b, off + i * 6 + 4, none⟩ = some (.string o.til) ∧ w.cell? ⟨b, off + i * 6 + 5, none⟩ = some (.string o.val) := by
  obtain ⟨⟨A', c', e, h1, h2, h3⟩, h4⟩ := h
  cases e
  obtain ⟨b, off, e, hc⟩ := h3 (by omega)
  exact ⟨rfl, h1, h2, b, off, e, l[i], h4 _ (List.getElem_mem hi), hc i hi⟩
theorem sops_val {w : World} {v : Value} {l : List SOp} (h : RdSOps w v l) : ∃ A c, v = .slice A l.length c := by
  obtain ⟨⟨A', c', e, _⟩, _⟩ := h
  exact ⟨A', c', e⟩
theorem sops_le {w : World} {v : Value} {l : List SOp} (h : RdSOps w v l) : l.length ≤ maxLen := by
  obtain ⟨⟨A', c', e, h1, h2, _⟩, _⟩ := h
  omega
set_option maxHeartbeats 6400000 in
set_option maxRecDepth 100000 in
theorem done_any (w0 w : World) (base gs gj g P : Nat) (L0 : List Lf) (hb0 : Below w0.heap.size w0 w) (h : Stt w w0.heap.size base gs gj g P L0) (hs0 : Srt (flatS (shP L0))) (hP1 : 2 ≤ P) (hP2 : P ≤ 1000) (hL0 : L0.length ≤ 1000) (A : Option Addr) (c : Nat) (l : List SOp) (hl : RdSOps w0 (.slice A l.length c) l) :
    Calls Try.prog 18 #[.pointer (some ⟨gs, 0, none⟩), .slice A l.length c] w fun e w' => ∃ q, e = .returned (.bool q) ∧ ∃ L, L.length ≤ L0.length + 40 ∧ Srt (flatS (shP L)) ∧ Stt w' w0.heap.size base gs gj g P L ∧ Below w0.heap.size w0 w' := by
  have HB0 := Lib.hid hb0; have ST0 := Lib.hid h; have HS0 := Lib.hid hs0; have HL := Lib.hid hl
  clear hb0 h hs0 hl
  go_enter Try.func18, Try.ntmps18
  go_wp2_with fail
  go_loopw [5, 6] (fun iv iv2 wr => ∃ i : Nat, i ≤ 40 ∧ i ≤ l.length ∧ iv = .int .i64 i ∧ Hid (Below w0.heap.size w0 wr) ∧ ∃ L, L.length ≤ L0.length + i ∧ Hid (Srt (flatS (shP L))) ∧ Hid (Stt wr w0.heap.size base gs gj g P L)) (fun iv _ _ => 40 - (intOf iv).toNat)
  case atStart => exact ⟨0, Nat.zero_le _, Nat.zero_le _, rfl, HB0, L0, Nat.le_refl _, HS0, ST0⟩
  case round =>
    obtain ⟨i, hi, hil, rfl, hb, L, hL, hsr, hst⟩ := hrel
    by_cases hlt : i < l.length
    case neg =>
      have d0 : decide ((i : Int) < (l.length : Int)) = false := decide_eq_false (by omega)
      go_wp2
      go_ret
      exact ⟨_, rfl, L, by omega, hsr.out, hst.out, hb.out⟩
    by_cases hi2 : i < 40
    case neg =>
      have d0 : decide ((i : Int) < (l.length : Int)) = true := decide_eq_true (by omega)
      have d1 : decide ((i : Int) < 40) = false := decide_eq_false (by omega)
      go_wp2
      go_ret
      exact ⟨_, rfl, L, by omega, hsr.out, hst.out, hb.out⟩
    obtain ⟨_, k1, k2, b, off, rfl, o, ho, Z0, Z1, Z2, Z3, Z4, Z5⟩ := sops_at HL.out i hlt
    obtain ⟨kd, n, lg, a, bt, cv⟩ := o
    simp only at Z0 Z1 Z2 Z3 Z4 Z5
    replace Z0 := Lib.hid Z0; replace Z1 := Lib.hid Z1; replace Z2 := Lib.hid Z2
    replace Z3 := Lib.hid Z3; replace Z4 := Lib.hid Z4; replace Z5 := Lib.hid Z5
    have HO := Lib.hid ho
    have hii : (i : Int) < (l.length : Int) := by omega
    have hi3 : (i : Int) < 40 := by omega
    have LG := Lib.hid (slight_any wr kd n lg a bt cv)
    clear ho
    have z0 := cell_below hb.out Z0.out
    have z1 := cell_below hb.out Z1.out
    have z2 := cell_below hb.out Z2.out
    have z3 := cell_below hb.out Z3.out
    have z4 := cell_below hb.out Z4.out
    have z5 := cell_below hb.out Z5.out
    go_wp2_with fail
    refine LG.out.mono ?_
    rintro e w2 ⟨⟨q, rfl⟩, q2⟩
    have B2 : Hid (Below w0.heap.size w0 w2) := hb.out.trans (q2.mono hb.out.size)
    have S2 : Hid (Stt w2 w0.heap.size base gs gj g P L) := hst.out.below q2
    clear z0 z1 z2 z3 z4 z5 LG q2 hst hb
    cases q with
    | false =>
      go_wp2
      go_ret
      exact ⟨_, rfl, L, by omega, hsr.out, S2.out, B2.out⟩
    | true =>
      have z0 := cell_below B2.out Z0.out
      have z1 := cell_below B2.out Z1.out
      have z2 := cell_below B2.out Z2.out
      have z3 := cell_below B2.out Z3.out
      have z4 := cell_below B2.out Z4.out
      have z5 := cell_below B2.out Z5.out
      by_cases hk : kd = 1
      · have dk : (kd == 1) = true := by simp [hk]
        have DR := Lib.hid (stt_drop S2.out (by omega) a)
        subst hk
        go_wp2_with fail
        refine DR.out.mono ?_
        rintro e w3 ⟨rfl, L3, s3, e3, q3⟩
        have S3 := Lib.hid s3
        have B3 : Hid (Below w0.heap.size w0 w3) := ⟨q3.os.trans B2.out.os, q3.tape.trans B2.out.tape, q3.output.trans B2.out.output, Nat.le_trans B2.out.size q3.size, fun k hk => (q3.block k hk).trans (B2.out.block k hk)⟩
        have L3l : L3.length ≤ L0.length + (i + 1) := by
          have q := dropA_len (shP L) a
          rw [← e3, shP_len, shP_len] at q
          omega
        have SR3 : Hid (Srt (flatS (shP L3))) := by
          unfold Hid
          rw [e3, drop_flat hsr.out (good_full S2.out.good)]
          exact srt_dropF hsr.out a
        clear s3 e3 q3 DR
        go_wp2
        go_roundw
        case rel => first | exact ⟨i + 1, by omega, by omega, by go_num, B3, L3, L3l, SR3, S3⟩ | ((repeat apply Exists.intro); refine ⟨?_, rfl⟩; exact ⟨i + 1, by omega, by omega, by go_num, B3, L3, L3l, SR3, S3⟩)
        case measure => simp [intOf]; omega
      · have dk : (kd == 1) = false := by rw [beq_eq_false_iff_ne]; exact hk
        have z3d : w2.drew.cell? ⟨b, off + i * 6 + 3, none⟩ = some (.string a) := z3
        have Q2d : Hid (Below w0.heap.size w0 w2.drew) := B2.out.drew
        have S2d := Lib.hid (S2.out.below (Below.refl _ w2).drew)
        have VL := Lib.hid (value_any w2.drew kd n lg a bt cv HO.out.val)
        obtain ⟨vv, hvv⟩ : ∃ q, q = valS lg cv := ⟨_, rfl⟩
        rw [← hvv] at VL
        clear hvv
        go_wp2_with fail
        refine wp_region_tail (fun w' => w'.cell? ⟨b, off + i * 6 + 3, none⟩ = some (.string a)) [(0, 1), (1, 1), (2, 1), (3, 1), (4, 1), (6, 1), (7, 1), (8, 1), (5, 2), (9, 0), (10, 0)] [11] (by kernel_rfl) (by kernel_rfl) z3d ?_
        repeat (refine wpT_dry (fun K hK => ?_); go_simp; refine hK _ ?_; clear hK K)
        refine wpT_read (.string a) rfl (fun w' hS => by go_simp) (fun K hK => ?_)
        go_simp
        refine hK _ ?_
        clear hK K
        refine wpT_do ?_
        go_wp2_with fail
        refine ⟨z3d, ?_⟩
        refine wpT_do ?_
        go_wp2_with fail
        refine VL.out.mono ?_
        rintro e w3 ⟨rfl, q3⟩
        have B3 : Hid (Below w0.heap.size w0 w3) := Q2d.out.trans (q3.mono Q2d.out.size)
        have S3 : Hid (Stt w3 w0.heap.size base gs gj g P L) := S2d.out.below q3
        clear z0 z1 z2 z3 z4 z5 z3d VL q3 B2 S2 Q2d S2d
        have z3 := cell_below B3.out Z3.out
        go_wp2_with fail
        refine ⟨z3, ?_⟩
        refine wpT_tail ?_
        refine wpE_do ?_
        cases hm : mayB a vv with
        | false =>
          have PN := Lib.hid (put_no w3 gs a vv hm)
          clear hm
          go_wp2_with fail
          refine PN.out.mono ?_
          rintro e w' ⟨rfl, rfl⟩
          clear PN
          go_wp2_with fail
          refine ⟨trivial, ?_⟩
          refine wpE_nil ?_
          go_wp2
          go_roundw
          case rel => first | exact ⟨i + 1, by omega, by omega, by go_num, B3, L, (by omega), hsr, S3⟩ | ((repeat apply Exists.intro); refine ⟨?_, rfl⟩; exact ⟨i + 1, by omega, by omega, by go_num, B3, L, (by omega), hsr, S3⟩)
          case measure => simp [intOf]; omega
        | true =>
          have EO := Lib.hid (mayB_iff.1 hm)
          have PT := Lib.hid (stt_put S3.out hP1 hP2 (by omega) EO.out)
          clear hm
          go_wp2_with fail
          refine PT.out.mono ?_
          rintro e w6 ⟨rfl, L6, s6, e6, q6⟩
          have S6 := Lib.hid s6
          have B6 : Hid (Below w0.heap.size w0 w6) := ⟨q6.os.trans B3.out.os, q6.tape.trans B3.out.tape, q6.output.trans B3.out.output, Nat.le_trans B3.out.size q6.size, fun k hk => (q6.block k hk).trans (B3.out.block k hk)⟩
          have L6l : L6.length ≤ L0.length + (i + 1) := by
            have q := putA_len (shP L) P a vv
            rw [← e6, shP_len, shP_len] at q
            omega
          have SR6 : Hid (Srt (flatS (shP L6))) := by
            unfold Hid
            rw [e6, put_flat hsr.out (good_full S3.out.good)]
            split
            · exact srt_putF hsr.out a vv
            · exact hsr.out
          clear s6 e6 q6 PT
          go_wp2_with fail
          refine ⟨trivial, ?_⟩
          refine wpE_nil ?_
          go_wp2
          go_roundw
          case rel => first | exact ⟨i + 1, by omega, by omega, by go_num, B6, L6, L6l, SR6, S6⟩ | ((repeat apply Exists.intro); refine ⟨?_, rfl⟩; exact ⟨i + 1, by omega, by omega, by go_num, B6, L6, L6l, SR6, S6⟩)
          case measure => simp [intOf]; omega
end Go.Proofs.Ytoolkamajlgcbaa
/- LdA: a shelf's two bytes as a number. -/
set_option linter.unusedVariables false
set_option linter.unusedSimpArgs false
namespace Go.Proofs.Ytoolkamajlgcbaa
open Go.RowKit

def byN (b : ByteArray) (i : Nat) : Nat := if h : i < b.size then (b[i]).toNat else 0
def twoN (b : ByteArray) (i : Nat) : Nat := byN b i * 256 + byN b (i + 1)
theorem byN_lt (b : ByteArray) (i : Nat) : byN b i < 256 := by
  unfold byN
  split
  · exact UInt8.toNat_lt _
  · decide
theorem i64_or8 {x y : Nat} (hx : x < 256) (hy : y < 256) : bits .or .i64 ((x : Int) * 256) (y : Int) = ((x * 256 + y : Nat) : Int) := by
  have h := bits_join .i64 16 (by decide) (fun n h0 h1 => by rw [IntKind.wrap_i64]; omega) 8 ((x : Int) * 256) (y : Int) (by omega) (by omega) (by omega) (by omega) (by omega) (by omega)
  rw [h]
  omega
set_option maxHeartbeats 1600000 in
set_option maxRecDepth 100000 in
theorem two_any (w : World) (b : ByteArray) (i : Nat) (h : i + 1 < b.size) (hi : i ≤ 100000) : Calls Try.prog 77 #[.string b, .int .i64 (i : Int)] w fun e w' => e = .returned (.int .i64 (twoN b i : Nat)) ∧ Below w.heap.size w w' := by
  have i0 : (i : Int) < (b.size : Int) := by omega
  have i1 : (i : Int) + 1 < (b.size : Int) := by omega
  have i2 : (0 : Int) ≤ (i : Int) + 1 := by omega
  have i3 : ((i : Int) + 1).toNat = i + 1 := by omega
  have w1 : IntKind.i64.wrap ((i : Int) + 1) = (i : Int) + 1 := by rw [IntKind.wrap_i64]; omega
  have hlt0 : i < b.size := by omega
  obtain ⟨x, hx⟩ : ∃ x, b[i] = x := ⟨_, rfl⟩
  obtain ⟨y, hy⟩ : ∃ y, b[i + 1] = y := ⟨_, rfl⟩
  have ex : Hid (byN b i = x.toNat) := by unfold Hid byN; rw [dif_pos hlt0, hx]
  have ey : Hid (byN b (i + 1) = y.toNat) := by unfold Hid byN; rw [dif_pos h, hy]
  have lx := x.toNat_lt
  have ly := y.toNat_lt
  have o8 := i64_or8 lx ly
  have wx : IntKind.i64.wrap (x.toNat : Int) = (x.toNat : Int) := by rw [IntKind.wrap_i64]; omega
  have wy : IntKind.i64.wrap (y.toNat : Int) = (y.toNat : Int) := by rw [IntKind.wrap_i64]; omega
  have wx8 : IntKind.i64.wrap ((x.toNat : Int) * 256) = (x.toNat : Int) * 256 := by rw [IntKind.wrap_i64]; omega
  go_enter Try.func77, Try.ntmps77
  go_wp2_with fail
  refine wp_region_flag (fun _ => True) [(0, 1), (1, 1), (2, 1), (3, 1), (4, 1), (5, 1), (6, 1), (7, 1), (8, 1), (9, 1), (10, 1), (11, 1)] (by kernel_rfl) (by kernel_rfl) trivial ?_
  simp only [ordered, List.map_cons, List.map_nil, List.getD_cons_zero, List.getD_cons_succ]
  repeat (refine wpF_dry (fun K hK => ?_); go_simp; refine hK _ ?_; clear hK K)
  refine wpF_nil ?_
  go_wp2
  go_ret
  refine ⟨?_, (Below.refl _ w).drew⟩
  show _ = Ending.returned (.int .i64 ((byN b i * 256 + byN b (i + 1) : Nat) : Int))
  rw [ex.out, ey.out]
  first | rfl | simp
end Go.Proofs.Ytoolkamajlgcbaa
