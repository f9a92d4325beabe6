/- LdE: a shelf is opened, in general. -/
import Derived.Test.YtoolkamajlgcbaaMr20
set_option linter.unusedVariables false
set_option linter.unusedSimpArgs false
namespace Go.Proofs.Ytoolkamajlgcbaa
open Go.RowKit

/-- A new shelf that has been read. -/
def OpTo (w : World) (gj : Nat) (sh : List (Nat × PL)) (gs : Nat) (w' : World) : Prop := w.heap.size ≤ gs ∧ Below w.heap.size w w' ∧ ∃ L v, shP L = sh ∧ ShO w' (gs + 1) gs gj v L
theorem OpTo.mk {w w' : World} {gj gs : Nat} {sh : List (Nat × PL)} (h1 : w.heap.size ≤ gs) (h2 : Below w.heap.size w w') (L : List Lf) (v : Value) (h3 : shP L = sh) (h4 : ShO w' (gs + 1) gs gj v L) : OpTo w gj sh gs w' := ⟨h1, h2, L, v, h3, h4⟩
set_option maxHeartbeats 1600000 in
set_option maxRecDepth 100000 in
theorem sopen_up (w : World) (F : Nat → Prop) (gj g P : Nat) (d : Dk) (h : HasDisk w F g d) (hj : Jb w gj g P) (hz : Sz d) (hw : d.waits.length < 9223372036854775807) (hP1 : 2 ≤ P) (hP : P ≤ 128) (hs : 8 * P + 1 ≤ d.l.length) (hup : d.down = false) :
    Calls Try.prog 22 #[.pointer (some ⟨gj, 0, none⟩)] w fun e w' => ((loadA d P).1 = 0 ∧ ∃ gs, e = .returned (.tuple #[.pointer (some ⟨gs, 0, none⟩), .int .i64 0]) ∧ OpTo w gj (loadA d P).2 gs w') ∨ ((loadA d P).1 ≠ 0 ∧ e = .returned (.tuple #[.pointer none, .int .i64 ((loadA d P).1 : Nat)]) ∧ Below w.heap.size w w') := by
  have dP : decide ((P : Int) < 2) = false := decide_eq_false (by omega)
  have dP' : decide (P < 2) = false := decide_eq_false (by omega)
  have PG := Lib.hid (pages_any w gj g P hj)
  obtain ⟨W1, hW1⟩ : ∃ W1, W1 = w.alloc (.cells #[.pointer (some ⟨gj, 0, none⟩), .slice none 0 0] 85) := ⟨_, rfl⟩
  have Q1 : Below w.heap.size w W1 := by rw [hW1]; exact (Below.refl _ w).alloc (Nat.le_refl _) _
  have hb1 : ShB W1 w.heap.size gj (.slice none 0 0) := by rw [hW1]; exact blk_new w _
  have sz1 : W1.heap.size = w.heap.size + 1 := by rw [hW1]; simp
  have LZ := Lib.hid (load_up W1 F w.heap.size gj g P d _ (h.below Q1) (hj.below Q1) hz hw hP1 hP hs hup hb1 (fun hf => by have := h.lt _ hf; omega))
  have Q1h := Lib.hid Q1
  have SZ1 := Lib.hid sz1
  obtain ⟨R, hR⟩ : ∃ R, R = loadA d P := ⟨_, rfl⟩
  rw [← hR] at LZ ⊢
  rw [hW1] at LZ
  clear h hj Q1 hb1 sz1 hR
  go_enter Try.func22, Try.ntmps22
  go_wp2_with fail
  refine PG.out.mono ?_
  rintro e w' ⟨rfl, rfl⟩
  go_wp2_with fail
  refine LZ.out.mono ?_
  rw [← hW1]
  rintro e w2 ⟨rfl, h2⟩
  have H2 := Lib.hid h2
  have B2 : Hid (Below w.heap.size w w2) := by
    obtain ⟨L, v, _, _, t⟩ := h2
    exact Q1h.out.trans (t.below Q1h.out.size (fun k hk => by rw [hk]; exact Nat.le_refl _))
  obtain ⟨r1, r2⟩ := R
  simp only at H2 ⊢
  clear h2 LZ hW1
  by_cases h0 : r1 = 0
  · subst h0
    go_wp2
    go_ret2
    refine ⟨w.heap.size, rfl, ?_⟩
    obtain ⟨L, v, e1, e2, t⟩ := H2.out
    rw [SZ1.out] at e2
    exact OpTo.mk (Nat.le_refl _) B2.out L v e1 e2
  · have d0 : ((r1 : Int) != 0) = true := by simp; omega
    have d0' : (r1 != 0) = true := by simpa using h0
    go_wp2
    go_ret2
    exact ⟨rfl, B2.out⟩
set_option maxHeartbeats 1600000 in
set_option maxRecDepth 100000 in
theorem sopen_down (w : World) (F : Nat → Prop) (gj g P : Nat) (d : Dk) (h : HasDisk w F g d) (hj : Jb w gj g P) (hz : Sz d) (hw : d.waits.length < 9223372036854775807) (hP1 : 2 ≤ P) (hP : P ≤ 128) (hs : 8 * P + 1 ≤ d.l.length) (hdn : d.down = true) :
    Calls Try.prog 22 #[.pointer (some ⟨gj, 0, none⟩)] w fun e w' => e = .returned (.tuple #[.pointer none, .int .i64 10]) ∧ Below w.heap.size w w' := by
  have dP : decide ((P : Int) < 2) = false := decide_eq_false (by omega)
  have dP' : decide (P < 2) = false := decide_eq_false (by omega)
  have PG := Lib.hid (pages_any w gj g P hj)
  obtain ⟨W1, hW1⟩ : ∃ W1, W1 = w.alloc (.cells #[.pointer (some ⟨gj, 0, none⟩), .slice none 0 0] 85) := ⟨_, rfl⟩
  have Q1 : Below w.heap.size w W1 := by rw [hW1]; exact (Below.refl _ w).alloc (Nat.le_refl _) _
  have hb1 : ShB W1 w.heap.size gj (.slice none 0 0) := by rw [hW1]; exact blk_new w _
  have LZ := Lib.hid (load_down W1 F w.heap.size gj g P d _ (h.below Q1) (hj.below Q1) hz hw hP1 hP hs hdn hb1)
  have Q1h := Lib.hid Q1
  rw [hW1] at LZ
  clear h hj Q1 hb1
  go_enter Try.func22, Try.ntmps22
  go_wp2_with fail
  refine PG.out.mono ?_
  rintro e w' ⟨rfl, rfl⟩
  go_wp2_with fail
  refine LZ.out.mono ?_
  rw [← hW1]
  rintro e w2 ⟨rfl, q2⟩
  have B2 : Hid (Below w.heap.size w w2) := Q1h.out.trans (q2.mono Q1h.out.size)
  clear q2 LZ hW1
  go_wp2
  go_ret2
  exact ⟨rfl, B2.out⟩
end Go.Proofs.Ytoolkamajlgcbaa
/- LdF: all entries of a shelf; what a shelf that was read is. -/
set_option linter.unusedVariables false
set_option linter.unusedSimpArgs false
namespace Go.Proofs.Ytoolkamajlgcbaa
open Go.RowKit

theorem rep_add (n : Nat) (c : UInt8) : Dk.rep n c ++ ({ data := #[c] } : ByteArray) = Dk.rep (n + 1) c := by
  apply ByteArray.ext
  rw [ByteArray.data_append]
  show (List.replicate n c).toArray ++ #[c] = (List.replicate (n + 1) c).toArray
  apply Array.toList_inj.1
  rw [List.replicate_succ']
  simp only [Array.toList_append]
theorem bl_most : ∀ (n : Nat) (x : List UInt8), x.length ≤ n → Op.bytesLess (List.replicate n 255) x = false
  | 0, [], _ => by simp [Op.bytesLess]
  | n + 1, [], _ => by rw [List.replicate_succ]; simp [Op.bytesLess]
  | 0, _ :: _, h => by simp at h
  | n + 1, b :: x, h => by
    rw [List.replicate_succ, bl_cons, bl_most n x (by simpa using h)]
    simp only [Bool.and_false, Bool.or_false, decide_eq_false_iff_not, UInt8.lt_iff_toNat_lt]
    have := b.toNat_lt
    show ¬ 255 < b.toNat
    omega
theorem most_ge {a : ByteArray} (h : a.size ≤ 65) : ltB (Dk.rep 65 255) a = false := by
  unfold ltB
  rw [Lib.toList_data, Lib.toList_data]
  have e : (Dk.rep 65 255).data.toList = List.replicate 65 255 := rfl
  rw [e]
  exact bl_most 65 _ (by simpa using h)
theorem empty_le (a : ByteArray) : ltB a ByteArray.empty = false := by
  unfold ltB
  rw [Lib.toList_data, Lib.toList_data]
  show Op.bytesLess a.data.toList [] = false
  cases a.data.toList <;> simp [Op.bytesLess]
/-- Each entry of a list of which none is longer than may be lies between. -/
theorem rng_all {F : PL} (h : ∀ p ∈ F, EntOK p) : rngF F ByteArray.empty (Dk.rep 65 255) = F := by
  unfold rngF
  refine List.filter_eq_self.2 (fun p hp => ?_)
  rw [empty_le, most_ge (by have := (h p hp).2.1; omega)]
  rfl
theorem flat_ok {sh : List (Nat × PL)} (h : GoodS sh) : ∀ p ∈ flatS sh, EntOK p := fun p hp => by
  obtain ⟨y, hy, hp⟩ := List.mem_flatMap.1 hp
  exact (h y hy).2.2.1 p hp
theorem goodS_full {sh : List (Nat × PL)} (h : GoodS sh) : Full sh := fun i hi => (h _ (lf_mem hi)).2.1
theorem goodS_leaf {sh : List (Nat × PL)} (h : GoodS sh) (i : Nat) : szL (lfA sh i) ≤ 1020 ∧ (lfA sh i).length ≤ 340 := by
  by_cases hi : i < sh.length
  · have h1 := (h _ (lf_mem hi)).1
    have h2 := (szL_len (lfA sh i)).1
    have h1 : szL (lfA sh i) ≤ 1020 := h1
    exact ⟨h1, by omega⟩
  · rw [lfA_out (by omega)]
    exact ⟨by decide, by decide⟩
theorem goodS_tail {sh : List (Nat × PL)} (h : GoodS sh) (hn : sh.length ≤ 50000) (i k : Nat) : (tailS sh i k).length ≤ 1000000000 := by
  have fl : ∀ (l : List (Nat × PL)), (∀ y ∈ l, y.2.length ≤ 340) → (l.flatMap (·.2)).length ≤ 340 * l.length := by
    intro l
    induction l with
    | nil => intro _; simp
    | cons y r ih =>
      intro hl
      have h1 := hl y (List.mem_cons_self ..)
      have h2 := ih (fun z hz => hl z (List.mem_cons_of_mem _ hz))
      rw [List.flatMap_cons, List.length_append, List.length_cons]
      omega
  have h1 := fl (sh.drop (i + 1)) (fun y hy => by
    have := (szL_len y.2).1
    have := (h y (List.mem_of_mem_drop hy)).1
    omega)
  have h2 := (goodS_leaf h i).2
  unfold tailS
  rw [List.length_append, List.length_drop]
  rw [List.length_drop] at h1
  omega
theorem flatG_len {sh : List (Nat × PL)} (h : GoodS sh) : (flatS sh).length ≤ 340 * sh.length := by
  induction sh with
  | nil => simp [flatS]
  | cons x r ih =>
    have h1 := (h x (List.mem_cons_self ..)).1
    have h2 := (szL_len x.2).1
    have h3 := ih (fun y hy => h y (List.mem_cons_of_mem _ hy))
    unfold flatS at h3 ⊢
    rw [List.flatMap_cons, List.length_append, List.length_cons]
    omega
theorem own_base' {w : World} {b0 b1 n : Nat} {e : TypeId} {size : Nat} {v : Value} {xs : List Value} (h : w.ownsRow b1 e size v n xs) (hb : b0 ≤ b1) : w.ownsRow b0 e size v n xs := by
  obtain ⟨h1, h2⟩ := h
  refine ⟨h1, ?_⟩
  rcases h2 with h2 | ⟨g, cap, cur, e1, hg, r⟩
  · exact .inl h2
  · exact .inr ⟨g, cap, cur, e1, Nat.le_trans hb hg, r⟩
def slenV : Value → Nat
  | .string s => s.size
  | _ => 0
set_option maxHeartbeats 1600000 in
set_option maxRecDepth 100000 in
theorem all_any (w : World) (gs : Nat) (sh : List (Nat × PL)) (hs : ShRd w gs sh) (hg : GoodS sh) (hsr : Srt (flatS sh)) (hn : sh.length ≤ 2000) :
    Calls Try.prog 23 #[.pointer (some ⟨gs, 0, none⟩)] w fun e w' => ∃ v, e = .returned v ∧ w'.ownsRow w.heap.size 47 2 v (flatS sh).length (prv (flatS sh)) ∧ Below w.heap.size w w' := by
  obtain ⟨W1, hW1⟩ : ∃ W, W = w.alloc (.cells #[.int .u8 255] 5) := ⟨_, rfl⟩
  have K1 : Hid (Below w.heap.size w W1) := by rw [hW1]; exact (Below.refl _ w).alloc (Nat.le_refl _) _
  have hcv := conv_part W1 1 w.heap.size 1 255 (by
    rw [hW1]
    have h := World.ownsRow_lit (base := 0) (e := 5) (size := 1) w #[.int .u8 255] 1 (Nat.zero_le _) (by decide) rfl
    exact h)
  rw [hW1] at hcv
  have RG := Lib.hid (range_any W1 gs sh (hs.below K1.out) (goodS_full hg) (by omega) (fun i => by have := (goodS_leaf hg i).2; omega) (goodS_tail hg (by omega)) ByteArray.empty (Dk.rep 65 255) 1000000)
  have fl := flatG_len hg
  rw [rngR_eq hsr (goodS_full hg), rng_all (flat_ok hg), show (1000000 : Int).toNat = 1000000 from rfl, List.take_of_length_le (show (flatS sh).length ≤ 1000000 by omega)] at RG
  generalize flatS sh = FF at RG
  have HW1 := Lib.hid hW1
  clear hs hg hsr hW1 fl
  go_enter Try.func23, Try.ntmps23
  go_wp2_with fail
  rw [← HW1.out]
  clear hcv
  go_loopw [3] (fun sv wr => ∃ k : Nat, 1 ≤ k ∧ k ≤ 65 ∧ sv = .string (Dk.rep k 255) ∧ wr = W1) (fun sv _ => 65 - slenV sv)
  case atStart => exact ⟨1, by decide, by decide, rfl, rfl⟩
  case round =>
    obtain ⟨k, hk1, hk2, rfl, rfl⟩ := hrel
    have hsz : (Dk.rep k 255).size = k := Dk.rep_size k 255
    by_cases hlt : k < 65
    · have ha := rep_add k 255
      have hs1 : (Dk.rep (k + 1) 255).size = k + 1 := Dk.rep_size _ _
      have d1 : decide ((k : Int) < 65) = true := decide_eq_true (by omega)
      have d2 : (k : Int) < 65 := by omega
      go_wp2
      go_roundw
      case rel => first | exact ⟨k + 1, by omega, hlt, by rw [← ha], rfl⟩ | exact ⟨k + 1, by omega, hlt, rfl, rfl⟩ | exact ⟨k + 1, by omega, hlt, rfl, trivial⟩ | exact ⟨k + 1, by omega, hlt, by rw [← ha], trivial⟩ | ((repeat apply Exists.intro); refine ⟨?_, rfl⟩; exact ⟨k + 1, by omega, hlt, rfl, rfl⟩)
      case measure => simp only [slenV]; first | (rw [hs1, hsz]; omega) | (rw [ha, hs1, hsz]; omega) | (simp [hs1, hsz]; omega)
    · have hk65 : k = 65 := by omega
      subst hk65
      go_wp2_with fail
      refine RG.out.mono ?_
      rintro e w2 ⟨v, rfl, ho, b2⟩
      have O2 := Lib.hid (own_base' ho K1.out.size)
      have B2 : Hid (Below w.heap.size w w2) := K1.out.trans (b2.mono K1.out.size)
      obtain ⟨A, c, rfl⟩ := own_slice ho
      clear ho b2 RG
      go_wp2
      go_ret
      exact ⟨_, rfl, O2.out, B2.out⟩
end Go.Proofs.Ytoolkamajlgcbaa
/- LdG: a shelf that was read is in order, and all its entries may be. -/
set_option linter.unusedVariables false
set_option linter.unusedSimpArgs false
namespace Go.Proofs.Ytoolkamajlgcbaa
open Go.RowKit

theorem ordF_ok : ∀ (l : PL) (last k : ByteArray), ordF last l = some k → Srt l ∧ (∀ p ∈ l, ltB last p.1 = true) ∧ (∀ p ∈ l, ltB k p.1 = false) ∧ (l ≠ [] → ltB last k = true) ∧ (l = [] → k = last)
  | [], last, k, h => by
    cases h
    exact ⟨List.Pairwise.nil, (fun p hp => by cases hp), (fun p hp => by cases hp), (fun h => absurd rfl h), (fun _ => rfl)⟩
  | p :: l, last, k, h => by
    rw [ordF] at h
    by_cases hlt : ltB last p.1 = true
    · rw [if_pos hlt] at h
      obtain ⟨h1, h2, h3, h4, h5⟩ := ordF_ok l p.1 k h
      have hpk : ltB k p.1 = false := by
        by_cases hl : l = []
        · rw [h5 hl]; exact ltB_irr _
        · exact ltB_asym (h4 hl)
      refine ⟨List.pairwise_cons.2 ⟨fun q hq => h2 q hq, h1⟩, fun q hq => ?_, fun q hq => ?_, fun _ => ltB_lt2 hlt hpk, fun h => by cases h⟩
      · rcases List.mem_cons.1 hq with rfl | hq
        · exact hlt
        · exact ltB_trans hlt (h2 q hq)
      · rcases List.mem_cons.1 hq with rfl | hq
        · exact hpk
        · exact h3 q hq
    · rw [if_neg hlt] at h; cases h
theorem flatS_app (sh : List (Nat × PL)) (id : Nat) (l : PL) : flatS (sh ++ [(id, l)]) = flatS sh ++ l := by
  unfold flatS
  rw [List.flatMap_append, List.flatMap_cons, List.flatMap_nil, List.append_nil]
/-- What was read: leaves that may be, in order, of pages from 1 on, each once. -/
theorem loadF_ok {rd : Nat → ByteArray} {P : Nat} (hrd : ∀ i, i < P → (rd i).size = 1024) (hP : P ≤ 1000) : ∀ (f id : Nat) (last : ByteArray) (sh r : List (Nat × PL)) (e : Nat), loadF rd P f id last sh = (e, r) → GoodS sh → Srt (flatS sh) → (∀ p ∈ flatS sh, ltB last p.1 = false) →
    ((sh.map (·.1)).Nodup ∧ ∀ x ∈ sh.map (·.1), 1 ≤ x ∧ x ≤ P - 1) → (e = 0 ∨ e = 4) ∧ GoodS r ∧ Srt (flatS r) ∧ ((r.map (·.1)).Nodup ∧ ∀ x ∈ r.map (·.1), 1 ≤ x ∧ x ≤ P - 1)
  | 0, id, last, sh, r, e, h, h1, h2, h3, h4 => by
    cases h
    exact ⟨.inr rfl, h1, h2, h4⟩
  | f + 1, id, last, sh, r, e, h, h1, h2, h3, h4 => by
    rw [loadF] at h
    by_cases h0 : id = 0
    · rw [if_pos h0] at h; cases h; exact ⟨.inl rfl, h1, h2, h4⟩
    rw [if_neg h0] at h
    by_cases hp : P ≤ id
    · rw [if_pos hp] at h; cases h; exact ⟨.inr rfl, h1, h2, h4⟩
    rw [if_neg hp] at h
    cases hu : usedA sh sh.length id with
    | true => rw [if_pos hu] at h; cases h; exact ⟨.inr rfl, h1, h2, h4⟩
    | false =>
    rw [if_neg (by rw [hu]; decide)] at h
    cases he : entA (rd id) with
    | none => rw [he] at h; cases h; exact ⟨.inr rfl, h1, h2, h4⟩
    | some l =>
    rw [he] at h
    replace h : (if l = [] then (4, sh) else match ordF last l with | none => (4, sh) | some k => loadF rd P f (twoN (rd id) 0) k (sh ++ [(id, l)])) = (e, r) := h
    by_cases hl : l = []
    · rw [if_pos hl] at h; cases h; exact ⟨.inr rfl, h1, h2, h4⟩
    rw [if_neg hl] at h
    cases ho : ordF last l with
    | none => rw [ho] at h; cases h; exact ⟨.inr rfl, h1, h2, h4⟩
    | some k =>
    rw [ho] at h
    have hsz := hrd id (by omega)
    obtain ⟨e1, e2, e3⟩ := entA_ok he (by omega)
    obtain ⟨o1, o2, o3, o4, _⟩ := ordF_ok l last k ho
    have lk := o4 hl
    refine loadF_ok hrd hP f _ k (sh ++ [(id, l)]) r e h (fun y hy => ?_) ?_ (fun p hp => ?_) (used_ids h4 hu h0 hp l)
    · rcases List.mem_append.1 hy with hy | hy
      · exact h1 y hy
      · rw [List.mem_singleton] at hy
        subst hy
        refine ⟨by show szL l ≤ 1020; omega, ?_, e2, by show id ≤ 1000; omega⟩
        show 0 < l.length
        rcases Nat.eq_zero_or_pos l.length with h | h
        · exact absurd (List.eq_nil_of_length_eq_zero h) hl
        · exact h
    · rw [flatS_app]
      unfold Srt
      rw [List.pairwise_append]
      exact ⟨h2, o1, fun p hp q hq => ltB_lt (h3 p hp) (o2 q hq)⟩
    · rw [flatS_app] at hp
      rcases List.mem_append.1 hp with hp | hp
      · exact ltB_asym (ltB_lt (h3 p hp) lk)
      · exact o3 p hp
theorem loadA_ok {d : Dk} {P : Nat} (hz : Sz d) (hup : d.down = false) (hs : 8 * P + 1 ≤ d.l.length) (hP : P ≤ 1000) : ((loadA d P).1 = 0 ∨ (loadA d P).1 = 4) ∧ GoodS (loadA d P).2 ∧ Srt (flatS (loadA d P).2) ∧ (((loadA d P).2.map (·.1)).Nodup ∧ ∀ x ∈ (loadA d P).2.map (·.1), 1 ≤ x ∧ x ≤ P - 1) :=
  loadF_ok (fun i hi => pgS_size hz hup hs hi) hP P _ _ [] _ _ rfl (fun x hx => by cases hx) List.Pairwise.nil (fun p hp => by cases hp) ⟨List.nodup_nil, fun x hx => by cases hx⟩
end Go.Proofs.Ytoolkamajlgcbaa
