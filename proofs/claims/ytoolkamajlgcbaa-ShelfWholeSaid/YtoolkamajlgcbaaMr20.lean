/- LdB: a page's entries are read. -/
import Derived.Test.YtoolkamajlgcbaaMr19
import Derived.Deep.LoopGhost
set_option linter.unusedVariables false
set_option linter.unusedSimpArgs false
namespace Go.Proofs.Ytoolkamajlgcbaa
open Go.RowKit

/-- The entries of a page from a place on, with those that were read; none: they are none. -/
def entF (b : ByteArray) : Nat → Nat → PL → Option PL
  | 0, _, l => some l
  | n + 1, i, l => if b.size < i + 3 then none
    else if b.size < i + 3 + (byN b i + twoN b (i + 1)) then none
    else if mayB (b.extract (i + 3) (i + 3 + byN b i)) (b.extract (i + 3 + byN b i) (i + 3 + byN b i + twoN b (i + 1))) = true then entF b n (i + 3 + byN b i + twoN b (i + 1)) (l ++ [(b.extract (i + 3) (i + 3 + byN b i), b.extract (i + 3 + byN b i) (i + 3 + byN b i + twoN b (i + 1)))])
    else none
def entA (b : ByteArray) : Option PL := entF b (twoN b 2) 4 []
theorem twoN_lt (b : ByteArray) (i : Nat) : twoN b i < 65536 := by
  have := byN_lt b i
  have := byN_lt b (i + 1)
  unfold twoN
  omega
set_option maxHeartbeats 6400000 in
set_option maxRecDepth 100000 in
theorem entries_any (w : World) (b : ByteArray) (h4 : 4 ≤ b.size) (hb : b.size ≤ 100000) : Calls Try.prog 78 #[.string b] w fun e w' =>
    ((entA b = none ∧ e = .returned (.tuple #[.slice none 0 0, .bool false])) ∨ ∃ l v, entA b = some l ∧ e = .returned (.tuple #[v, .bool true]) ∧ w'.ownsRow w.heap.size 47 2 v l.length (prv l)) ∧ Below w.heap.size w w' := by
  obtain ⟨i0, hi0, hz0, hz1, hz2⟩ := info_parts infoPr
  have TW2 := Lib.hid (two_any w b 2 (by omega) (by decide))
  have NL := twoN_lt b 2
  obtain ⟨n, hn⟩ : ∃ n, n = twoN b 2 := ⟨_, rfl⟩
  have EA : Hid (entA b = entF b n 4 []) := by unfold Hid entA; rw [hn]
  rw [← hn] at TW2 NL
  generalize entA b = R at EA ⊢
  have hbl : ∀ i : Nat, (i : Int) < (b.size : Int) ↔ i < b.size := fun i => by omega
  clear hn hbl
  rw [show ((2 : Nat) : Int) = 2 from rfl] at TW2
  go_enter Try.func78, Try.ntmps78
  go_wp2_with fail
  refine TW2.out.mono ?_
  rintro e w1 ⟨rfl, q1⟩
  have B1 := Lib.hid q1
  have O1 := Lib.hid (World.ownsRow_nil w1 w.heap.size 47 2)
  clear q1 TW2
  go_wp2_with fail
  go_loopw [4, 5, 11] (fun lv av iv wr => ∃ (i a : Nat) (l : PL), i ≤ n ∧ a ≤ b.size ∧ iv = .int .i64 i ∧ av = .int .i64 a ∧ l.length ≤ i ∧ Hid (R = entF b (n - i) a l) ∧ Hid (wr.ownsRow w.heap.size 47 2 lv l.length (prv l)) ∧ Hid (Below w.heap.size w wr)) (fun _ _ iv _ => n - (intOf iv).toNat)
  case atStart => exact ⟨0, 4, [], Nat.zero_le _, h4, rfl, rfl, Nat.le_refl _, EA, O1, B1⟩
  case round =>
    obtain ⟨i, a, l, hi, ha, rfl, rfl, hll, hR, hO, hB⟩ := hrel
    obtain ⟨Al, cl, rfl⟩ := own_slice hO.out
    by_cases hlt : i < n
    case neg =>
      have hin : i = n := by omega
      have RE : Hid (R = some l) := by unfold Hid; rw [hR.out, hin, Nat.sub_self]; rfl
      clear hR
      go_wp2
      go_ret2
      exact ⟨.inr ⟨l, _, RE.out, rfl, hO.out⟩, hB.out⟩
    have RS := hR.out
    rw [show n - i = (n - (i + 1)) + 1 by omega, entF] at RS
    by_cases h3 : b.size < a + 3
    · rw [if_pos h3] at RS
      have RE := Lib.hid RS
      have d3 : decide ((b.size : Int) < (a : Int) + 3) = true := decide_eq_true (by omega)
      have d3' : (b.size : Int) < (a : Int) + 3 := by omega
      clear RS hR h3
      go_wp2
      go_ret2
      exact ⟨.inl ⟨RE.out, rfl⟩, hB.out⟩
    rw [if_neg h3] at RS
    have d3 : decide ((b.size : Int) < (a : Int) + 3) = false := decide_eq_false (by omega)
    have d3' : ¬ (b.size : Int) < (a : Int) + 3 := by omega
    have TW := fun W => Lib.hid (two_any W b (a + 1) (by omega) (by omega))
    have e1 : (a : Int) + 1 = ((a + 1 : Nat) : Int) := by omega
    rw [← e1] at TW
    have hk := byN_lt b a
    have hv := twoN_lt b (a + 1)
    obtain ⟨x, hx⟩ : ∃ x, b[a]'(by omega) = x := ⟨_, rfl⟩
    have bx : byN b a = x.toNat := by unfold byN; rw [dif_pos (by omega), hx]
    rw [bx] at RS hk
    generalize twoN b (a + 1) = v at RS TW hv
    obtain ⟨k, hk2⟩ : ∃ k, x.toNat = k := ⟨_, rfl⟩
    rw [hk2] at RS hk
    have hal : (a : Int) < (b.size : Int) := by omega
    have wk : IntKind.i64.wrap (k : Int) = (k : Int) := by rw [IntKind.wrap_i64]; omega
    clear e1 bx
    go_wp2_with fail
    refine wp_region_flag (fun _ => True) [(0, 1), (1, 1), (2, 1), (3, 1), (4, 1), (5, 1), (6, 1), (7, 0), (8, 1), (9, 1)] (by kernel_rfl) (by kernel_rfl) trivial ?_
    simp only [ordered, List.map_cons, List.map_nil, List.getD_cons_zero, List.getD_cons_succ]
    repeat (refine wpF_dry (fun K hK => ?_); go_simp; refine hK _ ?_; clear hK K)
    refine wpF_do ?_
    go_wp2_with fail
    refine (TW _).out.mono ?_
    rintro e w2 ⟨rfl, q2⟩
    have Q2 : Hid (Below wr.heap.size wr w2) := (Below.refl _ wr).drew.trans q2
    have B2 : Hid (Below w.heap.size w w2) := hB.out.trans (Q2.out.mono hB.out.size)
    have O2 : Hid (w2.ownsRow w.heap.size 47 2 (.slice Al l.length cl) l.length (prv l)) := own_touch hO.out (Touch.of_below Q2.out : Touch (fun _ => False) wr w2) (fun _ _ x => x)
    clear q2 TW hB hO Q2
    go_wp2_with fail
    refine ⟨trivial, ?_⟩
    repeat (refine wpF_dry (fun K hK => ?_); go_simp; refine hK _ ?_; clear hK K)
    refine wpF_nil ?_
    obtain ⟨c, hc⟩ : ∃ c, c = a + 3 := ⟨_, rfl⟩
    obtain ⟨kv, hkv⟩ : ∃ q, q = k + v := ⟨_, rfl⟩
    have e2 : (a : Int) + 3 = (c : Int) := by omega
    have e3 : (k : Int) + (v : Int) = (kv : Int) := by omega
    rw [← hc, ← hkv] at RS
    have HC := Lib.hid hc; have HKV := Lib.hid hkv
    have hcb : c ≤ b.size := by omega
    have hkv2 : kv ≤ 65791 := by omega
    clear hc hkv hal d3 d3'
    by_cases h5 : b.size < c + kv
    · rw [if_pos h5] at RS
      have RE := Lib.hid RS
      have d5 : decide ((b.size : Int) - (c : Int) < (kv : Int)) = true := decide_eq_true (by omega)
      have d5' : (b.size : Int) - (c : Int) < (kv : Int) := by omega
      clear RS hR h5
      go_wp2
      go_ret2
      exact ⟨.inl ⟨RE.out, rfl⟩, B2.out⟩
    rw [if_neg h5] at RS
    have d5 : decide ((b.size : Int) - (c : Int) < (kv : Int)) = false := decide_eq_false (by omega)
    have d5' : ¬ (b.size : Int) - (c : Int) < (kv : Int) := by omega
    obtain ⟨c4, hc4⟩ : ∃ q, q = c + k := ⟨_, rfl⟩
    obtain ⟨c5, hc5⟩ : ∃ q, q = c4 + v := ⟨_, rfl⟩
    rw [← hc4, ← hc5] at RS
    have e4 : (c : Int) + (k : Int) = (c4 : Int) := by omega
    have e5 : (c4 : Int) + (v : Int) = (c5 : Int) := by omega
    have e6 : (c : Int) + (kv : Int) = (c5 : Int) := by have := HKV.out; omega
    have hc5b : c5 ≤ b.size := by have := HKV.out; omega
    have hle1 : c ≤ c4 := by omega
    have hle2 : c4 ≤ c5 := by omega
    have li1 : (c : Int) ≤ (c4 : Int) := by omega
    have li2 : (c4 : Int) ≤ (c5 : Int) := by omega
    have li3 : (c5 : Int) ≤ (b.size : Int) := by omega
    have li4 : (c4 : Int) ≤ (b.size : Int) := by omega
    have w4 : IntKind.i64.wrap (c4 : Int) = (c4 : Int) := by rw [IntKind.wrap_i64]; omega
    have w5 : IntKind.i64.wrap (c5 : Int) = (c5 : Int) := by rw [IntKind.wrap_i64]; omega
    have HC4 := Lib.hid hc4; have HC5 := Lib.hid hc5
    clear hc4 hc5
    obtain ⟨pk, hpk⟩ : ∃ q, q = b.extract c c4 := ⟨_, rfl⟩
    obtain ⟨pv, hpv⟩ : ∃ q, q = b.extract c4 c5 := ⟨_, rfl⟩
    rw [← hpk, ← hpv] at RS
    go_wp2_with fail
    refine wp_region_flag (fun _ => True) [(0, 1), (1, 1), (2, 1), (3, 1), (4, 1), (5, 1), (6, 1), (7, 1), (8, 1), (9, 1), (10, 1), (11, 1), (12, 1), (13, 1), (14, 1), (15, 1), (16, 1), (17, 0), (18, 0)] (by kernel_rfl) (by kernel_rfl) trivial ?_
    simp only [ordered, List.map_cons, List.map_nil, List.getD_cons_zero, List.getD_cons_succ]
    repeat (refine wpF_dry (fun K hK => ?_); go_simp; refine hK _ ?_; clear hK K)
    refine wpF_do ?_
    go_wp2_with fail
    refine ⟨trivial, ?_⟩
    refine wpF_do ?_
    go_wp2_with fail
    refine ⟨trivial, ?_⟩
    refine wpF_nil ?_
    rw [← hpk, ← hpv]
    obtain ⟨W3, hW3⟩ : ∃ W, W = (w2.alloc (.cells #[.string pk, .string pv] 47)).drew := ⟨_, rfl⟩
    have K3 : Hid (Below w2.heap.size w2 W3) := by rw [hW3]; exact ((Below.refl _ w2).alloc (Nat.le_refl _) _).drew
    have P3 : Hid (W3.heap[w2.heap.size]? = some (.cells #[.string pk, .string pv] 47 (0, 0))) := by rw [hW3]; exact blk_new w2 _
    have B3 : Hid (Below w.heap.size w W3) := B2.out.trans (K3.out.mono B2.out.size)
    have O3 : Hid (W3.ownsRow w.heap.size 47 2 (.slice Al l.length cl) l.length (prv l)) := own_touch O2.out (Touch.of_below K3.out : Touch (fun _ => False) w2 W3) (fun _ _ x => x)
    have x0 := blk_cell P3.out 0; have x1 := blk_cell P3.out 1
    simp at x0 x1
    rw [← hW3]
    clear hW3 B2 O2 K3 hpk hpv
    cases hm : mayB pk pv with
    | false =>
      rw [if_neg (by rw [hm]; decide)] at RS
      have RE := Lib.hid RS
      have MN := Lib.hid (may_no W3 pk pv hm)
      clear RS hR hm
      go_wp2_with fail
      refine MN.out.mono ?_
      rintro e w' ⟨rfl, rfl⟩
      clear MN
      go_wp2
      go_ret2
      exact ⟨.inl ⟨RE.out, rfl⟩, B3.out⟩
    | true =>
      rw [if_pos hm] at RS
      have RE := Lib.hid RS
      obtain ⟨m1, m2, m3⟩ := mayB_iff.1 hm
      have MO := Lib.hid (may_ok W3 pk pv m1 m2 m3)
      clear RS hR hm m1 m2 m3
      go_wp2_with fail
      refine MO.out.mono ?_
      rintro e w' ⟨rfl, rfl⟩
      clear MO
      obtain ⟨W4, hW4⟩ : ∃ W, W = W3.alloc (.cells #[.string pk, .string pv] 47) := ⟨_, rfl⟩
      have K4 : Hid (Below W3.heap.size W3 W4) := by rw [hW4]; exact (Below.refl _ W3).alloc (Nat.le_refl _) _
      have O4 : Hid (W4.ownsRow w.heap.size 47 2 (.slice Al l.length cl) l.length (prv l)) := own_touch O3.out (Touch.of_below K4.out : Touch (fun _ => False) W3 W4) (fun _ _ x => x)
      have NW : Hid (∀ j u, [Value.string pk, .string pv][j]? = some u → W4.cell? ((⟨W3.heap.size, 0, none⟩ : Addr).add j) = some u) := by unfold Hid; rw [hW4]; exact two_new _ _ _ _
      have B4 : Hid (Below w.heap.size w W4) := B3.out.trans (K4.out.mono B3.out.size)
      have HW4 := Lib.hid hW4
      clear hW4
      go_wp2_with (at_builtin; rw [← HW4.out]; refine (wpList_append_own_at _ rfl (.tmp 59) (.tmp 61) 43 rfl w.heap.size 47 i0 _ 2 32 Try.underlying43 hi0 hz0 hz1 hz2 rfl (by decide) (.slice Al l.length cl) l.length (prv l) rfl O4.out ⟨W3.heap.size, 0, none⟩ 1 1 [.string pk, .string pv] rfl rfl NW.out (by simp [Value.oneCell']) (by unfold maxLen; omega) (by omega) B4.out.size ?_))
      intro v5 w5' ho5 hg5 _ _
      have B5 : Hid (Below w.heap.size w w5') := B4.out.trans ((Below.refl w.heap.size W4).grown hg5 B4.out.size (fun j hj => (O4.out.lt j hj).1))
      have O5 : Hid (w5'.ownsRow w.heap.size 47 2 v5 (l ++ [(pk, pv)]).length (prv (l ++ [(pk, pv)]))) := by
        unfold Hid
        rw [prv_append, List.length_append]
        exact ho5
      have RN : Hid (R = entF b (n - (i + 1)) c5 (l ++ [(pk, pv)])) := RE.out
      have LL : (l ++ [(pk, pv)]).length ≤ i + 1 := by rw [List.length_append, List.length_singleton]; omega
      clear ho5 hg5 x0 x1
      go_wp2
      go_roundw
      case rel => first | exact ⟨i + 1, c5, l ++ [(pk, pv)], hlt, hc5b, by go_num, rfl, LL, RN, O5, B5⟩ | ((repeat apply Exists.intro); refine ⟨?_, rfl⟩; exact ⟨i + 1, c5, l ++ [(pk, pv)], hlt, hc5b, by go_num, rfl, LL, RN, O5, B5⟩)
      case measure => simp [intOf]; omega
end Go.Proofs.Ytoolkamajlgcbaa
/- LdC: what a shelf that is opened reads: the plain form, and what holds amid the reading. -/
set_option linter.unusedVariables false
set_option linter.unusedSimpArgs false
namespace Go.Proofs.Ytoolkamajlgcbaa
open Go.RowKit

/-- The last key, if the entries rise from one on. -/
def ordF : ByteArray → PL → Option ByteArray
  | last, [] => some last
  | last, p :: l => if ltB last p.1 = true then ordF p.1 l else none
/-- The leaves from a page on, and whether they are any. -/
def loadF (rd : Nat → ByteArray) (P : Nat) : Nat → Nat → ByteArray → List (Nat × PL) → Nat × List (Nat × PL)
  | 0, _, _, sh => (4, sh)
  | f + 1, id, last, sh => if id = 0 then (0, sh) else if P ≤ id then (4, sh) else if usedA sh sh.length id = true then (4, sh) else match entA (rd id) with
    | none => (4, sh)
    | some l => if l = [] then (4, sh) else match ordF last l with
      | none => (4, sh)
      | some k => loadF rd P f (twoN (rd id) 0) k (sh ++ [(id, l)])
def pgS (d : Dk) (P i : Nat) : ByteArray := pageB d (1 + 4 * ((P : Int) + (i : Nat)))
def loadA (d : Dk) (P : Nat) : Nat × List (Nat × PL) := loadF (pgS d P) P P (twoN (pgS d P 0) 0) ByteArray.empty []
theorem le_flat {a b : ByteArray} (h : ltB b a = true) : (Op.bytesLess a.toList b.toList || a.toList == b.toList) = false := by
  have := gtB_eq a b
  rw [h] at this
  unfold gtB at this
  revert this
  cases Op.bytesLess a.toList b.toList <;> cases a.toList == b.toList <;> simp
theorem le_flat1 {a b : ByteArray} (h : ltB b a = false) : (Op.bytesLess a.toList b.toList || a.toList == b.toList) = true := by
  have := gtB_eq a b
  rw [h] at this
  unfold gtB at this
  revert this
  cases Op.bytesLess a.toList b.toList <;> cases a.toList == b.toList <;> simp
/-- So many numbers below one are no more than it. -/
theorem few_ids : ∀ (n : Nat) (l : List Nat), l.Nodup → (∀ x ∈ l, 1 ≤ x ∧ x ≤ n) → l.length ≤ n
  | 0, l, _, h => by
    cases l with
    | nil => exact Nat.le_refl _
    | cons x r => have := h x (List.mem_cons_self ..); omega
  | n + 1, l, hn, h => by
    have := few_ids n (l.erase (n + 1)) (hn.erase _) (fun x hx => by
      have h1 := h x (List.mem_of_mem_erase hx)
      have h2 : x ≠ n + 1 := fun e => by
        subst e
        exact (List.Nodup.not_mem_erase hn) hx
      omega)
    have q := List.length_erase_le (a := n + 1) (l := l)
    have r : l.length ≤ (l.erase (n + 1)).length + 1 := by
      by_cases hm : n + 1 ∈ l
      · rw [List.length_erase_of_mem hm]; omega
      · rw [List.erase_of_not_mem hm]; omega
    omega
theorem SeenM.blk {w : World} {b n : Nat} {U : Nat → Bool} (h : SeenM w b n U) : ∃ es clock, w.heap[b]? = some (.map es clock) := by
  obtain ⟨D, ⟨es, clock, hb, _⟩, _⟩ := h
  exact ⟨es, clock, hb⟩
theorem SeenM.touch {S : Nat → Prop} {w w' : World} {b n : Nat} {U : Nat → Bool} (h : SeenM w b n U) (ht : Touch S w w') (hS : ¬ S b) : SeenM w' b n U := by
  obtain ⟨D, ⟨es, clock, hb, r⟩, h2⟩ := h
  exact ⟨D, ⟨es, clock, (ht.block b (Array.getElem?_eq_some_iff.1 hb).1 hS).trans hb, r⟩, h2⟩
/-- What holds amid the reading of a shelf. -/
structure LdW (w wr : World) (gs gj m : Nat) (v : Value) (L : List Lf) (n : Nat) (U : Nat → Bool) : Prop where
  t : Touch (fun k => k = gs) w wr
  bx : ShB wr gs gj v
  own : wr.ownsRow w.heap.size 82 2 v L.length (lvv L)
  lf : ∀ x ∈ L, LfRd wr x
  nil : L = [] → v = .slice none 0 0
  sm : SeenM wr m n U
  mge : w.heap.size ≤ m
  gs : gs < w.heap.size
theorem LdW.below {w wr w' : World} {gs gj m : Nat} {v : Value} {L : List Lf} {n : Nat} {U : Nat → Bool} (h : LdW w wr gs gj m v L n U) (hb : Below wr.heap.size wr w') : LdW w w' gs gj m v L n U := by
  have T : Touch (fun _ => False) wr w' := Touch.of_below hb
  exact ⟨h.t.trans T (fun _ _ x => x.elim), (hb.block _ (lt_of_block h.bx)).trans h.bx, own_touch h.own T (fun _ _ x => x), fun x hx => (h.lf x hx).touch T (fun _ _ x => x), h.nil, h.sm.touch T (fun x => x), h.mge, h.gs⟩
/-- The map gets one more. -/
theorem LdW.seen {w wr w' : World} {gs gj m : Nat} {v : Value} {L : List Lf} {n n' : Nat} {U U' : Nat → Bool} (h : LdW w wr gs gj m v L n U) (hg : wr.grownBy w' (some m)) (hs : SeenM w' m n' U') : LdW w w' gs gj m v L n' U' := by
  have T : Touch (fun k => k = m) wr w' := (Touch.refl _ wr).grown hg (fun k e => by cases e; exact .inl rfl)
  obtain ⟨es, clock, hm⟩ := h.sm.blk
  refine ⟨h.t.grown hg (fun k e => by cases e; exact .inr h.mge), ?_, own_touch h.own T (fun k hk e => ?_), fun x hx => (h.lf x hx).touch T (fun b hb e => ?_), h.nil, hs, h.mge, h.gs⟩
  · exact blk_touch T h.bx (fun e => by have := h.mge; have := h.gs; omega)
  · subst e
    rcases h.own.2 with ⟨e, _⟩ | ⟨g, cap, cur, e, _, hk', _⟩
    · rw [e] at hk; cases hk
    · rw [e] at hk
      cases hk
      rw [hm] at hk'
      cases hk'
  · subst e
    obtain ⟨cur, hb⟩ := hb
    rw [hm] at hb
    cases hb
/-- A leaf more. -/
theorem LdW.leaf {w wr w' : World} {gs gj m : Nat} {v v' : Value} {L : List Lf} {n : Nat} {U : Nat → Bool} (h : LdW w wr gs gj m v L n U) (x : Lf) (hx : LfRd wr x) (hg : wr.grownBy w' v.ownBlock) (ho : w'.ownsRow w.heap.size 82 2 v' (L.length + 1) (lvv L ++ lvv [x])) : LdW w (w'.setCell ⟨gs, 1, none⟩ v') gs gj m v' (L ++ [x]) n U := by
  have T : Touch (fun k => v.ownBlock = some k) wr w' := (Touch.refl _ wr).grown hg (fun k e => .inl e)
  have T2 : Touch (fun k => k = gs) w' (w'.setCell ⟨gs, 1, none⟩ v') := (Touch.refl (fun k => k = gs) w').setCell (p := ⟨gs, 1, none⟩) (.inl rfl) _
  obtain ⟨es, clock, hm⟩ := h.sm.blk
  have vb : ∀ k, v.ownBlock = some k → w.heap.size ≤ k ∧ ∃ cur, wr.heap[k]? = some (.cells cur 82 (0, 0)) := fun k hk => by
    rcases h.own.2 with ⟨e, _⟩ | ⟨g, cap, cur, e, hb, hk', _⟩
    · rw [e] at hk; cases hk
    · rw [e] at hk; cases hk; exact ⟨hb, cur, hk'⟩
  have gw : gs < w'.heap.size := Nat.lt_of_lt_of_le h.gs (Nat.le_trans h.t.size T.size)
  have bx' : ShB w' gs gj v := blk_touch T h.bx (fun e => by have := (vb _ e).1; have := h.gs; omega)
  have pb : ∀ y, LfRd wr y → LfRd (w'.setCell ⟨gs, 1, none⟩ v') y := fun y hy => by
    have hy' : LfRd w' y := hy.touch T (fun b hb e => by
      obtain ⟨cur, hb⟩ := hb
      obtain ⟨_, cur', hc⟩ := vb b e
      rw [hb] at hc
      simp at hc)
    exact hy'.touch T2 (fun b hb e => by
      subst e
      obtain ⟨cur, hb⟩ := hb
      unfold ShB at bx'
      rw [bx'] at hb
      simp at hb)
  refine ⟨(h.t.grown hg (fun k e => .inr (vb k e).1)).setCell (p := ⟨gs, 1, none⟩) (.inl rfl) _, ?_, ?_, fun y hy => ?_, fun e => by simp at e, ?_, h.mge, h.gs⟩
  · have := blk_set bx' 1 v'
    unfold ShB
    simpa using this
  · have e : lvv (L ++ [x]) = lvv L ++ lvv [x] := lvv_append L [x]
    rw [e, List.length_append]
    exact own_touch ho T2 (fun k hk e => by
      subst e
      have := (World.ownsRow.lt ho k hk).1
      have := h.gs
      omega)
  · rcases List.mem_append.1 hy with hy | hy
    · exact pb y (h.lf y hy)
    · rw [List.mem_singleton] at hy; rw [hy]; exact pb x hx
  · refine (h.sm.touch T (fun e => ?_)).touch T2 (fun e => by have := h.mge; have := h.gs; omega)
    obtain ⟨_, cur, hc⟩ := vb m e
    rw [hm] at hc
    cases hc
/-- At the end it is a shelf that is written. -/
theorem LdW.sho {w wr : World} {gs gj m : Nat} {v : Value} {L : List Lf} {n : Nat} {U : Nat → Bool} (h : LdW w wr gs gj m v L n U) : ShO wr w.heap.size gs gj v L := by
  refine ⟨h.bx, ?_, h.lf⟩
  rcases Nat.eq_zero_or_pos L.length with h0 | h0
  · have e := List.eq_nil_of_length_eq_zero h0
    exact .inl ⟨h.nil e, e⟩
  · exact own_lrow h.own h0
end Go.Proofs.Ytoolkamajlgcbaa
/- LdD: a shelf's load in general. -/
set_option linter.unusedVariables false
set_option linter.unusedSimpArgs false
namespace Go.Proofs.Ytoolkamajlgcbaa
open Go.RowKit

theorem extract_len {b : ByteArray} {i j : Nat} (h1 : i ≤ j) (h2 : j ≤ b.size) : (b.extract i j).size = j - i := by
  rw [ByteArray.size_extract]; omega
/-- What is read of a page: as many as are said, each may be, and they fit. -/
theorem entF_ok {b : ByteArray} : ∀ (n i : Nat) (l r : PL), entF b n i l = some r → (∀ p ∈ l, EntOK p) → i = 4 + szL l → i ≤ b.size → r.length = l.length + n ∧ (∀ p ∈ r, EntOK p) ∧ 4 + szL r ≤ b.size
  | 0, i, l, r, h, hl, hi, hb => by
    cases h
    exact ⟨rfl, hl, by omega⟩
  | n + 1, i, l, r, h, hl, hi, hb => by
    rw [entF] at h
    split at h
    · cases h
    split at h
    · cases h
    split at h
    · rename_i h1 h2 hm
      have hs : szP (b.extract (i + 3) (i + 3 + byN b i), b.extract (i + 3 + byN b i) (i + 3 + byN b i + twoN b (i + 1))) = 3 + byN b i + twoN b (i + 1) := by
        unfold szP
        simp only
        rw [extract_len (by omega) (by omega), extract_len (by omega) (by omega)]
        omega
      obtain ⟨r1, r2, r3⟩ := entF_ok n _ _ r h (fun p hp => by
        rcases List.mem_append.1 hp with hp | hp
        · exact hl p hp
        · rw [List.mem_singleton] at hp
          rw [hp]
          exact mayB_iff.1 hm) (by rw [szL_append, hs]; omega) (by omega)
      rw [List.length_append, List.length_singleton] at r1
      exact ⟨by omega, r2, r3⟩
    · cases h
theorem entA_ok {b : ByteArray} {r : PL} (h : entA b = some r) (h4 : 4 ≤ b.size) : r.length = twoN b 2 ∧ (∀ p ∈ r, EntOK p) ∧ 4 + szL r ≤ b.size := by
  have := entF_ok (twoN b 2) 4 [] r h (fun p hp => by cases hp) rfl h4
  simpa using this
theorem pgS_size {d : Dk} {P : Nat} (hz : Sz d) (hup : d.down = false) (hs : 8 * P + 1 ≤ d.l.length) {i : Nat} (hi : i < P) : (pgS d P i).size = 1024 := by
  have := page_size (p := ((1 + 4 * (P + i) : Nat) : Int)) hz (fun j hj => by unfold Dk.use; rw [if_neg (by rw [hup]; decide), if_neg (by omega)])
  unfold pgS
  rw [show (1 + 4 * ((P : Int) + (i : Nat))) = ((1 + 4 * (P + i) : Nat) : Int) by omega]
  exact this
theorem jrd_up {d : Dk} {P i : Nat} (hup : d.down = false) (hi : i < P) : jrd d P (i : Nat) = (pgS d P i, 0) := by
  unfold jrd pgS
  rw [if_neg (by omega), if_neg (by rw [hup]; decide)]
theorem usedA_app (sh : List (Nat × PL)) (id : Nat) (l : PL) : usedA (sh ++ [(id, l)]) (sh ++ [(id, l)]).length = fun j => j == id || usedA sh sh.length j := by
  have h := usedA_step (sh := sh ++ [(id, l)]) (k := sh.length) (by rw [List.length_append, List.length_singleton]; omega)
  rw [List.length_append, List.length_singleton, h]
  funext j
  have e : (sh ++ [(id, l)])[sh.length]'(by rw [List.length_append, List.length_singleton]; omega) = (id, l) := by simp
  rw [e]
  unfold usedA
  rw [List.take_left' rfl, List.take_length]
theorem used_ids {sh : List (Nat × PL)} {id P : Nat} (h : (sh.map (·.1)).Nodup ∧ ∀ x ∈ sh.map (·.1), 1 ≤ x ∧ x ≤ P - 1) (hu : usedA sh sh.length id = false) (h0 : ¬ id = 0) (hP : ¬ P ≤ id) (l : PL) : ((sh ++ [(id, l)]).map (·.1)).Nodup ∧ ∀ x ∈ (sh ++ [(id, l)]).map (·.1), 1 ≤ x ∧ x ≤ P - 1 := by
  unfold usedA at hu
  rw [List.take_length] at hu
  simp only [Bool.or_eq_false_iff] at hu
  have hm : id ∉ sh.map (·.1) := fun hm => by
    have := hu.2
    rw [List.contains_iff_mem.2 hm] at this
    cases this
  rw [List.map_append]
  refine ⟨?_, fun x hx => ?_⟩
  · rw [List.nodup_append]
    refine ⟨h.1, by simp, fun a ha b hb e => ?_⟩
    simp at hb
    subst hb
    subst e
    exact hm ha
  · rcases List.mem_append.1 hx with hx | hx
    · exact h.2 x hx
    · simp at hx
      subst hx
      omega
/-- What load has left behind. -/
def LdTo (w : World) (gs gj : Nat) (sh : List (Nat × PL)) (w' : World) : Prop := ∃ L v, shP L = sh ∧ ShO w' w.heap.size gs gj v L ∧ Touch (fun k => k = gs) w w'
theorem LdTo.mk {w w' : World} {gs gj : Nat} {sh : List (Nat × PL)} (L : List Lf) (v : Value) (h1 : shP L = sh) (h2 : ShO w' w.heap.size gs gj v L) (h3 : Touch (fun k => k = gs) w w') : LdTo w gs gj sh w' := ⟨L, v, h1, h2, h3⟩
set_option maxRecDepth 100000 in
theorem load_down (w : World) (F : Nat → Prop) (gs gj g P : Nat) (d : Dk) (v0 : Value) (h : HasDisk w F g d) (hj : Jb w gj g P) (hz : Sz d) (hw : d.waits.length < 9223372036854775807) (hP1 : 2 ≤ P) (hP : P ≤ 128) (hs : 8 * P + 1 ≤ d.l.length) (hdn : d.down = true) (hb : ShB w gs gj v0) :
    Calls Try.prog 55 #[.pointer (some ⟨gs, 0, none⟩)] w fun e w' => e = .returned (.int .i64 10) ∧ Below w.heap.size w w' := by
  have RD := Lib.hid (jread_any w F gj g P d h hj hz hw hP hs 0)
  have JR : jrd d P 0 = (ByteArray.empty, 10) := by unfold jrd; rw [if_neg (by omega), if_pos hdn]
  rw [JR] at RD
  have c0 := blk_cell hb 0
  simp at c0
  clear JR
  go_enter Try.func55, Try.ntmps55
  go_wp2_with fail
  refine RD.out.mono ?_
  rintro e w1 ⟨rfl, q1⟩
  have Q1 := Lib.hid q1
  clear q1 RD
  go_wp2
  go_ret
  exact ⟨rfl, Q1.out⟩
set_option maxHeartbeats 6400000 in
set_option maxRecDepth 100000 in
theorem load_up (w : World) (F : Nat → Prop) (gs gj g P : Nat) (d : Dk) (v0 : Value) (h : HasDisk w F g d) (hj : Jb w gj g P) (hz : Sz d) (hw : d.waits.length < 9223372036854775807) (hP1 : 2 ≤ P) (hP : P ≤ 128) (hs : 8 * P + 1 ≤ d.l.length) (hup : d.down = false) (hb : ShB w gs gj v0) (hg : ¬ F gs) :
    Calls Try.prog 55 #[.pointer (some ⟨gs, 0, none⟩)] w fun e w' => e = .returned (.int .i64 ((loadA d P).1 : Nat)) ∧ LdTo w gs gj (loadA d P).2 w' := by
  obtain ⟨iL, hiL, hy0, hy1, hy2⟩ := info_parts infoLf
  have gjs : Hid (gj ≠ gs) := fun e => by
    subst e
    unfold ShB at hb
    unfold Jb at hj
    rw [hb] at hj
    simp at hj
  have RD := Lib.hid (jread_any w F gj g P d h hj hz hw hP hs 0)
  rw [show (0 : Int) = ((0 : Nat) : Int) from rfl, jrd_up hup (show 0 < P by omega)] at RD
  rw [show ((0 : Nat) : Int) = 0 from rfl] at RD
  have PS : Hid (∀ i, i < P → (pgS d P i).size = 1024) := fun i hi => pgS_size hz hup hs hi
  -- what the world gives, at any later time
  have RDA : Hid (∀ wr, Touch (fun k => k = gs) w wr → ∀ i : Nat, i < P → Calls Try.prog 62 #[.pointer (some ⟨gj, 0, none⟩), .int .i64 (i : Int)] wr fun e w' => e = .returned (.tuple #[.string (pgS d P i), .int .i64 0]) ∧ Below wr.heap.size wr w') := fun wr ht i hi => by
    have q := jread_any wr F gj g P d (h.keep ht (fun k hk e => hg (by rw [← e]; exact hk))) (hj.touch ht gjs.out) hz hw hP hs (i : Int)
    rw [jrd_up hup hi] at q
    exact q
  have PGA : Hid (∀ wr, Touch (fun k => k = gs) w wr → Jb wr gj g P) := fun wr ht => hj.touch ht gjs.out
  have c0 := blk_cell hb 0; have c1 := blk_cell hb 1
  simp at c0 c1
  have HB := Lib.hid hb
  have gsl : Hid (gs < w.heap.size) := lt_of_block hb
  obtain ⟨R, hR⟩ : ∃ R, R = loadA d P := ⟨_, rfl⟩
  have RE0 : Hid (R = loadF (pgS d P) P P (twoN (pgS d P 0) 0) ByteArray.empty []) := by unfold Hid; rw [hR]; rfl
  rw [← hR]
  have hmm : ∀ W : World, (Instr.makeMap 115 none).run Try.prog W = .ok (.map (some W.heap.size)) (W.alloc (.map #[] 0)) := fun W => run_makeMap _ W
  have PS0 := PS.out 0 (by omega)
  generalize pgS d P 0 = b0 at RD RE0 PS0
  clear h hj hz hw hs hup hg hR hb
  go_enter Try.func55, Try.ntmps55
  go_wp2_with fail
  refine RD.out.mono ?_
  rintro e w1 ⟨rfl, q1⟩
  have r1 : ShB w1 gs gj v0 := (q1.block _ (lt_of_block HB.out)).trans HB.out
  have R1 := Lib.hid r1
  have c0 := blk_cell r1 0; have c1 := blk_cell r1 1
  have f1 := blk_free r1 1
  simp at c0 c1
  obtain ⟨W2, hup2, hsm2, hgr2⟩ := (SeenM.made (w1.setCell ⟨gs, 1, none⟩ (.slice none 0 0))).upd (Nat.zero_le _) (i := 0) (Nat.zero_le _)
  have es : (w1.setCell ⟨gs, 1, none⟩ (.slice none 0 0)).heap.size = w1.heap.size := by simp
  rw [es] at hup2 hsm2 hgr2
  simp only [Int.natCast_zero, Int.ofNat_zero] at hup2
  have tA : Touch (fun k => k = gs) w (w1.setCell ⟨gs, 1, none⟩ (.slice none 0 0)) := (Touch.of_below q1 : Touch (fun k => k = gs) w w1).setCell (p := ⟨gs, 1, none⟩) (.inl rfl) (.slice none 0 0)
  have L2 : Hid (LdW w W2 gs gj w1.heap.size (.slice none 0 0) [] 1 (usedA [] 0)) := by
    refine ⟨(tA.alloc (.map #[] 0)).grown hgr2 (fun k e => by cases e; exact .inr q1.size), ?_, World.ownsRow_nil _ _ _ _, (fun x hx => by cases hx), (fun _ => rfl), ?_, q1.size, gsl.out⟩
    · have b1 : (w1.setCell ⟨gs, 0 + 1, none⟩ (.slice none 0 0)).heap[gs]? = some (.cells #[.pointer (some ⟨gj, 0, none⟩), .slice none 0 0] 85 (0, 0)) := blk_set r1 1 _
      exact (hgr2.block gs (by have := lt_of_block r1; simp; omega) (by intro e; have e' := Option.some.inj e; have := lt_of_block r1; omega)).trans (blk_alloc b1 _)
    · have e : usedA [] 0 = fun j => j == 0 || (fun _ => false) j := by funext j; simp [usedA]
      rw [e]; exact hsm2
  have TZ := Lib.hid (two_any W2 b0 0 (by omega) (by omega))
  rw [show ((0 : Nat) : Int) = 0 from rfl] at TZ
  clear hgr2 hsm2 q1 tA es r1 RD
  go_wp2_with fail
  refine TZ.out.mono ?_
  rintro e w3 ⟨rfl, q3⟩
  have L3 := Lib.hid (L2.out.below q3)
  have id0 := twoN_lt b0 0
  generalize twoN b0 0 = i0 at RE0 id0
  generalize w1.heap.size = m at L3
  clear q3 TZ L2 hup2 c0 c1 f1 R1
  go_wp2_with fail
  go_loopg [6, 7, 32] P (fun f lv iv iv2 wr => ∃ (id : Nat) (last : ByteArray) (v : Value) (L : List Lf), f + L.length = P ∧ id < 65536 ∧ lv = .string last ∧ iv = .int .i64 id ∧ Hid (R = loadF (pgS d P) P f id last (shP L)) ∧ Hid (LdW w wr gs gj m v L (L.length + 1) (usedA (shP L) (shP L).length)) ∧ Hid (((shP L).map (·.1)).Nodup ∧ ∀ x ∈ (shP L).map (·.1), 1 ≤ x ∧ x ≤ P - 1))
  case atStart => exact ⟨i0, ByteArray.empty, _, [], rfl, id0, rfl, rfl, RE0, L3, List.nodup_nil, fun x hx => by cases hx⟩
  case round =>
    obtain ⟨id, last, v, L, hfl, hid, rfl, rfl, hR, hL, hids⟩ := hrel
    have hlp : L.length ≤ P - 1 := by
      have := few_ids (P - 1) _ hids.out.1 hids.out.2
      rwa [List.length_map, shP_len] at this
    obtain ⟨f, rfl⟩ : ∃ f, gk = f + 1 := ⟨gk - 1, by omega⟩
    have RS := hR.out
    rw [loadF] at RS
    by_cases h0 : id = 0
    · rw [if_pos h0] at RS
      have RE := Lib.hid RS
      subst h0
      clear RS hR
      go_wp2
      go_ret
      exact ⟨by rw [RE.out]; rfl, LdTo.mk L v (by rw [RE.out]) hL.out.sho hL.out.t⟩
    rw [if_neg h0] at RS
    have d0 : ((id : Int) != 0) = true := by simp; omega
    have d0' : (id != 0) = true := by simpa using h0
    have c0 := blk_cell hL.out.bx 0; have c1 := blk_cell hL.out.bx 1
    simp at c0 c1
    have PG := Lib.hid (pages_any wr gj g P (PGA.out wr hL.out.t))
    by_cases hPi : P ≤ id
    · rw [if_pos hPi] at RS
      have RE := Lib.hid RS
      have d1 : decide ((P : Int) ≤ (id : Int)) = true := decide_eq_true (by omega)
      have d1' : decide (P ≤ id) = true := decide_eq_true hPi
      clear RS hR
      go_wp2_with fail
      refine PG.out.mono ?_
      rintro e w' ⟨rfl, rfl⟩
      go_wp2
      go_ret
      exact ⟨by rw [RE.out]; rfl, LdTo.mk L v (by rw [RE.out]) hL.out.sho hL.out.t⟩
    rw [if_neg hPi] at RS
    have d1 : decide ((P : Int) ≤ (id : Int)) = false := decide_eq_false (by omega)
    have d1' : decide (P ≤ id) = false := decide_eq_false hPi
    have lk := hL.out.sm.look (i := id) (by omega)
    cases hu : usedA (shP L) (shP L).length id with
    | true =>
      rw [hu] at lk
      rw [if_pos hu] at RS
      have RE := Lib.hid RS
      clear RS hR hu
      go_wp2_with fail
      refine PG.out.mono ?_
      rintro e w' ⟨rfl, rfl⟩
      go_wp2
      go_ret
      exact ⟨by rw [RE.out]; rfl, LdTo.mk L v (by rw [RE.out]) hL.out.sho hL.out.t⟩
    | false =>
    rw [hu] at lk
    rw [if_neg (by rw [hu]; decide)] at RS
    obtain ⟨W2, hup, sm2, gr2⟩ := hL.out.sm.upd (by omega) (i := id) (by omega)
    have L2 := Lib.hid (hL.out.seen gr2 sm2)
    have RD2 := Lib.hid (RDA.out W2 L2.out.t id (by omega))
    have b2 := (L2.out.bx)
    have c2 := blk_cell b2 0
    simp at c2
    have PSi := PS.out id (by omega)
    have HU := Lib.hid hu
    generalize pgS d P id = b at RS RD2 PSi
    clear hR sm2 gr2 b2 hu
    go_wp2_with fail
    refine PG.out.mono ?_
    rintro e w' ⟨rfl, rfl⟩
    clear PG
    go_wp2_with fail
    refine RD2.out.mono ?_
    rintro e w3 ⟨rfl, q3⟩
    have L3 := Lib.hid (L2.out.below q3)
    have EN := Lib.hid (entries_any w3 b (by omega) (by omega))
    clear RD2 L2 q3 lk hup c0 c1 c2 hL
    go_wp2_with fail
    refine EN.out.mono ?_
    rintro e w4 ⟨hen, q4⟩
    have L4 := Lib.hid (L3.out.below q4)
    have Q4 := Lib.hid q4
    clear EN q4
    rcases hen with ⟨he, rfl⟩ | ⟨l, vl, he, rfl, hol⟩
    · rw [he] at RS
      have RE : Hid (R = (4, shP L)) := RS
      clear RS
      go_wp2
      go_ret
      exact ⟨by rw [RE.out]; rfl, LdTo.mk L v (by rw [RE.out]) L4.out.sho L4.out.t⟩
    rw [he] at RS
    replace RS : R = if l = [] then (4, shP L) else match ordF last l with | none => (4, shP L) | some k => loadF (pgS d P) P f (twoN b 0) k (shP L ++ [(id, l)]) := RS
    obtain ⟨Al, cl, rfl⟩ := own_slice hol
    by_cases hl0 : l = []
    · rw [if_pos hl0] at RS
      have RE : Hid (R = (4, shP L)) := RS
      subst hl0
      clear RS hol
      simp only [List.length_nil]
      go_wp2
      go_ret
      exact ⟨by rw [RE.out]; rfl, LdTo.mk L v (by rw [RE.out]) L4.out.sho L4.out.t⟩
    rw [if_neg hl0] at RS
    have hlp2 : 0 < l.length := by
      rcases Nat.eq_zero_or_pos l.length with h | h
      · exact absurd (List.eq_nil_of_length_eq_zero h) hl0
      · exact h
    have dl : ((l.length : Int) == 0) = false := by rw [beq_eq_false_iff_ne]; omega
    have dl' : (l.length == 0) = false := by rw [beq_eq_false_iff_ne]; omega
    have LF4 : Hid (LfRd w4 ⟨id, l, Al, cl⟩) := by
      obtain ⟨A, c, e1, e2⟩ := lf_own hol id
      cases e1
      exact e2
    have RSh := Lib.hid RS
    have llen : l.length ≤ 100000 := by
      have h9 := (entA_ok he (by omega)).1
      have := twoN_lt b 2
      omega
    clear RS hol hl0 he
    go_wp2_with fail
    go_loopw [6, 74] (fun lv jv wx => ∃ (j : Nat) (k' : ByteArray), j ≤ l.length ∧ lv = .string k' ∧ jv = .int .i64 j ∧ Hid (ordF last l = ordF k' (l.drop j)) ∧ Hid (Below w4.heap.size w4 wx)) (fun _ jv _ => l.length - (intOf jv).toNat)
    case atStart => exact ⟨0, last, Nat.zero_le _, rfl, rfl, rfl, Below.refl _ _⟩
    case round =>
      obtain ⟨j, k', hj, rfl, rfl, ho, hb⟩ := hrel
      have L5 := Lib.hid (L4.out.below hb.out)
      have LF5 : Hid (LfRd _ ⟨id, l, Al, cl⟩) := LF4.out.touch (Touch.of_below hb.out : Touch (fun _ => False) w4 _) (fun _ _ x => x)
      by_cases hlt : j < l.length
      · obtain ⟨bl, ol, rfl, hcc⟩ := LF5.out.1 hlp2
        obtain ⟨z0, z1⟩ := hcc j hlt
        have OD : Hid (ordF last l = if ltB k' (l[j]).1 = true then ordF (l[j]).1 (l.drop (j + 1)) else none) := by
          unfold Hid
          rw [ho.out, List.drop_eq_getElem_cons hlt, ordF]
        replace z0 : _ = some (Value.string (l[j]).1) := z0
        replace z1 : _ = some (Value.string (l[j]).2) := z1
        generalize l[j] = p at z0 z1 OD
        obtain ⟨pk, pv⟩ := p
        simp only at z0 z1 OD
        have hjl : (j : Int) < (l.length : Int) := by omega
        clear hcc ho
        cases hlo : ltB k' pk with
        | false =>
          have q1 := le_flat1 hlo
          have RE : Hid (R = (4, shP L)) := by
            have q := RSh.out
            rw [OD.out, if_neg (by rw [hlo]; decide)] at q
            exact q
          have B6 : Hid (∀ o, Below wr.heap.size wr (wr.alloc o)) := fun o => (Below.refl _ wr).alloc (Nat.le_refl _) o
          have L6 : Hid (∀ o, LdW w (wr.alloc o) gs gj m v L (L.length + 1 + 1) (fun j => j == id || usedA (shP L) (shP L).length j)) := fun o => L5.out.below (B6.out o)
          clear hlo OD
          go_wp2
          go_ret
          exact ⟨by rw [RE.out]; rfl, LdTo.mk L v (by rw [RE.out]) (L6.out _).sho (L6.out _).t⟩
        | true =>
          have q1 := le_flat hlo
          have ON : Hid (ordF last l = ordF pk (l.drop (j + 1))) := by unfold Hid; rw [OD.out, if_pos hlo]
          have B6 : Hid (∀ o, Below w4.heap.size w4 (wr.alloc o)) := fun o => hb.out.alloc hb.out.size o
          have B6 := B6.out (.cells #[.string pk, .string pv] 47)
          have B7 := Lib.hid B6
          clear hlo OD B6
          go_wp2
          go_roundw
          case rel => first | exact ⟨j + 1, pk, hlt, rfl, by go_num, ON, B7⟩ | ((repeat apply Exists.intro); refine ⟨?_, rfl⟩; exact ⟨j + 1, pk, hlt, rfl, by go_num, ON, B7⟩)
          case measure => simp [intOf]; omega
      · have hjl : j = l.length := by omega
        subst hjl
        have OE : Hid (ordF last l = some k') := by unfold Hid; rw [ho.out, List.drop_length]; rfl
        have RN : Hid (R = loadF (pgS d P) P f (twoN b 0) k' (shP L ++ [(id, l)])) := by
          have q := RSh.out
          rw [OE.out] at q
          exact q
        clear ho
        obtain ⟨bl, ol, rfl, _⟩ := LF5.out.1 hlp2
        obtain ⟨Av, cv, rfl⟩ := own_slice L5.out.own
        have c1 := blk_cell L5.out.bx 1
        simp at c1
        obtain ⟨W6, hW6⟩ : ∃ W, W = wr.alloc (.cells #[.int .i64 (id : Int), .slice (some ⟨bl, ol, none⟩) l.length cl] 82) := ⟨_, rfl⟩
        have K6 : Hid (Below wr.heap.size wr W6) := by rw [hW6]; exact (Below.refl _ wr).alloc (Nat.le_refl _) _
        have L6 := Lib.hid (L5.out.below K6.out)
        have LF6 : Hid (LfRd W6 ⟨id, l, some ⟨bl, ol, none⟩, cl⟩) := LF5.out.touch (Touch.of_below K6.out : Touch (fun _ => False) wr W6) (fun _ _ x => x)
        have NW : Hid (∀ j u, [Value.int .i64 (id : Int), .slice (some ⟨bl, ol, none⟩) l.length cl][j]? = some u → W6.cell? ((⟨wr.heap.size, 0, none⟩ : Addr).add j) = some u) := by unfold Hid; rw [hW6]; exact two_new _ _ _ _
        have HW6 := Lib.hid hW6
        have c16 := blk_cell L6.out.bx 1
        simp at c16
        clear hW6
        go_wp2_with (at_builtin; rw [← HW6.out]; refine (wpList_append_own_at _ rfl (.tmp 89) (.tmp 93) 83 rfl w.heap.size 82 iL _ 2 32 Try.underlying83 hiL hy0 hy1 hy2 rfl (by decide) (.slice Av L.length cv) L.length (lvv L) rfl L6.out.own ⟨wr.heap.size, 0, none⟩ 1 1 [.int .i64 (id : Int), .slice (some ⟨bl, ol, none⟩) l.length cl] rfl rfl NW.out (by simp [Value.oneCell']) (by unfold maxLen; omega) (by omega) (Nat.le_trans L6.out.t.size (Nat.le_refl _)) ?_))
        intro v7 w7 ho7 hg7 _ _
        obtain ⟨g7, c7, rfl⟩ := own_shape ho7
        have L8 : Hid (LdW w (w7.setCell ⟨gs, 1, none⟩ (.slice (some ⟨g7, 0, none⟩) (L.length + 1) c7)) gs gj m (.slice (some ⟨g7, 0, none⟩) (L.length + 1) c7) (L ++ ([⟨id, l, some ⟨bl, ol, none⟩, cl⟩] : List Lf)) (L.length + 1 + 1) (fun j => j == id || usedA (shP L) (shP L).length j)) := L6.out.leaf ⟨id, l, some ⟨bl, ol, none⟩, cl⟩ LF6.out hg7 ho7
        have bx7 : ShB w7 gs gj (.slice Av L.length cv) := (hg7.block gs (lt_of_block L6.out.bx) (fun e => by
          have := (World.ownsRow.lt L6.out.own gs e.symm).1
          have := gsl.out
          omega)).trans L6.out.bx
        have c17 := blk_cell bx7 1
        have f17 := blk_free bx7 1
        simp at c17
        have TB := Lib.hid (two_any (w7.setCell ⟨gs, 1, none⟩ (.slice (some ⟨g7, 0, none⟩) (L.length + 1) c7)) b 0 (by omega) (by omega))
        unfold Hid at TB
        rw [show ((0 : Nat) : Int) = 0 from rfl] at TB
        have TBh := Lib.hid TB
        clear ho7 hg7 bx7 TB c1 c16
        go_wp2_with fail
        refine TBh.out.mono ?_
        rintro e w9 ⟨rfl, q9⟩
        have L9 := Lib.hid (L8.out.below q9)
        have I9 := twoN_lt b 0
        have ID9 := Lib.hid (used_ids hids.out HU.out h0 hPi l)
        have eS : shP (L ++ ([⟨id, l, some ⟨bl, ol, none⟩, cl⟩] : List Lf)) = shP L ++ [(id, l)] := by simp [shP]
        have L10 : Hid (LdW w w9 gs gj m (.slice (some ⟨g7, 0, none⟩) (L.length + 1) c7) (L ++ ([⟨id, l, some ⟨bl, ol, none⟩, cl⟩] : List Lf)) ((L ++ ([⟨id, l, some ⟨bl, ol, none⟩, cl⟩] : List Lf)).length + 1) (usedA (shP (L ++ ([⟨id, l, some ⟨bl, ol, none⟩, cl⟩] : List Lf))) (shP (L ++ ([⟨id, l, some ⟨bl, ol, none⟩, cl⟩] : List Lf))).length)) := by
          unfold Hid
          rw [eS, usedA_app, List.length_append, List.length_singleton]
          exact L9.out
        rw [← eS] at ID9
        have RN2 : Hid (R = loadF (pgS d P) P f (twoN b 0) k' (shP (L ++ ([⟨id, l, some ⟨bl, ol, none⟩, cl⟩] : List Lf)))) := by unfold Hid; rw [eS]; exact RN.out
        have FL : f + (L ++ ([⟨id, l, some ⟨bl, ol, none⟩, cl⟩] : List Lf)).length = P := by rw [List.length_append, List.length_singleton]; omega
        clear q9 TBh L8 L9 c17 f17 eS
        go_wp2
        go_roundg f
        case measure => omega
        case rel => first | exact ⟨twoN b 0, k', _, _, FL, I9, rfl, rfl, RN2, L10, ID9⟩ | ((repeat apply Exists.intro); refine ⟨?_, rfl⟩; exact ⟨twoN b 0, k', _, _, FL, I9, rfl, rfl, RN2, L10, ID9⟩)
end Go.Proofs.Ytoolkamajlgcbaa
