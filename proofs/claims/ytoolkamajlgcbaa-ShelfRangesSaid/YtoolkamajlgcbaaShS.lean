/- ShS: the first entry of a shelf that has no leaf. -/
import Derived.Test.YtoolkamajlgcbaaShR
set_option linter.unusedVariables false
set_option linter.unusedSimpArgs false
namespace Go.Proofs.Ytoolkamajlgcbaa
open Go.RowKit

/-- append onto a slice of nothing without room. -/
theorem wpList_append_zero {P : Program} (w : World) {ops : Array Oper} {rest : List Oper} {o : Oper} {a : Act} {Q : Exit → Act → World → Prop} (hgd : o.guard = none) (s x : Operand) (t : TypeId)
    (ho : o.op = .call { callee := .builtin .append, args := #[s, x], argTypes := #[t, t] }) (e : TypeId) (i : TypeInfo) (z : Value) (size bytes : Nat) (ht : P.underlying t = some (.slice e)) (hi : P.info? e = some i) (hz : i.zero = some z) (hsize : i.size = size) (hby : i.bytes = bytes) (hzs : z.cells.size = size) (hsz : 0 < size)
    (A : Option Addr) (hs : a.eval s = .slice A 0 0)
    (ad : Addr) (m c : Nat) (news : List Value) (hx : a.eval x = .slice (some ad) m c) (hl : news.length = m * size) (hnews : ∀ j u, news[j]? = some u → w.cell? (ad.add j) = some u) (h1 : ∀ u ∈ news, u.oneCell' = true) (h63 : m ≤ maxLen) (hbytes : m * bytes ≤ 140737488355328) (hm : 0 < m)
    (k : ∀ v' w', w.grownBy w' none → w'.ownsRow w.heap.size e size v' m news → wpList P ops Q rest (a.put o.dst v') w') : wpList P ops Q (o :: rest) a w := by
  cases A with
  | none =>
    refine wpList_append_own_at w hgd s x t ho w.heap.size e i z size bytes ht hi hz hsize hby hzs hsz (.slice none 0 0) 0 [] hs (World.ownsRow_nil _ _ _ _) ad m c news hx hl hnews h1 (by omega) (by rw [Nat.zero_add]; exact hbytes) (Nat.le_refl _) ?_
    intro v' w' ho hg _ _
    rw [Nat.zero_add, List.nil_append] at ho
    exact k v' w' hg ho
  | some b =>
    refine wpList_append_full w hgd s x t ho e i z size bytes ht hi hz hsize hby hzs hsz b 0 0 (Nat.le_refl _) [] hs (by simp) (fun j u h => by simp at h) ad m c news hx hl hnews (by omega) (by rw [Nat.zero_add]; exact hbytes) (Nat.le_refl _) ?_
    intro v' w' hg r
    rcases r with ⟨h0, _⟩ | ⟨_, ho⟩
    · omega
    · rw [Nat.zero_add, List.nil_append] at ho
      exact k v' w' hg ho
theorem sho_empty {w : World} {base gs gj : Nat} {v : Value} (h : ShO w base gs gj v []) : ∃ A, v = .slice A 0 0 := by
  rcases h.row with ⟨e, _⟩ | ⟨g, cap, cur, e, _, _, _, _, _, _, h0⟩
  · exact ⟨none, e⟩
  · rw [h0 rfl] at e; exact ⟨_, e⟩
set_option maxHeartbeats 3200000 in
set_option maxRecDepth 100000 in
theorem put_zero (w : World) (base gs gj : Nat) (v0 : Value) (h : ShO w base gs gj v0 []) (hbs : base ≤ w.heap.size) (a x : ByteArray) (h1 : 1 ≤ a.size) (h2 : a.size ≤ 64) (h3 : x.size ≤ 400) :
    Calls Try.prog 17 #[.pointer (some ⟨gs, 0, none⟩), .string a, .string x] w fun e w' => e = .returned (.int .i64 0) ∧ ∃ v L, ShO w' base gs gj v L ∧ shP L = [(1, [(a, x)])] ∧ Touch (fun k => k = gs ∨ v0.ownBlock = some k) w w' ∧ (∀ k, v.ownBlock = some k → v0.ownBlock = some k ∨ w.heap.size ≤ k) := by
  obtain ⟨A0, rfl⟩ := sho_empty h
  obtain ⟨i0, hi, hz0, hz1, hz2⟩ := info_parts infoLf
  have MY := Lib.hid (may_ok w a x h1 h2 h3)
  obtain ⟨W1, hW1⟩ : ∃ W1, W1 = w.alloc (.cells #[.string a, .string x] 47) := ⟨_, rfl⟩
  have Q1 : Below w.heap.size w W1 := by rw [hW1]; exact (Below.refl _ w).alloc (Nat.le_refl _) _
  have hb := h.box
  have hb1 : ShB W1 gs gj (.slice A0 0 0) := (Q1.block _ (lt_of_block hb)).trans hb
  have hp1 : W1.heap[w.heap.size]? = some (.cells #[.string a, .string x] 47 (0, 0)) := by rw [hW1]; exact blk_new w _
  have FN := Lib.hid (find_any W1 gs [] (h.below Q1).read (fun i h => by simp at h) (by simp) (fun i => by simp [lfA]) a)
  have r0 : fI [] a = 0 ∧ fK [] a = 0 := by unfold fI fK; refine ⟨?_, rfl⟩; rw [srch]; rfl
  rw [r0.1, r0.2, hW1] at FN
  have Q1h := Lib.hid Q1; have HB1 := Lib.hid hb1; have HP1 := Lib.hid hp1; have H0 := Lib.hid h
  clear r0 Q1 hb1 hp1 h
  go_enter Try.func17, Try.ntmps17
  go_wp2_with fail
  refine MY.out.mono ?_
  rintro e w' ⟨rfl, rfl⟩
  go_wp2_with fail
  refine FN.out.mono ?_
  rw [← hW1]
  rintro e w2 ⟨rfl, q2⟩
  have hb2 : ShB w2 gs gj (.slice A0 0 0) := (q2.block _ (lt_of_block HB1.out)).trans HB1.out
  have hp2 : w2.heap[w.heap.size]? = some (.cells #[.string a, .string x] 47 (0, 0)) := (q2.block _ (lt_of_block HP1.out)).trans HP1.out
  have Q2 : Hid (Below w.heap.size w w2) := Q1h.out.trans (q2.mono Q1h.out.size)
  have c0 := blk_cell hb2 0; have c1 := blk_cell hb2 1
  have p0 := blk_cell hp2 0; have p1 := blk_cell hp2 1
  have f1 := blk_free hb2 1
  simp at c0 c1 p0 p1
  have HB2 := Lib.hid hb2; have HP2 := Lib.hid hp2
  clear q2 FN hW1 hb2 hp2
  go_wp2_with fail
  refine wp_region_tail (fun w' => w'.cell? ⟨gs, 1, none⟩ = some (.slice A0 0 0)) [(0, 1), (1, 1), (2, 1), (3, 1), (4, 2), (5, 0), (6, 0), (7, 1), (8, 0), (9, 0), (10, 1), (11, 1)] [12] (by kernel_rfl) (by kernel_rfl) c1 ?_
  repeat (refine wpT_dry (fun K hK => ?_); go_simp; refine hK _ ?_; clear hK K)
  refine wpT_read (.slice A0 0 0) rfl (fun w' hS => by go_simp) (fun K hK => ?_)
  go_simp
  refine hK _ ?_
  clear hK K
  refine wpT_do ?_
  go_wp2_with fail
  refine ⟨c1, ?_⟩
  obtain ⟨W3, hW3⟩ : ∃ W3, W3 = (w2.alloc (.cells #[.string a, .string x] 47)).drew := ⟨_, rfl⟩
  have q23 : Below w2.heap.size w2 W3 := by rw [hW3]; exact ((Below.refl _ w2).alloc (Nat.le_refl _) _).drew
  have b3 : W3.heap[w2.heap.size]? = some (.cells #[.string a, .string x] 47 (0, 0)) := by rw [hW3]; exact blk_new w2 _
  have HB3 : Hid (ShB W3 gs gj (.slice A0 0 0)) := (q23.block _ (lt_of_block HB2.out)).trans HB2.out
  have k2 := blk_cell HB3.out 1
  simp at k2
  have K2 := Lib.hid k2; have B3 := Lib.hid b3; have HW3 := Lib.hid hW3; have Q23 := Lib.hid q23
  refine wpT_do ?_
  clear b3 hW3 k2 q23
  go_wp2_with fail
  rw [← HW3.out]
  refine ⟨K2.out, ?_⟩
  repeat (refine wpT_dry (fun K hK => ?_); go_simp; refine hK _ ?_; clear hK K)
  obtain ⟨W4, hW4⟩ : ∃ W4, W4 = W3.alloc (.cells #[.int .i64 1, .slice (some ⟨w2.heap.size, 0, none⟩) 1 1] 82) := ⟨_, rfl⟩
  have q34 : Below W3.heap.size W3 W4 := by rw [hW4]; exact (Below.refl _ W3).alloc (Nat.le_refl _) _
  have HB4 : Hid (ShB W4 gs gj (.slice A0 0 0)) := (q34.block _ (lt_of_block HB3.out)).trans HB3.out
  have k3 := blk_cell HB4.out 1
  simp at k3
  have NW : Hid (∀ j u, [Value.int .i64 1, .slice (some ⟨w2.heap.size, 0, none⟩) 1 1][j]? = some u → W4.cell? ((⟨W3.heap.size, 0, none⟩ : Addr).add j) = some u) := by unfold Hid; rw [hW4]; exact two_new _ _ _ _
  have SZ4 : Hid (W3.heap.size < W4.heap.size) := by rw [hW4]; unfold Hid; simp
  have K3 := Lib.hid k3; have HW4 := Lib.hid hW4; have Q34 := Lib.hid q34
  refine wpT_do ?_
  clear hW4 k3 q34
  go_wp2_with fail
  rw [← HW4.out]
  refine ⟨K3.out, ?_⟩
  refine wpT_do ?_
  simp only [List.getD_cons_zero, List.getD_cons_succ]
  refine (wpList_append_zero _ rfl (.tmp 44) (.tmp 48) 83 rfl 82 i0 _ 2 32 Try.underlying83 hi hz0 hz1 hz2 rfl (by decide) A0 rfl ⟨W3.heap.size, 0, none⟩ 1 1 [.int .i64 1, .slice (some ⟨w2.heap.size, 0, none⟩) 1 1] rfl rfl NW.out (by simp [Value.oneCell']) (by decide) (by decide) (by decide) ?_)
  intro v5 w5 hg5 ho5
  have g54 : Below W4.heap.size W4 w5 := (Below.refl W4.heap.size W4).grown hg5 (Nat.le_refl _) (fun j hj => by cases hj)
  have B24 : Below w.heap.size w W4 := (Q2.out.trans (Q23.out.mono Q2.out.size)).trans (Q34.out.mono (Nat.le_trans Q2.out.size Q23.out.size))
  have B5 : Hid (Below w.heap.size w w5) := B24.trans (g54.mono (by have := SZ4.out; have := Q23.out.size; have := Q2.out.size; omega))
  have S5 := H0.out.below B5.out
  have LR := own_lrow (L := [⟨1, [(a, x)], some ⟨w2.heap.size, 0, none⟩, 1⟩]) ho5 (by show 0 < 1; omega)
  have LR' : LRow w5 base v5 [⟨1, [(a, x)], some ⟨w2.heap.size, 0, none⟩, 1⟩] := by
    rcases LR with h | ⟨g, cap, cur, e, hb, r⟩
    · exact .inl h
    · exact .inr ⟨g, cap, cur, e, Nat.le_trans hbs (Nat.le_trans B24.size hb), r⟩
  have OB : Hid (∀ k, v5.ownBlock = some k → (Value.slice A0 0 0).ownBlock = some k ∨ w.heap.size ≤ k) := fun k hk => by
    rcases LR with ⟨e, _⟩ | ⟨g, cap, cur, e, hb, _⟩
    · rw [e] at hk; cases hk
    · rw [e] at hk; cases hk; exact .inr (Nat.le_trans B24.size hb)
  have HP5 : w5.heap[w2.heap.size]? = some (.cells #[.string a, .string x] 47 (0, 0)) := (g54.block _ (by have := SZ4.out; have := lt_of_block B3.out; omega)).trans ((Q34.out.block _ (lt_of_block B3.out)).trans B3.out)
  have RD5 : LfRd w5 ⟨1, [(a, x)], some ⟨w2.heap.size, 0, none⟩, 1⟩ := by
    refine ⟨fun _ => ⟨w2.heap.size, 0, rfl, fun k hk => ?_⟩, Nat.le_refl _, fun b o e => ?_⟩
    · obtain rfl : k = 0 := by simpa using hk
      have y0 := blk_cell HP5 0; have y1 := blk_cell HP5 1
      simp at y0 y1
      exact ⟨y0, y1⟩
    · cases e; exact ⟨_, HP5⟩
  have SR := Lib.hid (S5.setRow LR' (fun y hy => by rw [List.mem_singleton] at hy; rw [hy]; exact RD5))
  have k4 := blk_cell S5.box 1
  have f4 := blk_free S5.box 1
  simp at k4
  obtain ⟨A5, n5, c5, rfl⟩ : ∃ A n c, v5 = .slice A n c := by
    rcases LR with ⟨e, _⟩ | ⟨g, cp, _, e, _⟩
    · exact ⟨none, 0, 0, e⟩
    · exact ⟨_, _, _, e⟩
  clear ho5 hg5 g54 B24 S5 LR LR' HP5 RD5
  go_wp2_with fail
  refine ⟨k4, ?_⟩
  repeat (refine wpT_dry (fun K hK => ?_); go_simp; refine hK _ ?_; clear hK K)
  refine wpT_tail ?_
  refine wpE_do ?_
  go_wp2_with fail
  refine ⟨trivial, ?_⟩
  refine wpE_nil ?_
  go_wp2
  go_ret
  have tt : Touch (fun k => k = gs ∨ (Value.slice A0 0 0).ownBlock = some k) w5 (w5.setCell ⟨gs, 1, none⟩ (.slice A5 n5 c5)) := (Touch.refl _ w5).setCell (p := ⟨gs, 1, none⟩) (.inl (.inl rfl)) _
  exact ⟨rfl, _, _, SR.out, rfl, (Touch.of_below B5.out : Touch (fun k => k = gs ∨ (Value.slice A0 0 0).ownBlock = some k) w w5).trans tt (fun _ _ h => h), OB.out⟩
end Go.Proofs.Ytoolkamajlgcbaa
