/- ShP: appending to slices that have no room (three-index slices), rows of pairs. -/
import Derived.Test.YtoolkamajlgcbaaShO
import Derived.ArgAppend
set_option linter.unusedVariables false
set_option linter.unusedSimpArgs false
namespace Go.Proofs.Ytoolkamajlgcbaa
open Go.RowKit

theorem prv_len : ∀ l : PL, (prv l).length = l.length * 2
  | [] => rfl
  | x :: r => by simp only [prv, List.length_cons, prv_len r]; omega
theorem prv_get : ∀ (l : PL) (k : Nat) (h : k < l.length), (prv l)[k * 2]? = some (.string l[k].1) ∧ (prv l)[k * 2 + 1]? = some (.string l[k].2)
  | x :: r, 0, _ => ⟨rfl, rfl⟩
  | x :: r, k + 1, h => by
    have := prv_get r k (by simpa using h)
    rw [show (k + 1) * 2 = k * 2 + 2 by omega]
    exact this
theorem prv_one : ∀ (l : PL), ∀ u ∈ prv l, u.oneCell' = true
  | [], u, h => by cases h
  | x :: r, u, h => by
    simp only [prv, List.mem_cons] at h
    rcases h with rfl | rfl | h
    · rfl
    · rfl
    · exact prv_one r u h
theorem lvv_one : ∀ (L : List Lf), ∀ u ∈ lvv L, u.oneCell' = true
  | [], u, h => by cases h
  | x :: r, u, h => by
    simp only [lvv, List.mem_cons] at h
    rcases h with rfl | rfl | h
    · rfl
    · rfl
    · exact lvv_one r u h
/-- The cells of entries that are read. -/
theorem rd_cells {w : World} {b o : Nat} {l : PL} (h : RdPr w (some ⟨b, o, none⟩) l) : ∀ j u, (prv l)[j]? = some u → w.cell? ((⟨b, o, none⟩ : Addr).add j) = some u := by
  intro j u hj
  have hjl := (List.getElem?_eq_some_iff.1 hj).1
  rw [prv_len] at hjl
  obtain ⟨b', o', e, hc⟩ := h (by omega)
  cases e
  obtain ⟨c0, c1⟩ := hc (j / 2) (by omega)
  obtain ⟨p0, p1⟩ := prv_get l (j / 2) (by omega)
  rw [Addr.add_lit]
  rcases Nat.mod_two_eq_zero_or_one j with hm | hm
  · rw [show j = j / 2 * 2 by omega] at hj ⊢
    rw [p0] at hj
    cases hj
    exact c0
  · rw [show j = j / 2 * 2 + 1 by omega] at hj ⊢
    rw [p1] at hj
    cases hj
    exact c1
/-- The leaves of a row from one on. -/
theorem lr_cells {w : World} {base g cap : Nat} {L : List Lf} (h : LRow w base (.slice (some ⟨g, 0, none⟩) L.length cap) L) (k : Nat) : ∀ j u, (lvv (L.drop k))[j]? = some u → w.cell? ((⟨g, k * 2, none⟩ : Addr).add j) = some u := by
  intro j u hj
  have hjl := (List.getElem?_eq_some_iff.1 hj).1
  rw [lvv_len, List.length_drop] at hjl
  rcases h with ⟨e, _⟩ | ⟨g', cap', cur, e, _, hk', _, _, _, h3, _⟩
  · cases e
  · cases e
    have q : (lvv L)[k * 2 + j]? = some u := by
      rw [show L = L.take k ++ L.drop k from (List.take_append_drop k L).symm, lvv_append, List.getElem?_append_right (by rw [lvv_len, List.length_take]; omega), lvv_len, List.length_take, show k * 2 + j - min k L.length * 2 = j by omega]
      exact hj
    rw [← h3, List.getElem?_take_of_lt (by omega), Array.getElem?_toList] at q
    rw [Addr.add_lit, blk_cell hk']
    exact q
theorem lr_cells0 {w : World} {base g cap : Nat} {L : List Lf} (h : LRow w base (.slice (some ⟨g, 0, none⟩) L.length cap) L) (n : Nat) : ∀ j u, (lvv (L.take n))[j]? = some u → w.cell? ((⟨g, 0, none⟩ : Addr).add j) = some u := by
  intro j u hj
  have hjl := (List.getElem?_eq_some_iff.1 hj).1
  have := lr_cells h 0 j u
  rw [List.drop_zero, Nat.zero_mul] at this
  refine this ?_
  rw [show L = L.take n ++ L.drop n from (List.take_append_drop n L).symm, lvv_append, List.getElem?_append_left hjl]
  exact hj
/-- What was built anew holds entries. -/
theorem lf_own {w : World} {base : Nat} {v : Value} {n : Nat} {l : PL} (h : w.ownsRow base 47 2 v n (prv l)) (id : Nat) : ∃ A c, v = .slice A l.length c ∧ LfRd w ⟨id, l, A, c⟩ := by
  obtain ⟨h0, h⟩ := h
  rw [prv_len] at h0
  obtain rfl : n = l.length := by omega
  rcases h with ⟨rfl, e⟩ | ⟨g, cap, cur, rfl, hb, hk, h1, hm, h2, h3⟩
  · exact ⟨none, 0, by rw [e], fun hp => absurd hp (by show ¬ 0 < l.length; omega), Nat.le_of_eq e, fun b o e => by cases e⟩
  · refine ⟨_, _, rfl, fun hp => ⟨g, 0, rfl, fun k hk' => ?_⟩, h1, fun b o e => by cases e; exact ⟨cur, hk⟩⟩
    obtain ⟨p0, p1⟩ := prv_get l k hk'
    have hk' : k < l.length := hk'
    rw [← h3, List.getElem?_take_of_lt (by omega), Array.getElem?_toList] at p0 p1
    exact ⟨by rw [Nat.zero_add, blk_cell hk]; exact p0, by rw [Nat.zero_add, blk_cell hk]; exact p1⟩
/-- append onto a slice without room. -/
theorem run_append_full {P : Program} (w : World) (t ty e : TypeId) (i : TypeInfo) (z : Value) (size bytes : Nat) (ht : P.underlying t = some (.slice e)) (hi : P.info? e = some i) (hz : i.zero = some z) (hsize : i.size = size) (hby : i.bytes = bytes) (hzs : z.cells.size = size) (hsz : 0 < size)
    (b : Addr) (n cap : Nat) (hcap : cap ≤ n) (olds : List Value) (hlo : olds.length = n * size) (holds : ∀ j u, olds[j]? = some u → w.cell? (b.add j) = some u)
    (a : Addr) (m c : Nat) (news : List Value) (hl : news.length = m * size) (hnews : ∀ j u, news[j]? = some u → w.cell? (a.add j) = some u) (h63 : n + m ≤ maxLen) (hbytes : (n + m) * bytes ≤ 140737488355328) (hnc : n ≤ cap) :
    ∃ v' w', (Builtin.append_ #[t, t] ty #[.slice (some b) n cap, .slice (some a) m c]).run P w = .ok v' w' ∧ w.grownBy w' none ∧ ((m = 0 ∧ v' = .slice (some b) n cap ∧ w' = w) ∨ (0 < m ∧ w'.ownsRow w.heap.size e size v' (n + m) (olds ++ news))) := by
  by_cases hm : m = 0
  · subst hm
    refine ⟨.slice (some b) n cap, w, ?_, ⟨rfl, rfl, rfl, Nat.le_refl _, fun _ _ _ => rfl⟩, .inl ⟨rfl, rfl, rfl⟩⟩
    simp [Builtin.append_, run_underlying ht, sizeOf, typeInfo, hi, Builtin.lenOf, Builtin.firstCells, storeCells, loadCells, loadCellsFrom, hnc]
  · obtain ⟨v', w', r1, r2, r3⟩ := run_append_arg_grows (P := P) w t ty e i z size bytes ht hi hz hsize hby hzs hsz b n cap olds hlo holds a m c news hl hnews (by omega) h63 hbytes
    exact ⟨v', w', r1, r3, .inr ⟨by omega, r2⟩⟩
theorem wpList_append_full {P : Program} (w : World) {ops : Array Oper} {rest : List Oper} {o : Oper} {a : Act} {Q : Exit → Act → World → Prop} (hgd : o.guard = none) (s x : Operand) (t : TypeId)
    (ho : o.op = .call { callee := .builtin .append, args := #[s, x], argTypes := #[t, t] }) (e : TypeId) (i : TypeInfo) (z : Value) (size bytes : Nat) (ht : P.underlying t = some (.slice e)) (hi : P.info? e = some i) (hz : i.zero = some z) (hsize : i.size = size) (hby : i.bytes = bytes) (hzs : z.cells.size = size) (hsz : 0 < size)
    (b : Addr) (n cap : Nat) (hcap : cap ≤ n) (olds : List Value) (hs : a.eval s = .slice (some b) n cap) (hlo : olds.length = n * size) (holds : ∀ j u, olds[j]? = some u → w.cell? (b.add j) = some u)
    (ad : Addr) (m c : Nat) (news : List Value) (hx : a.eval x = .slice (some ad) m c) (hl : news.length = m * size) (hnews : ∀ j u, news[j]? = some u → w.cell? (ad.add j) = some u) (h63 : n + m ≤ maxLen) (hbytes : (n + m) * bytes ≤ 140737488355328) (hnc : n ≤ cap)
    (k : ∀ v' w', w.grownBy w' none → ((m = 0 ∧ v' = .slice (some b) n cap ∧ w' = w) ∨ (0 < m ∧ w'.ownsRow w.heap.size e size v' (n + m) (olds ++ news))) → wpList P ops Q rest (a.put o.dst v') w') : wpList P ops Q (o :: rest) a w := by
  refine wpList_plain hgd fun K hK => ?_
  obtain ⟨v', w', hr, h2, h3⟩ := run_append_full (P := P) w t o.type e i z size bytes ht hi hz hsize hby hzs hsz b n cap hcap olds hlo holds ad m c news hl hnews h63 hbytes hnc
  unfold Oper.wp execOp
  simp only [ho, resolve, invoke, builtin, Sem.run_bind, Sem.run_pure, Result.andThen_ok, List.map_toArray, List.map_cons, List.map_nil, hs, hx, hr]
  exact hK _ _ (k v' w' h2 h3)
/-- The row that such an append makes of leaves. -/
theorem lrow_full {w w' : World} {base g n cap : Nat} {v' : Value} {L : List Lf} {m : Nat} {M : List Lf} (h : LRow w base (.slice (some ⟨g, 0, none⟩) L.length cap) L) (hn : n ≤ L.length) (hb : base ≤ w.heap.size) (hm : m = M.length)
    (r : (m = 0 ∧ v' = .slice (some ⟨g, 0, none⟩) n n ∧ w' = w) ∨ (0 < m ∧ w'.ownsRow w.heap.size 82 2 v' (n + m) (lvv (L.take n) ++ lvv M))) :
    LRow w' base v' (L.take n ++ M) ∧ (v'.ownBlock = some g ∨ ∃ k, v'.ownBlock = some k ∧ w.heap.size ≤ k) := by
  rcases r with ⟨h0, rfl, rfl⟩ | ⟨h0, r⟩
  · obtain rfl : M = [] := List.eq_nil_of_length_eq_zero (by omega)
    refine ⟨?_, .inl rfl⟩
    rw [List.append_nil]
    have hlt : (L.take n).length = n := by rw [List.length_take]; omega
    rcases h with ⟨e, _⟩ | ⟨g', cap', cur, e, hb', hk', h1, hm', h2, h3, h4⟩
    · cases e
    · cases e
      refine .inr ⟨g, n, cur, by rw [hlt], hb', hk', by omega, by omega, by omega, ?_, fun e => by rw [e] at hlt; simpa using hlt.symm⟩
      rw [hlt]
      have e1 : cur.toList.take (n * 2) = (lvv L).take (n * 2) := by rw [← h3, List.take_take, Nat.min_eq_left (by omega)]
      have e2 : lvv L = lvv (L.take n) ++ lvv (L.drop n) := by rw [← lvv_append, List.take_append_drop]
      rw [e1, e2, List.take_left' (by rw [lvv_len, hlt])]
  · rw [← lvv_append] at r
    have hlt : (L.take n ++ M).length = n + m := by rw [List.length_append, List.length_take]; omega
    rw [← hlt] at r
    refine ⟨?_, .inr ?_⟩
    · rcases own_lrow r (by omega) with h | ⟨g', cap', cur, e, hb', hk', h1⟩
      · exact .inl h
      · exact .inr ⟨g', cap', cur, e, Nat.le_trans hb hb', hk', h1⟩
    · rcases r.2 with ⟨_, e⟩ | ⟨g', cap', cur, e, hb', _⟩
      · omega
      · exact ⟨g', by rw [e]; rfl, hb'⟩
/-- A leaf gets other entries. -/
theorem ShO.setLeaf {w : World} {base gs gj b cap : Nat} {L : List Lf} (h : ShO w base gs gj (.slice (some ⟨b, 0, none⟩) L.length cap) L) {k : Nat} (hk : k < L.length) (x : Lf) (hx : x.id = L[k].id) (hr : LfRd w x) :
    ShO (w.setCell ⟨b, k * 2 + 1, none⟩ (.slice x.A x.l.length x.c)) base gs gj (.slice (some ⟨b, 0, none⟩) L.length cap) (L.set k x) := by
  have T : Touch (fun j => j = b) w (w.setCell ⟨b, k * 2 + 1, none⟩ (.slice x.A x.l.length x.c)) := (Touch.refl (fun j => j = b) w).setCell (p := ⟨b, k * 2 + 1, none⟩) (.inl rfl) _
  have hb : gs ≠ b := fun e => by
    subst e
    have h1 := h.box
    rcases h.row with ⟨e, _⟩ | ⟨g, cap', cur, e, _, hk', _⟩
    · cases e
    · cases e
      unfold ShB at h1
      rw [h1] at hk'
      simp at hk'
  refine ⟨blk_touch T h.box hb, h.row.store hk x hx, fun y hy => ?_⟩
  have hr' : LfRd w y := by
    rcases List.mem_or_eq_of_mem_set hy with hy | rfl
    · exact h.rd y hy
    · exact hr
  exact hr'.touch T (fun j hj => lrow_ne h.row hj)
/-- The leaves are others. -/
theorem ShO.setRow {w : World} {base gs gj : Nat} {v v' : Value} {L L' : List Lf} (h : ShO w base gs gj v L) (hr : LRow w base v' L') (hx : ∀ x ∈ L', LfRd w x) : ShO (w.setCell ⟨gs, 1, none⟩ v') base gs gj v' L' := by
  have T : Touch (fun j => j = gs) w (w.setCell ⟨gs, 1, none⟩ v') := (Touch.refl (fun j => j = gs) w).setCell (p := ⟨gs, 1, none⟩) (.inl rfl) _
  have hbx := h.box
  unfold ShB at hbx
  refine ⟨?_, hr.touch T (fun k hk => ?_), fun y hy => (hx y hy).touch T (fun j hj e => ?_)⟩
  · have := blk_set hbx 1 v'
    unfold ShB
    simpa using this
  · rintro rfl
    rcases hr with ⟨rfl, _⟩ | ⟨g, cap, cur, rfl, _, hk', _⟩
    · cases hk
    · cases hk
      rw [hbx] at hk'
      simp at hk'
  · subst e
    obtain ⟨cur, hj⟩ := hj
    rw [hbx] at hj
    simp at hj
theorem ShO.row_free {w : World} {base gs gj b n cap : Nat} {L : List Lf} (h : ShO w base gs gj (.slice (some ⟨b, 0, none⟩) n cap) L) (j : Nat) : w.frozen? ⟨b, j, none⟩ = false := by
  rcases h.row with ⟨e, _⟩ | ⟨g, cap', cur, e, _, hk', _⟩
  · cases e
  · cases e
    exact blk_free hk' j
theorem szL_app (a b : PL) : szL (a ++ b) = szL a + szL b := by
  have : ∀ (b : PL) (x : Nat), (b.map szP).foldl (· + ·) x = x + (b.map szP).foldl (· + ·) 0 := by
    intro b
    induction b with
    | nil => intro x; rfl
    | cons p b ih => intro x; simp only [List.map_cons, List.foldl_cons]; rw [ih (x + szP p), ih (0 + szP p)]; omega
  unfold szL
  rw [List.map_append, List.foldl_append, this]
end Go.Proofs.Ytoolkamajlgcbaa
