/- CmI: the document's Put, Drop, Range of entries. -/
import Derived.Test.YtoolkamajlgcbaaCmH
set_option linter.unusedVariables false
set_option linter.unusedSimpArgs false
namespace Go.Proofs.Ytoolkamajlgcbaa
open Go.RowKit

theorem LfRd.below {w w' : World} {x : Lf} (h : LfRd w x) (hb : Below w.heap.size w w') : LfRd w' x := h.touch (Touch.of_below hb : Touch (fun _ => False) w w') (fun _ _ x => x)
/-- A row of entries that is read. -/
def RdP (w : World) (v : Value) (F : PL) : Prop := (v = .slice none 0 0 ∧ F = []) ∨ ∃ b o c, v = .slice (some ⟨b, o, none⟩) F.length c ∧ LfRd w ⟨0, F, some ⟨b, o, none⟩, c⟩ ∧ c ≤ maxLen
theorem rdP_nil (w : World) : RdP w (.slice none 0 0) [] := .inl ⟨rfl, rfl⟩
theorem RdP.touch {S : Nat → Prop} {w w' : World} {v : Value} {F : PL} (h : RdP w v F) (ht : Touch S w w') (hS : ∀ b, PBlk w b → ¬ S b) : RdP w' v F := by
  rcases h with h | ⟨b, o, c, rfl, h1, h2⟩
  · exact .inl h
  · exact .inr ⟨b, o, c, rfl, h1.touch ht hS, h2⟩
theorem RdP.below {w w' : World} {v : Value} {F : PL} (h : RdP w v F) (hb : Below w.heap.size w w') : RdP w' v F := h.touch (Touch.of_below hb : Touch (fun _ => False) w w') (fun _ _ x => x)
theorem RdP.rd {w : World} {v : Value} {F : PL} (h : RdP w v F) : ∃ A c, v = .slice A F.length c ∧ RdPr w A F := by
  rcases h with ⟨rfl, rfl⟩ | ⟨b, o, c, rfl, h1, h2⟩
  · exact ⟨none, 0, rfl, fun h => by simp at h⟩
  · exact ⟨_, c, rfl, h1.1⟩
theorem rdP_own {w : World} {base : Nat} {v : Value} {F : PL} (h : w.ownsRow base 47 2 v F.length (prv F)) : RdP w v F := by
  obtain ⟨A, c, e0, h1⟩ := lf_own h 0
  rcases h.2 with ⟨e, h0⟩ | ⟨g, cap, cur, e, _, _, _, hm, _⟩
  · exact .inl ⟨e, List.eq_nil_of_length_eq_zero h0⟩
  · rw [e0] at e
    injection e with e3 e4 e5
    subst e3 e5
    exact .inr ⟨g, 0, c, e0, h1, hm⟩
/-- A row of entries of the call's own. -/
def OwnP (w : World) (B : Nat) (v : Value) (L : PL) : Prop := w.ownsRow B 47 2 v L.length (prv L)
theorem OwnP.below {w w' : World} {b : Nat} {v : Value} {L : PL} (h : OwnP w b v L) (hb : Below w.heap.size w w') : OwnP w' b v L :=
  own_touch h (Touch.of_below hb : Touch (fun _ => False) w w') (fun _ _ x => x)
theorem prv_app : ∀ a b : PL, prv (a ++ b) = prv a ++ prv b
  | [], b => rfl
  | x :: a, b => by simp only [List.cons_append, prv, prv_app a b]
/-- append of entries that are read. -/
theorem wpList_app_pr {w : World} {ops : Array Oper} {rest : List Oper} {o : Oper} {a : Act} {Q : Exit → Act → World → Prop} (hgd : o.guard = none) (s x : Operand) (t : TypeId)
    (ho : o.op = .call { callee := .builtin .append, args := #[s, x], argTypes := #[t, t] }) (ht : Try.prog.underlying t = some (.slice 47)) (B : Nat) (hB : B ≤ w.heap.size) (v : Value) (L M : PL) (hs : a.eval s = v)
    (h : OwnP w B v L) (A : Option Addr) (m c : Nat) (hxv : a.eval x = .slice A m c) (hm : m = M.length) (hn : A = none → c = 0) (hx : ∀ ad, A = some ad → ∀ j u, (prv M)[j]? = some u → w.cell? (ad.add j) = some u) (hz : A = none → M = []) (hl : L.length + M.length ≤ 1099511627776)
    (k : ∀ v' w', OwnP w' B v' (L ++ M) → w.grownBy w' v.ownBlock → wpList Try.prog ops Q rest (a.put o.dst v') w') : wpList Try.prog ops Q (o :: rest) a w := by
  subst hm
  obtain ⟨i0, hi, hz0, hz1, hz2⟩ := info_parts infoPr
  refine wpList_plain hgd fun K hK => ?_
  have key : ∃ v' w', (Builtin.append_ #[t, t] o.type #[v, .slice A M.length c]).run Try.prog w = .ok v' w' ∧ OwnP w' B v' (L ++ M) ∧ w.grownBy w' v.ownBlock := by
    cases A with
    | none =>
      obtain rfl := hz rfl
      obtain rfl := hn rfl
      exact ⟨v, w, run_append_owned_none (P := Try.prog) (w := w) B t o.type _ i0 2 ht hi v L.length (prv L) h, by simpa using h, ⟨rfl, rfl, rfl, Nat.le_refl _, fun _ _ _ => rfl⟩⟩
    | some ad =>
      obtain ⟨v', w', e, ho', hgr, _, _⟩ := run_append_own_at (P := Try.prog) w B t o.type _ i0 _ 2 32 ht hi hz0 hz1 hz2 rfl (by decide) v L.length (prv L) h ad M.length c (prv M) (prv_len M) (hx ad rfl) (prv_one M) (by unfold maxLen; omega) (by omega) hB
      refine ⟨v', w', e, ?_, hgr⟩
      unfold OwnP
      rw [List.length_append, prv_app]
      exact ho'
  obtain ⟨v', w', hrun, h2, h3⟩ := key
  unfold Oper.wp execOp
  simp only [ho, resolve, invoke, builtin, Sem.run_bind, Sem.run_pure, Result.andThen_ok, List.map_toArray, List.map_cons, List.map_nil, hs, hxv, hrun]
  exact hK _ _ (k v' w' h2 h3)
/-- What the document's Put makes of a list. -/
def putI (l : PL) (a x : ByteArray) : PL := l.take (fndI l a) ++ (a, x) :: l.drop (if hitI l a then fndI l a + 1 else fndI l a)
def dropI (l : PL) (a : ByteArray) : PL := if hitI l a then l.take (fndI l a) ++ l.drop (fndI l a + 1) else l
theorem rd_upto {w : World} {A : Option Addr} {F : PL} {c : Nat} (h : LfRd w ⟨0, F, A, c⟩) (i : Nat) : ∀ ad, A = some ad → ∀ j u, (prv (F.take i))[j]? = some u → w.cell? (ad.add j) = some u := fun ad e j u hj => by
  subst e
  have hp : 0 < F.length := by
    rcases Nat.eq_zero_or_pos F.length with h0 | h0
    · rw [List.eq_nil_of_length_eq_zero h0, List.take_nil] at hj
      simp [prv] at hj
    · exact h0
  obtain ⟨b, o, e, _⟩ := h.1 hp
  cases e
  exact rd_take h.1 i j u hj
set_option maxHeartbeats 1600000 in
set_option maxRecDepth 100000 in
theorem rput_nil (w : World) (a x : ByteArray) :
    Calls Try.prog 58 #[.slice none 0 0, .string a, .string x] w fun e w' => ∃ v, e = .returned v ∧ OwnP w' w.heap.size v [(a, x)] ∧ Below w.heap.size w w' := by
  have FA := Lib.hid (rfind_any w none 0 [] (fun h => by simp at h) (by decide) a)
  have e1 : fndI [] a = 0 := rfl
  have e2 : hitI [] a = false := by unfold hitI; rw [dif_neg (by simp)]
  rw [e1, e2] at FA
  have OW := fun W (hW : Below w.heap.size w W) => Lib.hid (World.ownsRow_nil W w.heap.size 47 2)
  clear e1 e2
  go_enter Try.func58, Try.ntmps58
  go_wp2_with fail
  refine FA.out.mono ?_
  rintro e w2 ⟨rfl, q2⟩
  have Q2 := Lib.hid q2
  have hsz : Hid (w.heap.size ≤ w2.heap.size) := q2.size
  clear FA
  go_wp2_with (at_builtin; refine wpList_app_pr rfl (.tmp 16) (.tmp 19) 43 rfl Try.underlying43 w.heap.size hsz.out (.slice none 0 0) [] [] rfl (OW w2 q2).out none 0 0 rfl rfl (fun _ => rfl) (fun ad e => by cases e) (fun _ => rfl) (by decide) ?_)
  intro v3 w3 o3 g3
  have B3 : Hid (Below w.heap.size w w3) := Q2.out.trans ((Below.refl w.heap.size w2).grown g3 hsz.out (fun j hj => by cases hj))
  obtain ⟨W4, hW4⟩ : ∃ W, W = w3.alloc (.cells #[.string a, .string x] 47) := ⟨_, rfl⟩
  have K4 : Below w3.heap.size w3 W4 := by rw [hW4]; exact (Below.refl _ w3).alloc (Nat.le_refl _) _
  have N4 : Hid (∀ j u, (prv [(a, x)])[j]? = some u → W4.cell? ((⟨w3.heap.size, 0, none⟩ : Addr).add j) = some u) := by unfold Hid; rw [hW4]; exact two_new _ _ _ _
  have O4 := Lib.hid (o3.below K4)
  have B4 : Hid (Below w.heap.size w W4) := B3.out.trans (K4.mono B3.out.size)
  have hsz4 : Hid (w.heap.size ≤ W4.heap.size) := B4.out.size
  have HW4 := Lib.hid hW4
  clear o3 g3 K4 hW4 B3 hsz
  go_wp2_with (at_builtin; rw [← HW4.out]; refine wpList_app_pr rfl (.tmp 21) (.tmp 25) 43 rfl Try.underlying43 w.heap.size hsz4.out v3 [] [(a, x)] rfl O4.out (some ⟨w3.heap.size, 0, none⟩) 1 1 rfl rfl (fun e => by cases e) (fun ad e => by cases e; exact N4.out) (fun e => by cases e) (by simp) ?_)
  intro v5 w5 o5 g5
  have B5 : Hid (Below w.heap.size w w5) := B4.out.trans ((Below.refl w.heap.size W4).grown g5 hsz4.out (fun j hj => (O4.out.lt j hj).1))
  have hsz5 : Hid (w.heap.size ≤ w5.heap.size) := B5.out.size
  have O5 := Lib.hid o5
  clear g5 o5 O4 N4 HW4
  go_wp2_with (at_builtin; refine wpList_app_pr rfl (.tmp 30) (.tmp 33) 43 rfl Try.underlying43 w.heap.size hsz5.out v5 _ [] rfl O5.out none 0 0 rfl rfl (fun _ => rfl) (fun ad e => by cases e) (fun _ => rfl) (by simp) ?_)
  intro v6 w6 o6 g6
  have B6 : Hid (Below w.heap.size w w6) := B5.out.trans ((Below.refl w.heap.size w5).grown g6 hsz5.out (fun j hj => (O5.out.lt j hj).1))
  have O6 := Lib.hid o6
  clear g6 o6
  go_wp2
  go_ret
  exact ⟨v6, rfl, O6.out, B6.out⟩
set_option maxHeartbeats 1600000 in
set_option maxRecDepth 100000 in
theorem rput_some (w : World) (b o c : Nat) (l : PL) (h : LfRd w ⟨0, l, some ⟨b, o, none⟩, c⟩) (hc : c ≤ maxLen) (hn : l.length ≤ 1000000) (a x : ByteArray) :
    Calls Try.prog 58 #[.slice (some ⟨b, o, none⟩) l.length c, .string a, .string x] w fun e w' => ∃ v, e = .returned v ∧ OwnP w' w.heap.size v (putI l a x) ∧ Below w.heap.size w w' := by
  have FA := Lib.hid (rfind_any w _ c l h.1 (by omega) a)
  have hi := fnd_le l a
  have hlc : l.length ≤ c := h.2.1
  unfold maxLen at hc
  have HRD := Lib.hid h
  have hih : hitI l a = true → fndI l a < l.length := fun e => by
    unfold hitI at e
    split at e
    · assumption
    · cases e
  have OW := fun W (hW : Below w.heap.size w W) => Lib.hid (World.ownsRow_nil W w.heap.size 47 2)
  obtain ⟨i, hi2⟩ : ∃ i, i = fndI l a := ⟨_, rfl⟩
  obtain ⟨hit, hh⟩ : ∃ q, q = hitI l a := ⟨_, rfl⟩
  have HPI : Hid (putI l a x = l.take i ++ (a, x) :: l.drop (if hit then i + 1 else i)) := by unfold Hid putI; rw [hi2, hh]
  rw [← hi2, ← hh] at FA
  rw [← hi2] at hi hih
  rw [← hh] at hih
  have hic : (i : Int) ≤ (c : Int) := by omega
  have hil : (i : Int) ≤ (l.length : Int) := by omega
  have hlci : (l.length : Int) ≤ (c : Int) := by omega
  obtain ⟨j, hj⟩ : ∃ j, j = if hit then i + 1 else i := ⟨_, rfl⟩
  have hjl : j ≤ l.length := by
    rw [hj]
    split
    · exact hih (by assumption)
    · exact hi
  rw [← hj] at HPI
  have tkl : Hid ((l.take i).length = i) := by unfold Hid; rw [List.length_take]; omega
  obtain ⟨ad, had, RC⟩ := rd_from h.1 j hjl hlc
  have RCh := Lib.hid RC
  have HJ := Lib.hid hj
  have UP := Lib.hid (rd_upto h i)
  clear hi2 hh h RC hj hih
  go_enter Try.func58, Try.ntmps58
  go_wp2_with fail
  refine FA.out.mono ?_
  rintro e w2 ⟨rfl, q2⟩
  have Q2 := Lib.hid q2
  have hsz : Hid (w.heap.size ≤ w2.heap.size) := q2.size
  clear FA
  go_wp2_with (at_builtin; refine wpList_app_pr rfl (.tmp 16) (.tmp 19) 43 rfl Try.underlying43 w.heap.size hsz.out (.slice none 0 0) [] (l.take i) rfl (OW w2 q2).out (some ⟨b, o, none⟩) i c rfl tkl.out.symm (fun e => by cases e) (fun ad e j u hu => cell_below Q2.out (UP.out ad e j u hu)) (fun e => by cases e) (by rw [tkl.out]; simp; omega) ?_)
  intro v3 w3 o3 g3
  have B3 : Hid (Below w.heap.size w w3) := Q2.out.trans ((Below.refl w.heap.size w2).grown g3 hsz.out (fun j hj => by cases hj))
  obtain ⟨W4, hW4⟩ : ∃ W, W = w3.alloc (.cells #[.string a, .string x] 47) := ⟨_, rfl⟩
  have K4 : Below w3.heap.size w3 W4 := by rw [hW4]; exact (Below.refl _ w3).alloc (Nat.le_refl _) _
  have N4 : Hid (∀ j u, (prv [(a, x)])[j]? = some u → W4.cell? ((⟨w3.heap.size, 0, none⟩ : Addr).add j) = some u) := by unfold Hid; rw [hW4]; exact two_new _ _ _ _
  have O4 := Lib.hid (o3.below K4)
  have B4 : Hid (Below w.heap.size w W4) := B3.out.trans (K4.mono B3.out.size)
  have hsz4 : Hid (w.heap.size ≤ W4.heap.size) := B4.out.size
  have HW4 := Lib.hid hW4
  clear o3 g3 K4 hW4 B3 hsz
  go_wp2_with (at_builtin; rw [← HW4.out]; refine wpList_app_pr rfl (.tmp 21) (.tmp 25) 43 rfl Try.underlying43 w.heap.size hsz4.out v3 (l.take i) [(a, x)] rfl O4.out (some ⟨w3.heap.size, 0, none⟩) 1 1 rfl rfl (fun e => by cases e) (fun ad e => by cases e; exact N4.out) (fun e => by cases e) (by rw [tkl.out]; simp; omega) ?_)
  intro v5 w5 o5 g5
  have B5 : Hid (Below w.heap.size w w5) := B4.out.trans ((Below.refl w.heap.size W4).grown g5 hsz4.out (fun j hj => (O4.out.lt j hj).1))
  have hsz5 : Hid (w.heap.size ≤ w5.heap.size) := B5.out.size
  have O5 := Lib.hid o5
  have RC5 : Hid (∀ k u, (prv (l.drop j))[k]? = some u → w5.cell? (ad.add k) = some u) := fun k u hu => cell_below B5.out (RCh.out k u hu)
  have dl : Hid ((l.drop j).length = l.length - j) := by unfold Hid; rw [List.length_drop]
  clear g5 o5 O4 N4 HW4
  cases hit with
  | false =>
    obtain rfl : j = i := HJ.out
    go_wp2_with (at_builtin; refine wpList_app_pr rfl (.tmp 30) (.tmp 33) 43 rfl Try.underlying43 w.heap.size hsz5.out v5 _ (l.drop j) rfl O5.out (some ad) (l.length - j) (c - j) rfl dl.out.symm (fun e => by cases e) (fun ad' e => by cases e; exact RC5.out) (fun e => by cases e) (by rw [List.length_append, tkl.out, dl.out]; simp; omega) ?_)
    intro v6 w6 o6 g6
    have B6 : Hid (Below w.heap.size w w6) := B5.out.trans ((Below.refl w.heap.size w5).grown g6 hsz5.out (fun j hj => (O5.out.lt j hj).1))
    have O6 := Lib.hid o6
    clear g6 o6
    go_wp2
    go_ret
    exact ⟨v6, rfl, by rw [HPI.out]; exact O6.out, B6.out⟩
  | true =>
    have hji : j = i + 1 := HJ.out
    have hk0 : (0 : Int) ≤ (i : Int) + 1 := by omega
    have htk : ((i : Int) + 1).toNat = i + 1 := by omega
    have hk1 : (i : Int) + 1 ≤ (l.length : Int) := by omega
    have hk2 : IntKind.i64.wrap ((i : Int) + 1) = (i : Int) + 1 := by rw [IntKind.wrap_i64]; omega
    subst hji
    go_wp2_with (at_builtin; refine wpList_app_pr rfl (.tmp 30) (.tmp 33) 43 rfl Try.underlying43 w.heap.size hsz5.out v5 _ (l.drop (i + 1)) rfl O5.out (some ad) (l.length - (i + 1)) (c - (i + 1)) rfl dl.out.symm (fun e => by cases e) (fun ad' e => by cases e; exact RC5.out) (fun e => by cases e) (by rw [List.length_append, tkl.out, dl.out]; simp; omega) ?_)
    intro v6 w6 o6 g6
    have B6 : Hid (Below w.heap.size w w6) := B5.out.trans ((Below.refl w.heap.size w5).grown g6 hsz5.out (fun j hj => (O5.out.lt j hj).1))
    have O6 := Lib.hid o6
    clear g6 o6
    go_wp2
    go_ret
    exact ⟨v6, rfl, by rw [HPI.out]; exact O6.out, B6.out⟩
theorem rput_any (w : World) (v : Value) (l : PL) (h : RdP w v l) (hn : l.length ≤ 1000000) (a x : ByteArray) :
    Calls Try.prog 58 #[v, .string a, .string x] w fun e w' => ∃ v, e = .returned v ∧ OwnP w' w.heap.size v (putI l a x) ∧ Below w.heap.size w w' := by
  rcases h with ⟨rfl, rfl⟩ | ⟨b, o, c, rfl, h1, h2⟩
  · exact rput_nil w a x
  · exact rput_some w b o c l h1 h2 hn a x
/-- A list that had the key or not, without it. -/
theorem rdrop_no (w : World) (A : Option Addr) (c : Nat) (l : PL) (h : RdPr w A l) (hn : l.length ≤ 1000000) (a : ByteArray) (hh : hitI l a = false) :
    Calls Try.prog 27 #[.slice A l.length c, .string a] w fun e w' => e = .returned (.tuple #[.slice A l.length c, .bool false]) ∧ Below w.heap.size w w' := by
  have FA := Lib.hid (rfind_any w A c l h (by omega) a)
  rw [hh] at FA
  clear hh h
  go_enter Try.func27, Try.ntmps27
  go_wp2_with fail
  refine FA.out.mono ?_
  rintro e w2 ⟨rfl, q2⟩
  have Q2 := Lib.hid q2
  clear q2
  go_wp2
  go_ret2
  exact ⟨rfl, Q2.out⟩
set_option maxHeartbeats 1600000 in
set_option maxRecDepth 100000 in
theorem rdrop_yes (w : World) (b o c : Nat) (l : PL) (h : LfRd w ⟨0, l, some ⟨b, o, none⟩, c⟩) (hc : c ≤ maxLen) (hn : l.length ≤ 1000000) (a : ByteArray) (hh : hitI l a = true) :
    Calls Try.prog 27 #[.slice (some ⟨b, o, none⟩) l.length c, .string a] w fun e w' => ∃ v, e = .returned (.tuple #[v, .bool true]) ∧ OwnP w' w.heap.size v (dropI l a) ∧ Below w.heap.size w w' := by
  have FA := Lib.hid (rfind_any w _ c l h.1 (by omega) a)
  have hlc : l.length ≤ c := h.2.1
  unfold maxLen at hc
  have hi : fndI l a < l.length := by
    unfold hitI at hh
    split at hh
    · assumption
    · cases hh
  have OW := fun W (hW : Below w.heap.size w W) => Lib.hid (World.ownsRow_nil W w.heap.size 47 2)
  obtain ⟨i, hi2⟩ : ∃ i, i = fndI l a := ⟨_, rfl⟩
  have HPI : Hid (dropI l a = l.take i ++ l.drop (i + 1)) := by unfold Hid dropI; rw [if_pos hh, hi2]
  rw [hh] at FA
  rw [← hi2] at FA hi
  have hic : (i : Int) ≤ (c : Int) := by omega
  have hil : (i : Int) ≤ (l.length : Int) := by omega
  have hlci : (l.length : Int) ≤ (c : Int) := by omega
  have tkl : Hid ((l.take i).length = i) := by unfold Hid; rw [List.length_take]; omega
  obtain ⟨ad, had, RC⟩ := rd_from h.1 (i + 1) (by show i + 1 ≤ l.length; omega) hlc
  have RCh := Lib.hid RC
  have UP := Lib.hid (rd_upto h i)
  clear hi2 hh h RC
  go_enter Try.func27, Try.ntmps27
  go_wp2_with fail
  refine FA.out.mono ?_
  rintro e w2 ⟨rfl, q2⟩
  have Q2 := Lib.hid q2
  have hsz : Hid (w.heap.size ≤ w2.heap.size) := q2.size
  clear FA
  go_wp2_with (at_builtin; refine wpList_app_pr rfl (.tmp 18) (.tmp 21) 43 rfl Try.underlying43 w.heap.size hsz.out (.slice none 0 0) [] (l.take i) rfl (OW w2 q2).out (some ⟨b, o, none⟩) i c rfl tkl.out.symm (fun e => by cases e) (fun ad e j u hu => cell_below Q2.out (UP.out ad e j u hu)) (fun e => by cases e) (by rw [tkl.out]; simp; omega) ?_)
  intro v3 w3 o3 g3
  have B3 : Hid (Below w.heap.size w w3) := Q2.out.trans ((Below.refl w.heap.size w2).grown g3 hsz.out (fun j hj => by cases hj))
  have hsz5 : Hid (w.heap.size ≤ w3.heap.size) := B3.out.size
  have O5 := Lib.hid o3
  have RC5 : Hid (∀ k u, (prv (l.drop (i + 1)))[k]? = some u → w3.cell? (ad.add k) = some u) := fun k u hu => cell_below B3.out (RCh.out k u hu)
  have dl : Hid ((l.drop (i + 1)).length = l.length - (i + 1)) := by unfold Hid; rw [List.length_drop]
  clear g3 o3
  have hk0 : (0 : Int) ≤ (i : Int) + 1 := by omega
  have htk : ((i : Int) + 1).toNat = i + 1 := by omega
  have hk1 : (i : Int) + 1 ≤ (l.length : Int) := by omega
  have hk2 : IntKind.i64.wrap ((i : Int) + 1) = (i : Int) + 1 := by rw [IntKind.wrap_i64]; omega
  go_wp2_with (at_builtin; refine wpList_app_pr rfl (.tmp 23) (.tmp 27) 43 rfl Try.underlying43 w.heap.size hsz5.out v3 _ (l.drop (i + 1)) rfl O5.out (some ad) (l.length - (i + 1)) (c - (i + 1)) rfl dl.out.symm (fun e => by cases e) (fun ad' e => by cases e; exact RC5.out) (fun e => by cases e) (by rw [tkl.out, dl.out]; omega) ?_)
  intro v6 w6 o6 g6
  have B6 : Hid (Below w.heap.size w w6) := B3.out.trans ((Below.refl w.heap.size w3).grown g6 hsz5.out (fun j hj => (O5.out.lt j hj).1))
  have O6 := Lib.hid o6
  clear g6 o6
  go_wp2
  go_ret2
  exact ⟨v6, rfl, by rw [HPI.out]; exact O6.out, B6.out⟩
/-- What the document's Range makes of a list. -/
def rngI (l : PL) (frm til : ByteArray) (most : Int) : PL := (l.filter (fun p => !ltB p.1 frm && !ltB til p.1)).take most.toNat
theorem take_snoc_filter (l : PL) (f : ByteArray × ByteArray → Bool) (m : Nat) (k : Nat) (hk : k < l.length) : ((l.take (k + 1)).filter f).take m = ((l.take k).filter f).take m ++ (if f l[k] = true ∧ (((l.take k).filter f).take m).length < m then [l[k]] else []) := by
  rw [List.take_succ_eq_append_getElem hk, List.filter_append, List.take_append]
  congr 1
  have : ([l[k]].filter f) = if f l[k] = true then [l[k]] else [] := by cases h : f l[k] <;> simp [h]
  rw [this]
  by_cases hf : f l[k] = true
  · rw [if_pos hf]
    by_cases hm : (((l.take k).filter f).take m).length < m
    · rw [if_pos ⟨hf, hm⟩]
      rw [List.length_take] at hm
      rw [List.take_of_length_le (by simp; omega)]
    · rw [if_neg (fun h => hm h.2)]
      rw [List.length_take] at hm
      rw [show m - ((l.take k).filter f).length = 0 by omega]
      rfl
  · rw [if_neg hf, if_neg (fun h => hf h.1), List.take_nil]
end Go.Proofs.Ytoolkamajlgcbaa
