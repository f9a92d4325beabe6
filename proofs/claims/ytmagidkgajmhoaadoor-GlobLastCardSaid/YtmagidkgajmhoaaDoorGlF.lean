/- GlF: a part's tokens. -/
import Derived.Test.YtmagidkgajmhoaaDoorGlE
set_option linter.unusedVariables false
set_option linter.unusedSimpArgs false
namespace Go.Proofs.YtmagidkgajmhoaaDoor
open Go.RowKit

/-- Cells that lie in a block of a kind. -/
def Blk (w : World) (t : TypeId) (A : Option Addr) (xs : List Value) : Prop := xs ≠ [] → ∃ b o cur, A = some ⟨b, o, none⟩ ∧ w.heap[b]? = some (.cells cur t (0, 0)) ∧ ∀ j u, xs[j]? = some u → cur[o + j]? = some u
/-- Blocks of all kinds but one stay. -/
def Kp (e : TypeId) (w w' : World) : Prop := ∀ (b : Nat) (cs : Array Value) (t : TypeId), t ≠ e → w.heap[b]? = some (Obj.cells cs t (0, 0)) → w'.heap[b]? = some (Obj.cells cs t (0, 0))
theorem Kp.of_below {e : TypeId} {w w' : World} (h : Below w.heap.size w w') : Kp e w w' := fun b cs t _ hb => (h.block b (lt_block hb)).trans hb
theorem Kp.trans {e : TypeId} {a b c : World} (h : Kp e a b) (k : Kp e b c) : Kp e a c := fun j cs t ht hb => k j cs t ht (h j cs t ht hb)
theorem Kp.grown {e : TypeId} {w w' : World} {B size n : Nat} {v : Value} {xs : List Value} (ho : w.ownsRow B e size v n xs) (hg : w.grownBy w' v.ownBlock) : Kp e w w' := fun b cs t ht hb => by
  refine (hg.block b (lt_block hb) (fun hx => ?_)).trans hb
  rcases ho.2 with ⟨rfl, _⟩ | ⟨g, cap, cur, rfl, _, hk, _⟩
  · cases hx
  · have eg : b = g := by injection hx
    rw [eg, hk] at hb
    simp only [Option.some.injEq, Obj.cells.injEq] at hb
    exact ht hb.2.1.symm
theorem Kp.touch {e : TypeId} {w w' : World} {g : Nat} {cs : Array Value} (hb : w.heap[g]? = some (.cells cs e (0, 0))) (ht : Touch (fun j => j = g) w w') : Kp e w w' := fun b cs' t htt hx => blk_touch ht hx (fun e' => by
  subst e'
  rw [hb] at hx
  simp only [Option.some.injEq, Obj.cells.injEq] at hx
  exact htt hx.2.1.symm)
theorem Blk.kp {e t : TypeId} {w w' : World} {A : Option Addr} {xs : List Value} (h : Blk w t A xs) (hk : Kp e w w') (ht : t ≠ e) : Blk w' t A xs := fun hx => by
  obtain ⟨b, o, cur, e, hb, hc⟩ := h hx
  exact ⟨b, o, cur, e, hk b cur t ht hb, hc⟩
theorem Blk.below {t : TypeId} {w w' : World} {A : Option Addr} {xs : List Value} (h : Blk w t A xs) (hb : Below w.heap.size w w') : Blk w' t A xs := fun hx => by
  obtain ⟨b, o, cur, e, hk, hc⟩ := h hx
  exact ⟨b, o, cur, e, (hb.block b (lt_block hk)).trans hk, hc⟩
theorem Blk.nil (w : World) (t : TypeId) (A : Option Addr) : Blk w t A [] := fun h => absurd rfl h
theorem blk_own {w : World} {B size n c : Nat} {e : TypeId} {A : Option Addr} {xs : List Value} (h : w.ownsRow B e size (.slice A n c) n xs) : Blk w e A xs := fun hx => by
  rcases h.2 with ⟨hv, h0⟩ | ⟨g, cap, cur, hv, _, hk, _, _, _, h3⟩
  · exfalso
    have := h.1
    rw [h0, Nat.zero_mul] at this
    exact hx (List.eq_nil_of_length_eq_zero this)
  · cases hv
    refine ⟨g, 0, cur, rfl, hk, fun j u hj => ?_⟩
    rw [Nat.zero_add]
    have hjl := (List.getElem?_eq_some_iff.1 hj).1
    rw [← h3, List.length_take] at hjl
    rw [← h3, List.getElem?_take_of_lt (by omega), Array.getElem?_toList] at hj
    exact hj
theorem Blk.cells {t : TypeId} {w : World} {A : Option Addr} {xs : List Value} (h : Blk w t A xs) (hx : xs ≠ []) : ∃ b o, A = some ⟨b, o, none⟩ ∧ ∀ j u, xs[j]? = some u → w.cell? ⟨b, o + j, none⟩ = some u := by
  obtain ⟨b, o, cur, e, hk, hc⟩ := h hx
  exact ⟨b, o, e, fun j u hj => by rw [blk_cell hk]; exact hc j u hj⟩
/-- A token, and where its spans lie. -/
structure TkM where
  t : PTok
  A : Option Addr
  c : Nat
def tkv : List TkM → List Value
  | [] => []
  | x :: r => .bool x.t.many :: .bool x.t.no :: .slice x.A x.t.l.length x.c :: tkv r
theorem tkv_len : ∀ L : List TkM, (tkv L).length = L.length * 3
  | [] => rfl
  | x :: r => by simp only [tkv, List.length_cons, tkv_len r]; omega
theorem tkv_app : ∀ a b : List TkM, tkv (a ++ b) = tkv a ++ tkv b
  | [], b => rfl
  | x :: a, b => by simp only [List.cons_append, tkv, tkv_app a b]
theorem tkv_one : ∀ (L : List TkM), ∀ u ∈ tkv L, u.oneCell' = true
  | [], u, h => by cases h
  | x :: r, u, h => by
    simp only [tkv, List.mem_cons] at h
    rcases h with rfl | rfl | rfl | h
    · rfl
    · rfl
    · rfl
    · exact tkv_one r u h
theorem tkv_get : ∀ (L : List TkM) (k : Nat) (h : k < L.length), (tkv L)[k * 3]? = some (.bool L[k].t.many) ∧ (tkv L)[k * 3 + 1]? = some (.bool L[k].t.no) ∧ (tkv L)[k * 3 + 2]? = some (.slice L[k].A L[k].t.l.length L[k].c)
  | x :: r, 0, _ => ⟨rfl, rfl, rfl⟩
  | x :: r, k + 1, h => by
    have := tkv_get r k (by simpa using h)
    rw [show (k + 1) * 3 = k * 3 + 3 by omega]
    exact this
/-- Tokens that are read. -/
def RdTks (w : World) (A : Option Addr) (L : List TkM) : Prop := Blk w 74 A (tkv L) ∧ ∀ x ∈ L, Blk w 86 x.A (spv x.t.l)
theorem RdTks.below {w w' : World} {A : Option Addr} {L : List TkM} (h : RdTks w A L) (hb : Below w.heap.size w w') : RdTks w' A L := ⟨h.1.below hb, fun x hx => (h.2 x hx).below hb⟩
theorem RdTks.kp {w w' : World} {A : Option Addr} {L : List TkM} {e : TypeId} (h : RdTks w A L) (hb : Kp e w w') (h1 : 74 ≠ e) (h2 : 86 ≠ e) : RdTks w' A L := ⟨h.1.kp hb h1, fun x hx => (h.2 x hx).kp hb h2⟩
/-- A text's tokens. -/
def rawF : Nat → List PTok → Bs → Option (List PTok)
  | 0, _, _ => none
  | f + 1, acc, r => if r = [] then some acc else match tokP r with
    | none => none
    | some (t, r') => rawF f (acc ++ [t]) r'
def rawP (r : Bs) : Option (List PTok) := rawF (r.length + 1) [] r
def TksTo (w : World) (s : ByteArray) (e : Ending) (w' : World) : Prop :=
  (rawP (dat s) = none ∧ e = .returned (.tuple #[.slice none 0 0, .bool false]) ∧ Below w.heap.size w w') ∨
  ∃ (L : List TkM) (A : Option Addr) (c : Nat), rawP (dat s) = some (L.map (·.t)) ∧ L.length ≤ s.size ∧ e = .returned (.tuple #[.slice A L.length c, .bool (decide (0 < L.length))]) ∧ RdTks w' A L ∧ Below w.heap.size w w'
set_option maxHeartbeats 3200000 in
set_option maxRecDepth 100000 in
theorem tokens_any (w : World) (s : ByteArray) (hs : s.size ≤ 1000000) :
    Calls Tryd.prog 24 #[.string s] w fun e w' => TksTo w s e w' := by
  obtain ⟨i0, hi0, hz0, hz1, hz2⟩ := info_parts infoTk
  obtain ⟨W1, hW1⟩ : ∃ W, W = w.alloc (.cells #[.string s, .int .i64 0] 71) := ⟨_, rfl⟩
  have K1 : Below w.heap.size w W1 := by rw [hW1]; exact (Below.refl _ w).alloc (Nat.le_refl _) _
  have R1 : Rdr W1 w.heap.size s 0 := by rw [hW1]; exact blk_new w _
  have sz1 : W1.heap.size = w.heap.size + 1 := by rw [hW1]; simp
  have HR1 := Lib.hid R1; have HK1 := Lib.hid K1; have HSZ := Lib.hid sz1
  obtain ⟨R, hR⟩ : ∃ R, R = rawP (dat s) := ⟨_, rfl⟩
  have hdl : (dat s).length = s.size := by unfold dat; rw [Array.length_toList]; rfl
  have R0 : Hid (R = rawF (s.size + 1) [] ((dat s).drop 0)) := by unfold Hid; rw [hR, List.drop_zero, ← hdl]; rfl
  have HR := Lib.hid hR
  have HW1 := Lib.hid hW1
  clear K1 R1 sz1 hW1 hR hdl
  go_enter Tryd.func24, Tryd.ntmps24
  go_wp2_with fail
  rw [← HW1.out]
  go_loopg [5] (s.size + 1) (fun f lv wr => ∃ (k : Nat) (A : Option Addr) (c : Nat) (L : List TkM), lv = .slice A L.length c ∧ k ≤ s.size ∧ s.size - k < f ∧ L.length ≤ k ∧ Hid (RdTo W1 w.heap.size s k wr) ∧ Hid (wr.ownsRow W1.heap.size 74 3 (.slice A L.length c) L.length (tkv L)) ∧ Hid (∀ x ∈ L, Blk wr 86 x.A (spv x.t.l)) ∧ Hid (R = rawF f (L.map (·.t)) ((dat s).drop k)))
  case atStart => exact ⟨0, none, 0, [], rfl, Nat.zero_le _, by omega, Nat.le_refl _, ⟨HR1.out, Touch.refl _ _⟩, World.ownsRow_nil _ _ _ _, (fun x hx => by cases hx), R0⟩
  case round =>
    obtain ⟨k, A, c, L, rfl, hk, hf, hL, hr, ho, hsp, hq⟩ := hrel
    obtain ⟨f, rfl⟩ : ∃ f, gk = f + 1 := ⟨gk - 1, by omega⟩
    obtain ⟨d0, d1⟩ := hr.out.1.cells
    by_cases hlt : k < s.size
    case neg =>
      have hkk : k = s.size := by omega
      have hki : ¬ (k : Int) < (s.size : Int) := by omega
      have QS : Hid (R = some (L.map (·.t))) := by
        unfold Hid
        rw [hq.out, rawF, hkk, dat_end, if_pos rfl]
      have BB : Hid (Below w.heap.size w wr) := HK1.out.trans (hr.out.2.below (by have := HSZ.out; omega) (fun j hj => by rw [hj]; exact Nat.le_refl _))
      have RT : Hid (RdTks wr A L) := ⟨blk_own ho.out, hsp.out⟩
      go_wp2
      go_ret2
      refine .inr ⟨L, A, c, by rw [← HR.out]; exact QS.out, by omega, ?_, RT.out, BB.out⟩
      have : decide ((0 : Int) < (L.length : Int)) = decide (0 < L.length) := by rw [decide_eq_decide]; omega
      first | rfl | (rw [← this]; rfl)
    have hki : (k : Int) < (s.size : Int) := by omega
    have QS : Hid (R = match tokP ((dat s).drop k) with | none => none | some (t, r') => rawF f (L.map (·.t) ++ [t]) r') := by
      unfold Hid
      rw [hq.out, rawF, if_neg (by rw [dat_drop hlt]; simp)]
    have TA := Lib.hid (token_any wr w.heap.size s k hr.out.1 hk hs)
    clear hq
    go_wp2_with fail
    refine TA.out.mono ?_
    rintro e w2 (⟨q0, mn, nt, A2, m2, c2, k', rfl, hk', hr2⟩ | ⟨t, A2, c2, k', q0, hk1, hk', rfl, ho2, hr2⟩)
    · have QN : Hid (R = none) := by unfold Hid; rw [QS.out, q0]
      have BB : Hid (Below w.heap.size w w2) := HK1.out.trans ((hr.out.trans hr2).2.below (by have := HSZ.out; omega) (fun j hj => by rw [hj]; exact Nat.le_refl _))
      obtain ⟨W3, hW3⟩ : ∃ W, W = w2.alloc (.cells #[.bool mn, .bool nt, .slice A2 m2 c2] 74) := ⟨_, rfl⟩
      have B3 : Hid (Below w.heap.size w W3) := by rw [hW3]; exact BB.out.trans ((Below.refl _ w2).alloc BB.out.size _)
      rw [hW3] at B3
      clear q0 hr2 TA hW3
      go_wp2
      go_ret2
      exact .inl ⟨by rw [← HR.out]; exact QN.out, rfl, B3.out⟩
    · have QT : Hid (R = rawF f (L.map (·.t) ++ [t]) ((dat s).drop k')) := by unfold Hid; rw [QS.out, q0]
      have hrr := hr.out.trans hr2
      have ow2 : w2.ownsRow W1.heap.size 74 3 (.slice A L.length c) L.length (tkv L) := own_touch ho.out hr2.2 (fun j hj e => by have := (ho.out.lt j hj).1; have := HSZ.out; omega)
      have kp2 : Kp 71 wr w2 := Kp.touch hr.out.1 hr2.2
      have sp2 : ∀ x ∈ L ++ [⟨t, A2, c2⟩], Blk w2 86 x.A (spv x.t.l) := fun x hx => by
        rcases List.mem_append.1 hx with hx | hx
        · exact (hsp.out x hx).kp kp2 (by decide)
        · rw [List.mem_singleton] at hx
          subst hx
          exact blk_own ho2
      obtain ⟨W3, hW3⟩ : ∃ W, W = w2.alloc (.cells #[.bool t.many, .bool t.no, .slice A2 t.l.length c2] 74) := ⟨_, rfl⟩
      obtain ⟨W4, hW4⟩ : ∃ W, W = W3.alloc (.cells #[.bool t.many, .bool t.no, .slice A2 t.l.length c2] 74) := ⟨_, rfl⟩
      have K3 : Below w2.heap.size w2 W3 := by rw [hW3]; exact (Below.refl _ w2).alloc (Nat.le_refl _) _
      have K4 : Below W3.heap.size W3 W4 := by rw [hW4]; exact (Below.refl _ W3).alloc (Nat.le_refl _) _
      have K34 : Below w2.heap.size w2 W4 := K3.trans (K4.mono K3.size)
      have R4 := Lib.hid (hrr.below K34)
      have O4 : Hid (W4.ownsRow W1.heap.size 74 3 (.slice A L.length c) L.length (tkv L)) := own_touch ow2 (Touch.of_below K34 : Touch (fun _ => False) w2 W4) (fun _ _ x => x)
      have S4 : Hid (∀ x ∈ L ++ [⟨t, A2, c2⟩], Blk W4 86 x.A (spv x.t.l)) := fun x hx => (sp2 x hx).below K34
      have sz3 : W3.heap.size = w2.heap.size + 1 := by rw [hW3]; simp
      have N4 : Hid (∀ j u, (tkv [⟨t, A2, c2⟩])[j]? = some u → W4.cell? ((⟨w2.heap.size + 1, 0, none⟩ : Addr).add j) = some u) := by
        intro j u hj
        have hb := blk_new W3 (.cells #[.bool t.many, .bool t.no, .slice A2 t.l.length c2] 74)
        rw [← hW4] at hb
        rw [← sz3]
        match j, hj with
        | 0, hj => simp [tkv] at hj; subst hj; rw [show (⟨W3.heap.size, 0, none⟩ : Addr).add 0 = ⟨W3.heap.size, 0, none⟩ from rfl, blk_cell hb]; rfl
        | 1, hj => simp [tkv] at hj; subst hj; rw [show (⟨W3.heap.size, 0, none⟩ : Addr).add 1 = ⟨W3.heap.size, 1, none⟩ from rfl, blk_cell hb]; rfl
        | 2, hj => simp [tkv] at hj; subst hj; rw [show (⟨W3.heap.size, 0, none⟩ : Addr).add 2 = ⟨W3.heap.size, 2, none⟩ from rfl, blk_cell hb]; rfl
        | j + 3, hj => simp [tkv] at hj
      have L4 : Hid (W1.heap.size ≤ W4.heap.size) := by have := hrr.2.size; have := K34.size; unfold Hid; omega
      have HW3 := Lib.hid hW3; have HW4 := Lib.hid hW4
      obtain ⟨tm, htm⟩ : ∃ q, q = t.many := ⟨_, rfl⟩
      obtain ⟨tn, htn⟩ : ∃ q, q = t.no := ⟨_, rfl⟩
      obtain ⟨tl, htl⟩ : ∃ q, q = t.l.length := ⟨_, rfl⟩
      rw [← htm, ← htn, ← htl] at HW3 HW4
      rw [← htm, ← htn, ← htl]
      have HTM := Lib.hid htm; have HTN := Lib.hid htn; have HTL := Lib.hid htl
      have hk1' : k < k' := hk1
      clear q0 hr2 hrr ow2 kp2 sp2 K3 K4 K34 hW3 hW4 sz3 ho ho2 hsp TA QS htm htn htl
      have hLb : L.length ≤ 1000000 := by omega
      go_wp2_with (at_builtin; rw [← HW3.out, ← HW4.out]; refine (wpList_append_own_at _ rfl (.tmp 25) (.tmp 27) 49 rfl W1.heap.size 74 i0 _ 3 32 Tryd.underlying49 hi0 hz0 hz1 hz2 rfl (by decide) (.slice A L.length c) L.length (tkv L) rfl O4.out ⟨w2.heap.size + 1, 0, none⟩ 1 1 (tkv [⟨t, A2, c2⟩]) rfl rfl N4.out (tkv_one _) (by unfold maxLen; omega) (by omega) L4.out ?_))
      intro v6 w6 ho6 hg6 _ _
      rw [← tkv_app] at ho6
      obtain ⟨L6, hL6⟩ : ∃ L6, L6 = L ++ [⟨t, A2, c2⟩] := ⟨_, rfl⟩
      have e6 : L6.length = L.length + 1 := by rw [hL6]; simp
      have S6 : Hid (∀ x ∈ L6, Blk w6 86 x.A (spv x.t.l)) := fun x hx => by
        rw [hL6] at hx
        exact (S4.out x hx).kp (Kp.grown O4.out hg6) (by decide)
      have M6 : Hid (R = rawF f (L6.map (·.t)) ((dat s).drop k')) := by unfold Hid; rw [QT.out, hL6, List.map_append]; rfl
      rw [← hL6, ← e6] at ho6
      obtain ⟨A6, c6, rfl⟩ := own_slice ho6
      have R6 : Hid (RdTo W1 w.heap.size s k' w6) := by
        have hgr : w.heap.size < W1.heap.size := by have := HSZ.out; omega
        refine ⟨(hg6.block _ (lt_block R4.out.1) (fun e => by have := (O4.out.lt _ e.symm).1; omega)).trans R4.out.1, R4.out.2.grown hg6 (fun j e => .inr (O4.out.lt j e).1)⟩
      have O6 := Lib.hid ho6
      have HE6 := Lib.hid e6
      clear ho6 hg6 hL6 e6 O4 S4 N4 R4
      go_wp2
      go_roundg f
      case rel => first | exact ⟨k', A6, c6, L6, by rw [HE6.out], hk', by omega, by have := HE6.out; omega, R6, O6, S6, M6⟩ | ((repeat apply Exists.intro); refine ⟨?_, rfl⟩; exact ⟨k', A6, c6, L6, by rw [HE6.out], hk', by omega, by have := HE6.out; omega, R6, O6, S6, M6⟩)
      case measure => omega
end Go.Proofs.YtmagidkgajmhoaaDoor
