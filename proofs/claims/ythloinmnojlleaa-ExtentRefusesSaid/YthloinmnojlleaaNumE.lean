/- NumE: the walk of Decode (written by gen_dec2.py). -/
import Derived.Test.YthloinmnojlleaaNumD
import Derived.Test.YthloinmnojlleaaReg4
import Derived.Test.YthloinmnojlleaaReg5
set_option linter.unusedVariables false
set_option linter.unusedSimpArgs false
namespace Go.Proofs.Ythloinmnojlleaa
open Go.RowKit

/-- What Decode answers. -/
def DecTo (w : World) (L : List UInt8) (e : Ending) (w' : World) : Prop :=
  (match decA L with
    | some p => ∃ g F, e = .returned (.tuple #[.pointer (some ⟨g, 0, none⟩), .int .i64 0]) ∧ HasAr w' F g ⟨p.1, p.2, 0⟩ ∧ ∀ k, F k → w.heap.size ≤ k
    | none => e = .returned (.tuple #[.pointer none, .int .i64 4])) ∧ Below w.heap.size w w'
def decK (n : Nat) (H : List (Nat × Nat)) (k : Nat) (first : Bool) (e : Nat) (l : List UInt8) : Option (Nat × List (Nat × Nat)) := (decH n k first e l).bind fun z => if z.2 = [] then some (n, H ++ z.1) else none
theorem decK_start {l r : List UInt8} {n k : Nat} (h : get2 l = some (n, k, r)) (hn : ¬ n < 1) : decA l = decK n [] k true 0 r := by
  unfold decA decK
  rw [h]
  simp only
  rw [if_neg hn]
  cases decH n k true 0 r with
  | none => rfl
  | some z => simp
theorem decK_none {n : Nat} {H : List (Nat × Nat)} {k : Nat} {first : Bool} {e : Nat} {l : List UInt8} (h : get2 l = none) : decK n H (k + 1) first e l = none := by
  unfold decK
  rw [decH, h]
  rfl
theorem decK_bad {n : Nat} {H : List (Nat × Nat)} {k : Nat} {first : Bool} {e x y : Nat} {l r : List UInt8} (h : get2 l = some (x, y, r)) (hb : y < 1 ∨ (first = false ∧ x < 1) ∨ n < e + (x + y)) : decK n H (k + 1) first e l = none := by
  unfold decK
  rw [decH, h]
  simp only
  rw [if_pos hb]
  rfl
theorem decK_good {n : Nat} {H : List (Nat × Nat)} {k : Nat} {first : Bool} {e x y : Nat} {l r : List UInt8} (h : get2 l = some (x, y, r)) (hb : ¬ (y < 1 ∨ (first = false ∧ x < 1) ∨ n < e + (x + y))) : decK n H (k + 1) first e l = decK n (H ++ [(e + x, y)]) k false (e + x + y) r := by
  unfold decK
  rw [decH, h]
  simp only
  rw [if_neg hb]
  cases decH n k false (e + x + y) r with
  | none => rfl
  | some z => simp [List.append_assoc]
/-- The boxes of Decode. -/
def st (gb ga gn : Nat) (bs : Value) (q X Y : Nat) : Part := ⟨fun k => k = gb ∨ k = ga ∨ k = gn, fun w => w.heap[gb]? = some (.cells #[bs] 40 (0, 0)) ∧ Cur w ga gn q X Y⟩
theorem st_good {w : World} {gb ga gn : Nat} {bs : Value} {q X Y : Nat} (h : w.heap[gb]? = some (.cells #[bs] 40 (0, 0))) (hc : Cur w ga gn q X Y) : (st gb ga gn bs q X Y).Good w :=
  ⟨⟨h, hc⟩, fun k hk => by
    rcases hk with rfl | rfl | rfl
    · exact blk_lt h
    · exact blk_lt hc.a
    · exact blk_lt hc.n, fun w w' S ⟨h, hc⟩ ht hS => ⟨blk_touch ht h (hS gb (.inl rfl)), hc.keep ht (hS ga (.inr (.inl rfl))) (hS gn (.inr (.inr rfl)))⟩⟩
theorem Mine.stP {w0 w : World} {l1 l2 : List Part} {gb ga gn : Nat} {bs : Value} {q X Y : Nat} (h : Mine w0 w (l1 ++ st gb ga gn bs q X Y :: l2)) : w.heap[gb]? = some (.cells #[bs] 40 (0, 0)) ∧ Cur w ga gn q X Y := (Sep.get (p := st gb ga gn bs q X Y) h.sep).P
theorem Mine.two {w0 w w' : World} {l1 l2 : List Part} {gb ga gn : Nat} {bs : Value} {q X Y q' X' Y' : Nat} (h : Mine w0 w (l1 ++ st gb ga gn bs q X Y :: l2)) (hne : gb ≠ ga ∧ gb ≠ gn) (ht : Touch (fun j => j = ga ∨ j = gn) w w') (hc : Cur w' ga gn q' X' Y') : Mine w0 w' (l1 ++ st gb ga gn bs q' X' Y' :: l2) :=
  h.step (p := st gb ga gn bs q X Y) (p' := st gb ga gn bs q' X' Y') (ht.mono (fun k _ hk => .inr hk)) (fun k hk => .inl hk) (st_good (blk_touch ht h.stP.1 (by rintro (e | e); exact hne.1 e; exact hne.2 e)) hc)
/-- A box of the call's own. -/
def bk (g : Nat) (cs : Array Value) (t : TypeId) : Part := ⟨fun k => k = g, fun w => w.heap[g]? = some (.cells cs t (0, 0))⟩
theorem bk_good {w : World} {g : Nat} {cs : Array Value} {t : TypeId} (h : w.heap[g]? = some (.cells cs t (0, 0))) : (bk g cs t).Good w :=
  ⟨h, fun k hk => by have := lt_of_block h; have e : k = g := hk; omega, fun w w' S h ht hS => blk_touch ht h (hS g rfl)⟩
theorem Mine.bk {w0 w : World} {l1 l2 : List Part} {g : Nat} {cs : Array Value} {t : TypeId} (h : Mine w0 w (l1 ++ bk g cs t :: l2)) : w.heap[g]? = some (.cells cs t (0, 0)) := (Sep.get (p := Go.Proofs.Ythloinmnojlleaa.bk g cs t) h.sep).P
theorem Mine.newBk {w0 w : World} {ps : List Part} (h : Mine w0 w ps) (g : Nat) (hg : g = w.heap.size) (cs : Array Value) (t : TypeId) : Mine w0 (w.alloc (.cells cs t)) (Go.Proofs.Ythloinmnojlleaa.bk g cs t :: ps) := by
  subst hg
  exact h.new ((Below.refl _ w).alloc (Nat.le_refl _) _) (fun k e => Nat.le_of_eq (show w.heap.size = k from (show k = w.heap.size from e).symm)) (bk_good (blk_new w _))
/-- A hole put behind. -/
theorem ar_push {w w' : World} {F : Nat → Prop} {g : Nat} {a : Ar} {v v' : Value} {L : List (Nat × Nat)} (h : IsAr w F g a v) (hg : w.grownBy w' v.ownBlock) (ho : w'.ownsRow 0 30 2 v' L.length (sp L)) (hat : v'.ownBlock = v.ownBlock ∨ v'.ownBlock = some w.heap.size) (hok : Ar.Ok { a with holes := L }) :
    ∃ F', IsAr (w'.setCell ⟨g, 1, none⟩ v') F' g { a with holes := L } v' ∧ (∀ k, F' k → F k ∨ w.heap.size ≤ k) ∧ Touch F w (w'.setCell ⟨g, 1, none⟩ v') := by
  have hne := own_ne_blk h.own h.blk (by decide)
  have hb' := blk_grown hg h.blk hne
  have hne' := own_ne_blk ho hb' (by decide)
  have ht : Touch (fun k => k = g) w' (w'.setCell ⟨g, 1, none⟩ v') := Touch.setCell (S := fun k => k = g) (Touch.refl _ w') (p := ⟨g, 1, none⟩) (.inl rfl) v'
  have hown := own_touch ho ht (fun k hk e => by subst e; exact hne' hk)
  refine ⟨fun k => k = g ∨ v'.ownBlock = some k, ⟨?_, hown, .inl rfl, fun k hk => .inr hk, fun k hk => ?_, hok⟩, fun k hk => ?_, ?_⟩
  · rw [blk_set hb' 1 v']
    rfl
  · rcases hk with rfl | hk
    · exact Nat.lt_of_lt_of_le (blk_lt hb') ht.size
    · exact (hown.lt k hk).2
  · rcases hk with rfl | hk
    · exact .inl h.fg
    · rcases hat with e | e
      · exact .inl (h.fv k (by rw [← e]; exact hk))
      · rw [e] at hk
        injection hk with hk
        exact .inr (by omega)
  · have t1 : Touch F w w' := (Touch.refl F w).grown hg (fun k e => .inl (h.fv k e))
    exact t1.setCell (p := ⟨g, 1, none⟩) (.inl h.fg) v'
theorem push_ok {n e x y : Nat} {H : List (Nat × Nat)} (hn : 1 ≤ n) (hm : n ≤ 1048576) (hl : Lies n 0 H) (hH : ∀ h ∈ H, h.1 + h.2 ≤ e) (hy : 1 ≤ y) (hx : H = [] ∨ 1 ≤ x) (hb : e + (x + y) ≤ n) : Ar.Ok ⟨n, H ++ [(e + x, y)], 0⟩ ∧ ∀ h ∈ H ++ [(e + x, y)], h.1 + h.2 ≤ e + x + y := by
  refine ⟨⟨hn, hm, ?_, Nat.zero_le _⟩, fun h hh => ?_⟩
  · rcases hx with rfl | hx
    · exact ⟨Nat.zero_le _, hy, by simp only; omega, trivial⟩
    · exact lies_app (lo' := e + 1) hl (fun h hh => by have := hH h hh; omega) (Nat.zero_le _) ⟨by simp only; omega, hy, by simp only; omega, trivial⟩
  · rcases List.mem_append.1 hh with hh | hh
    · have := hH h hh; omega
    · simp only [List.mem_singleton] at hh
      subst hh
      simp only
      omega

theorem not_bad {n e x y i : Nat} {H : List (Nat × Nat)} (h1 : 1 ≤ y) (h2 : H = [] ∨ 1 ≤ x) (h3 : e + (x + y) ≤ n) (hi : i = 0 ↔ H = []) : ¬ (y < 1 ∨ (decide (i = 0) = false ∧ x < 1) ∨ n < e + (x + y)) := by
  rintro (h | ⟨h, h'⟩ | h)
  · omega
  · rcases h2 with h0 | h0
    · rw [hi.2 h0] at h
      simp at h
    · omega
  · omega
set_option maxHeartbeats 6400000 in
set_option maxRecDepth 100000 in
theorem decode_any (w : World) (vb : Value) (L : List UInt8) (hr : RdB w vb L) (hl : L.length ≤ 65536) :
    Calls Try.prog 16 #[vb] w fun e w' => DecTo w L e w' := by
  have HR := Lib.hid hr
  obtain ⟨A, c, rfl⟩ := hr.slice
  clear hr
  have dl : decide (65536 < L.length) = false := by simp; omega
  obtain ⟨gb, hgb⟩ : ∃ gb, gb = w.heap.size := ⟨_, rfl⟩
  obtain ⟨gn, hgn⟩ : ∃ gn, gn = w.heap.size + 1 := ⟨_, rfl⟩
  obtain ⟨ga, hga⟩ : ∃ ga, ga = w.heap.size + 1 + 1 := ⟨_, rfl⟩
  have HW : Hid (Mine w (((w.alloc (.cells #[.slice A L.length c] 40)).alloc (.cells #[.int .u64 (0 : Nat), .int .u64 (0 : Nat)] 74)).alloc (.cells #[.int .i64 (0 : Nat)] 3)) [st gb ga gn (.slice A L.length c) 0 0 0]) := by
    subst hgb hgn hga
    have b1 := (Below.refl _ w).alloc (Nat.le_refl _) (.cells #[.slice A L.length c] 40)
    have b2 := b1.alloc b1.size (.cells #[.int .u64 (0 : Nat), .int .u64 (0 : Nat)] 74)
    have b3 := b2.alloc b2.size (.cells #[.int .i64 (0 : Nat)] 3)
    refine (Mine.start w).new (p := st w.heap.size (w.heap.size + 1 + 1) (w.heap.size + 1) (.slice A L.length c) 0 0 0) b3 (fun k hk => by rcases hk with rfl | rfl | rfl <;> omega) (st_good ?_ ⟨?_, ?_⟩)
    · exact blk_alloc (blk_alloc (blk_new w _) _) _
    · have := blk_new ((w.alloc (.cells #[.slice A L.length c] 40)).alloc (.cells #[.int .u64 (0 : Nat), .int .u64 (0 : Nat)] 74)) (.cells #[.int .i64 (0 : Nat)] 3)
      rw [World.size_alloc, World.size_alloc] at this
      exact this
    · have := blk_new (w.alloc (.cells #[.slice A L.length c] 40)) (.cells #[.int .u64 (0 : Nat), .int .u64 (0 : Nat)] 74)
      rw [World.size_alloc] at this
      exact blk_alloc this _
  have HNE : Hid ((ga ≠ gn ∧ gb ≠ ga ∧ gb ≠ gn) ∧ w.heap.size ≤ ga ∧ w.heap.size ≤ gn) := by subst hgb hgn hga; exact ⟨⟨by omega, by omega, by omega⟩, by omega, by omega⟩
  have TW := Lib.hid (two_any w _ gb ga gn (.slice A L.length c) L 0 0 0 (HW.out.stP (l1 := [])).1 (HW.out.stP (l1 := [])).2 HNE.out.1.1 HNE.out.1.2.1 HNE.out.1.2.2 HR.out HW.out.bel HNE.out.2.1 HNE.out.2.2 (Nat.zero_le _) (by omega))
  have HGB := Lib.hid hgb
  have HGN := Lib.hid hgn
  have HGA := Lib.hid hga
  go_enter Try.func16, Try.ntmps16
  go_wp2_with fail
  rw [← hga, ← hgn, ← hgb]
  refine TW.out.mono ?_
  clear TW
  rintro e w1 ⟨ht, hto⟩
  simp only [List.drop_zero] at ht
  clear hgb hgn hga
  cases hg : get2 L with
  | none =>
    rw [hg] at ht
    subst ht
    have BF : Hid (Below w.heap.size w w1) := HW.out.bel.trans (hto.below HW.out.bel.size (fun j hj => by have := HNE.out; rcases hj with rfl | rfl <;> omega))
    have HN : Hid (decA L = none) := by unfold Hid decA; rw [hg]
    clear HW hto hg
    go_wp2
    go_ret2
    refine ⟨?_, BF.out⟩
    rw [HN.out]
    rfl
  | some p =>
    obtain ⟨n, cnt, r⟩ := p
    rw [hg] at ht
    simp only at ht
    obtain ⟨rfl, q, hq, hqr, hc⟩ := ht
    have M1 : Hid (Mine w w1 [st gb ga gn (.slice A L.length c) q n cnt]) := HW.out.two (l1 := []) HNE.out.1.2 hto hc
    have HG := Lib.hid hg
    have HQR := Lib.hid hqr
    obtain ⟨hn20, hc20⟩ := (put_get2 hg).2
    clear HW hto hg hqr hc
    have n0 := blk_cell (M1.out.stP (l1 := [])).2.n 0; have n1 := blk_cell (M1.out.stP (l1 := [])).2.n 1
    simp only [List.getElem?_toArray, List.getElem?_cons_zero, List.getElem?_cons_succ] at n0 n1
    by_cases hn1 : n < 1
    · have dn : decide (n < 1) = true := by simpa using hn1
      have dn' : decide ((n : Int) < 1) = true := by simp; omega
      have HN : Hid (decA L = none) := by unfold Hid decA; rw [HG.out]; simp only; rw [if_pos hn1]
      have HNN := Lib.hid hn1
      clear hn1
      go_wp2
      go_ret2
      refine ⟨?_, M1.out.bel⟩
      rw [HN.out]
      rfl
    · have dn : decide (n < 1) = false := by simpa using hn1
      have dn' : decide ((n : Int) < 1) = false := by simp; omega
      have hw1 : IntKind.i64.wrap (n : Int) = (n : Int) := by rw [IntKind.wrap_i64]; omega
      have hw2 : IntKind.i64.wrap (cnt : Int) = (cnt : Int) := by rw [IntKind.wrap_i64]; omega
      have hnp : 1 ≤ n := by omega
      have INV : Hid (decA L = decK n [] cnt true 0 (L.drop q)) := by unfold Hid; rw [HQR.out]; exact decK_start HG.out hn1
      clear hn1
      obtain ⟨g, hgg⟩ : ∃ g, g = w1.heap.size := ⟨_, rfl⟩
      have M2 : Hid (Mine w (w1.alloc (.cells #[.int .i64 (n : Nat), .slice none 0 0, .int .i64 0] 65)) [ar (fun k => k = g) g ⟨n, [], 0⟩, st gb ga gn (.slice A L.length c) q n cnt]) := by
        refine M1.out.newAr (F := fun k => k = g) (g := g) ((Below.refl _ w1).alloc (Nat.le_refl _) _) ⟨.slice none 0 0, ⟨by subst hgg; exact blk_new w1 _, World.ownsRow_nil _ _ _ _, rfl, fun k hk => by simp [Value.ownBlock] at hk, fun k hk => by have e : k = g := hk; rw [World.size_alloc]; omega, ⟨hnp, hn20, trivial, Nat.zero_le _⟩⟩⟩ (fun k hk => by have e : k = g := hk; omega)
      have n0' := cell_below ((Below.refl _ w1).alloc (Nat.le_refl _) (.cells #[.int .i64 (n : Nat), .slice none 0 0, .int .i64 0] 65)) n0
      have n1' := cell_below ((Below.refl _ w1).alloc (Nat.le_refl _) (.cells #[.int .i64 (n : Nat), .slice none 0 0, .int .i64 0] 65)) n1
      have gl := blk_lt (M1.out.stP (l1 := [])).2.n
      clear M1
      have HGG := Lib.hid hgg
      clear hgg
      go_wp2_with fail
      have hgg := HGG.out
      simp only [← hgg]
      clear hgg
      clear n0 n1 n0' n1'
      go_loopw [8, 31] (fun ee ii wr => ∃ (i e q X Y : Nat) (H : List (Nat × Nat)) (F : Nat → Prop), ii = .int .i64 i ∧ ee = .int .i64 e ∧ i ≤ cnt ∧ e ≤ n ∧ q ≤ L.length ∧ Hid (Mine w wr [ar F g ⟨n, H, 0⟩, st gb ga gn (.slice A L.length c) q X Y]) ∧ Hid (decA L = decK n H (cnt - i) (decide (i = 0)) e (L.drop q)) ∧ Hid (Lies n 0 H ∧ (∀ h ∈ H, h.1 + h.2 ≤ e) ∧ (i = 0 ↔ H = []) ∧ H.length = i)) (fun _ ii _ => cnt - (intOf ii).toNat)
      case atStart => exact ⟨0, 0, q, n, cnt, [], _, rfl, rfl, Nat.zero_le _, Nat.zero_le _, hq, M2, INV, trivial, (fun h hh => by simp at hh), by simp, rfl⟩
      case round =>
        obtain ⟨i, e, q, X, Y, H, F, rfl, rfl, hi, he, hq, MM, HD, HH⟩ := hrel
        clear M2 INV HG HQR
        by_cases hlt : i < cnt
        · have HI : Hid (cnt - i = (cnt - (i + 1)) + 1 ∧ i + 1 ≤ cnt) := ⟨by omega, by omega⟩
          have TW := Lib.hid (two_any w wr.drew gb ga gn (.slice A L.length c) L q X Y (MM.out.drew.stP (l1 := [_])).1 (MM.out.drew.stP (l1 := [_])).2 HNE.out.1.1 HNE.out.1.2.1 HNE.out.1.2.2 HR.out MM.out.drew.bel HNE.out.2.1 HNE.out.2.2 hq (by omega))
          cases hg : get2 (L.drop q) with
          | none =>
            have HN : Hid (decA L = none) := by unfold Hid; rw [HD.out, HI.out.1]; exact decK_none hg
            have HG := Lib.hid hg
            clear hg
            go_wp2_with fail
            refine wp_region_flag2 (fun _ => True) (fun _ => True) [(0, 1), (1, 0)] [(2, 1), (3, 1), (4, 1), (5, 0), (6, 1), (7, 1), (8, 1), (9, 1), (10, 1), (11, 1), (12, 1), (13, 0), (14, 1), (15, 1), (16, 1), (17, 1), (18, 1), (20, 1), (24, 1), (25, 1), (26, 1), (28, 1), (19, 2), (21, 2), (22, 1), (23, 1), (27, 0), (29, 1), (30, 1), (31, 1)] (by kernel_rfl) (by kernel_rfl) (fun _ _ => trivial) trivial ?_
            simp only [ordered, List.map_cons, List.map_nil, List.getD_cons_zero, List.getD_cons_succ]
            repeat (refine wpF_dry (fun K hK => ?_); go_simp; refine hK _ ?_; clear hK K)
            refine wpF_do ?_
            go_wp2_with fail
            refine TW.out.mono ?_
            rintro e2 w2 ⟨ht, hto⟩
            rw [HG.out] at ht
            subst ht
            have BF : Hid (Below w.heap.size w w2) := MM.out.drew.bel.trans (hto.below MM.out.drew.bel.size (fun j hj => by have := HNE.out; rcases hj with rfl | rfl <;> omega))
            clear TW hto
            go_wp2_with fail
            refine ⟨trivial, ?_⟩
            refine wpF_nil ?_
            refine next2 trivial ?_
            simp only [ordered, List.map_cons, List.map_nil, List.getD_cons_zero, List.getD_cons_succ]
            repeat (refine wpF_dry (fun K hK => ?_); go_simp; refine hK _ ?_; clear hK K)
            refine wpF_do ?_
            go_wp2_with fail
            refine ⟨trivial, ?_⟩
            repeat (refine wpF_dry (fun K hK => ?_); go_simp; refine hK _ ?_; clear hK K)
            refine wpF_do ?_
            go_wp2_with fail
            refine ⟨trivial, ?_⟩
            repeat (refine wpF_dry (fun K hK => ?_); go_simp; refine hK _ ?_; clear hK K)
            refine wpF_skip (fun K hK => ?_)
            go_simp
            first | refine hK _ ?_ | refine ⟨(fun hh => by cases hh), hK _ ?_⟩
            clear hK K
            refine wpF_skip (fun K hK => ?_)
            go_simp
            first | refine hK _ ?_ | refine ⟨(fun hh => by cases hh), hK _ ?_⟩
            clear hK K
            repeat (refine wpF_dry (fun K hK => ?_); go_simp; refine hK _ ?_; clear hK K)
            refine wpF_do ?_
            go_wp2_with fail
            refine ⟨trivial, ?_⟩
            repeat (refine wpF_dry (fun K hK => ?_); go_simp; refine hK _ ?_; clear hK K)
            refine wpF_nil ?_
            go_wp2
            go_ret2
            refine ⟨?_, BF.out⟩
            rw [HN.out]
            rfl
          | some p =>
            obtain ⟨x, y, r⟩ := p
            obtain ⟨hx20, hy20⟩ := (put_get2 hg).2
            have HG := Lib.hid hg
            clear hg
            obtain ⟨s, hs⟩ : ∃ s, s = x + y := ⟨_, rfl⟩
            have hs1 : (x : Int) + (y : Int) = (s : Int) := by omega
            have hs2 : IntKind.u64.wrap (s : Int) = (s : Int) := by rw [IntKind.wrap_u64]; omega
            have hs3 : IntKind.i64.wrap (s : Int) = (s : Int) := by rw [IntKind.wrap_i64]; omega
            have hs4 : (s : Int) % 18446744073709551616 = (s : Int) := by omega
            obtain ⟨t, ht⟩ : ∃ t, t = n - e := ⟨_, rfl⟩
            have ht1 : (n : Int) - (e : Int) = (t : Int) := by omega
            have ht2 : IntKind.i64.wrap (t : Int) = (t : Int) := by rw [IntKind.wrap_i64]; omega
            have HS := Lib.hid hs
            have HT := Lib.hid ht
            clear hs ht
            have HBAD : Hid ((y < 1 ∨ (decide (i = 0) = false ∧ x < 1) ∨ n < e + (x + y)) → decA L = none) := fun hb => by rw [HD.out, HI.out.1]; exact decK_bad HG.out hb
            by_cases hy : y < 1
            · have d1 : decide (y < 1) = true := by simpa using hy
              have d1' : decide ((y : Int) < 1) = true := by simp; omega
              have HN : Hid (decA L = none) := HBAD.out (.inl hy)
              clear hy
              go_wp2_with fail
              refine wp_region_flag2 (fun _ => True) (fun w' => w'.cell? ⟨gn, 0, none⟩ = some (.int .u64 (x : Nat)) ∧ w'.cell? ⟨gn, 1, none⟩ = some (.int .u64 (y : Nat)) ∧ w'.cell? ⟨g, 0, none⟩ = some (.int .i64 (n : Nat))) [(0, 1), (1, 0)] [(2, 1), (3, 1), (4, 1), (5, 0), (6, 1), (7, 1), (8, 1), (9, 1), (10, 1), (11, 1), (12, 1), (13, 0), (14, 1), (15, 1), (16, 1), (17, 1), (18, 1), (20, 1), (24, 1), (25, 1), (26, 1), (28, 1), (19, 2), (21, 2), (22, 1), (23, 1), (27, 0), (29, 1), (30, 1), (31, 1)] (by kernel_rfl) (by kernel_rfl) (fun _ _ => trivial) trivial ?_
              simp only [ordered, List.map_cons, List.map_nil, List.getD_cons_zero, List.getD_cons_succ]
              repeat (refine wpF_dry (fun K hK => ?_); go_simp; refine hK _ ?_; clear hK K)
              refine wpF_do ?_
              go_wp2_with fail
              refine TW.out.mono ?_
              rintro e2 w2 ⟨ht, hto⟩
              rw [HG.out] at ht
              simp only at ht
              obtain ⟨rfl, q2, hq2, hqr2, hc2⟩ := ht
              have M3 : Hid (Mine w w2 [ar F g ⟨n, H, 0⟩, st gb ga gn (.slice A L.length c) q2 x y]) := MM.out.drew.two (l1 := [_]) HNE.out.1.2 hto hc2
              have HQ2 := Lib.hid hqr2
              have n0 := blk_cell hc2.n 0; have n1 := blk_cell hc2.n 1
              simp only [List.getElem?_toArray, List.getElem?_cons_zero, List.getElem?_cons_succ] at n0 n1
              obtain ⟨va, ha⟩ := M3.out.area (l1 := [])
              obtain ⟨c0, c1, _⟩ := ha.cells
              have HA := Lib.hid ha
              have N0 := Lib.hid n0; have N1 := Lib.hid n1
              clear TW hto hqr2 hc2 ha MM c1
              go_wp2_with fail
              refine ⟨trivial, ?_⟩
              refine wpF_nil ?_
              refine next2 ⟨n0, n1, c0⟩ ?_
              simp only [ordered, List.map_cons, List.map_nil, List.getD_cons_zero, List.getD_cons_succ]
              repeat (refine wpF_dry (fun K hK => ?_); go_simp; refine hK _ ?_; clear hK K)
              refine wpF_do ?_
              go_wp2_with fail
              refine ⟨⟨n0, n1, c0⟩, ?_⟩
              repeat (refine wpF_dry (fun K hK => ?_); go_simp; refine hK _ ?_; clear hK K)
              refine wpF_do ?_
              go_wp2_with fail
              refine ⟨⟨n0, n1, c0⟩, ?_⟩
              repeat (refine wpF_dry (fun K hK => ?_); go_simp; refine hK _ ?_; clear hK K)
              refine wpF_skip (fun K hK => ?_)
              go_simp
              first | refine hK _ ?_ | refine ⟨(fun hh => by cases hh), hK _ ?_⟩
              clear hK K
              refine wpF_skip (fun K hK => ?_)
              go_simp
              first | refine hK _ ?_ | refine ⟨(fun hh => by cases hh), hK _ ?_⟩
              clear hK K
              repeat (refine wpF_dry (fun K hK => ?_); go_simp; refine hK _ ?_; clear hK K)
              refine wpF_do ?_
              go_wp2_with fail
              refine ⟨⟨n0, n1, c0⟩, ?_⟩
              repeat (refine wpF_dry (fun K hK => ?_); go_simp; refine hK _ ?_; clear hK K)
              refine wpF_nil ?_
              go_wp2
              go_ret2
              refine ⟨?_, M3.out.bel⟩
              rw [HN.out]
              rfl
            · by_cases hb : 0 < i ∧ x < 1
              · have d1 : decide (y < 1) = false := by simpa using hy
                have d1' : decide ((y : Int) < 1) = false := by simp; omega
                have d2 : decide (0 < i) = true := by simp; omega
                have d2' : decide (0 < (i : Int)) = true := by simp; omega
                have d3 : decide (x < 1) = true := by simp; omega
                have d3' : decide ((x : Int) < 1) = true := by simp; omega
                have HN : Hid (decA L = none) := HBAD.out (.inr (.inl ⟨by simp; omega, by omega⟩))
                clear hy hb
                go_wp2_with fail
                refine wp_region_flag2 (fun _ => True) (fun w' => w'.cell? ⟨gn, 0, none⟩ = some (.int .u64 (x : Nat)) ∧ w'.cell? ⟨gn, 1, none⟩ = some (.int .u64 (y : Nat)) ∧ w'.cell? ⟨g, 0, none⟩ = some (.int .i64 (n : Nat))) [(0, 1), (1, 0)] [(2, 1), (3, 1), (4, 1), (5, 0), (6, 1), (7, 1), (8, 1), (9, 1), (10, 1), (11, 1), (12, 1), (13, 0), (14, 1), (15, 1), (16, 1), (17, 1), (18, 1), (20, 1), (24, 1), (25, 1), (26, 1), (28, 1), (19, 2), (21, 2), (22, 1), (23, 1), (27, 0), (29, 1), (30, 1), (31, 1)] (by kernel_rfl) (by kernel_rfl) (fun _ _ => trivial) trivial ?_
                simp only [ordered, List.map_cons, List.map_nil, List.getD_cons_zero, List.getD_cons_succ]
                repeat (refine wpF_dry (fun K hK => ?_); go_simp; refine hK _ ?_; clear hK K)
                refine wpF_do ?_
                go_wp2_with fail
                refine TW.out.mono ?_
                rintro e2 w2 ⟨ht, hto⟩
                rw [HG.out] at ht
                simp only at ht
                obtain ⟨rfl, q2, hq2, hqr2, hc2⟩ := ht
                have M3 : Hid (Mine w w2 [ar F g ⟨n, H, 0⟩, st gb ga gn (.slice A L.length c) q2 x y]) := MM.out.drew.two (l1 := [_]) HNE.out.1.2 hto hc2
                have HQ2 := Lib.hid hqr2
                have n0 := blk_cell hc2.n 0; have n1 := blk_cell hc2.n 1
                simp only [List.getElem?_toArray, List.getElem?_cons_zero, List.getElem?_cons_succ] at n0 n1
                obtain ⟨va, ha⟩ := M3.out.area (l1 := [])
                obtain ⟨c0, c1, _⟩ := ha.cells
                have HA := Lib.hid ha
                have N0 := Lib.hid n0; have N1 := Lib.hid n1
                clear TW hto hqr2 hc2 ha MM c1
                go_wp2_with fail
                refine ⟨trivial, ?_⟩
                refine wpF_nil ?_
                refine next2 ⟨n0, n1, c0⟩ ?_
                simp only [ordered, List.map_cons, List.map_nil, List.getD_cons_zero, List.getD_cons_succ]
                repeat (refine wpF_dry (fun K hK => ?_); go_simp; refine hK _ ?_; clear hK K)
                refine wpF_do ?_
                go_wp2_with fail
                refine ⟨⟨n0, n1, c0⟩, ?_⟩
                repeat (refine wpF_dry (fun K hK => ?_); go_simp; refine hK _ ?_; clear hK K)
                refine wpF_do ?_
                go_wp2_with fail
                refine ⟨⟨n0, n1, c0⟩, ?_⟩
                repeat (refine wpF_dry (fun K hK => ?_); go_simp; refine hK _ ?_; clear hK K)
                refine wpF_skip (fun K hK => ?_)
                go_simp
                first | refine hK _ ?_ | refine ⟨(fun hh => by cases hh), hK _ ?_⟩
                clear hK K
                refine wpF_skip (fun K hK => ?_)
                go_simp
                first | refine hK _ ?_ | refine ⟨(fun hh => by cases hh), hK _ ?_⟩
                clear hK K
                repeat (refine wpF_dry (fun K hK => ?_); go_simp; refine hK _ ?_; clear hK K)
                refine wpF_do ?_
                go_wp2_with fail
                refine ⟨⟨n0, n1, c0⟩, ?_⟩
                repeat (refine wpF_dry (fun K hK => ?_); go_simp; refine hK _ ?_; clear hK K)
                refine wpF_nil ?_
                go_wp2
                go_ret2
                refine ⟨?_, M3.out.bel⟩
                rw [HN.out]
                rfl
              · have hb' : H = [] ∨ 1 ≤ x := by
                  rcases Nat.eq_zero_or_pos i with h0 | h0
                  · exact .inl (HH.out.2.2.1.1 h0)
                  · exact .inr (by omega)
                by_cases hi0 : 0 < i
                · by_cases hts : t < s
                  · have d1 : decide (y < 1) = false := by simpa using hy
                    have d1' : decide ((y : Int) < 1) = false := by simp; omega
                    have d2 : decide (0 < i) = true := by simp; omega
                    have d2' : decide (0 < (i : Int)) = true := by simp; omega
                    have d3 : decide (x < 1) = false := by simp; omega
                    have d3' : decide ((x : Int) < 1) = false := by simp; omega
                    have d4 : decide (t < s) = true := by have := HS.out; have := HT.out; simp; omega
                    have HN : Hid (decA L = none) := HBAD.out (.inr (.inr (by have := HS.out; have := HT.out; omega)))
                    clear hy hb hts
                    go_wp2_with fail
                    refine wp_region_flag2 (fun _ => True) (fun w' => w'.cell? ⟨gn, 0, none⟩ = some (.int .u64 (x : Nat)) ∧ w'.cell? ⟨gn, 1, none⟩ = some (.int .u64 (y : Nat)) ∧ w'.cell? ⟨g, 0, none⟩ = some (.int .i64 (n : Nat))) [(0, 1), (1, 0)] [(2, 1), (3, 1), (4, 1), (5, 0), (6, 1), (7, 1), (8, 1), (9, 1), (10, 1), (11, 1), (12, 1), (13, 0), (14, 1), (15, 1), (16, 1), (17, 1), (18, 1), (20, 1), (24, 1), (25, 1), (26, 1), (28, 1), (19, 2), (21, 2), (22, 1), (23, 1), (27, 0), (29, 1), (30, 1), (31, 1)] (by kernel_rfl) (by kernel_rfl) (fun _ _ => trivial) trivial ?_
                    simp only [ordered, List.map_cons, List.map_nil, List.getD_cons_zero, List.getD_cons_succ]
                    repeat (refine wpF_dry (fun K hK => ?_); go_simp; refine hK _ ?_; clear hK K)
                    refine wpF_do ?_
                    go_wp2_with fail
                    refine TW.out.mono ?_
                    rintro e2 w2 ⟨ht, hto⟩
                    rw [HG.out] at ht
                    simp only at ht
                    obtain ⟨rfl, q2, hq2, hqr2, hc2⟩ := ht
                    have M3 : Hid (Mine w w2 [ar F g ⟨n, H, 0⟩, st gb ga gn (.slice A L.length c) q2 x y]) := MM.out.drew.two (l1 := [_]) HNE.out.1.2 hto hc2
                    have HQ2 := Lib.hid hqr2
                    have n0 := blk_cell hc2.n 0; have n1 := blk_cell hc2.n 1
                    simp only [List.getElem?_toArray, List.getElem?_cons_zero, List.getElem?_cons_succ] at n0 n1
                    obtain ⟨va, ha⟩ := M3.out.area (l1 := [])
                    obtain ⟨c0, c1, _⟩ := ha.cells
                    have HA := Lib.hid ha
                    have N0 := Lib.hid n0; have N1 := Lib.hid n1
                    clear TW hto hqr2 hc2 ha MM c1
                    go_wp2_with fail
                    refine ⟨trivial, ?_⟩
                    refine wpF_nil ?_
                    refine next2 ⟨n0, n1, c0⟩ ?_
                    simp only [ordered, List.map_cons, List.map_nil, List.getD_cons_zero, List.getD_cons_succ]
                    repeat (refine wpF_dry (fun K hK => ?_); go_simp; refine hK _ ?_; clear hK K)
                    refine wpF_do ?_
                    go_wp2_with fail
                    refine ⟨⟨n0, n1, c0⟩, ?_⟩
                    repeat (refine wpF_dry (fun K hK => ?_); go_simp; refine hK _ ?_; clear hK K)
                    refine wpF_do ?_
                    go_wp2_with fail
                    refine ⟨⟨n0, n1, c0⟩, ?_⟩
                    repeat (refine wpF_dry (fun K hK => ?_); go_simp; refine hK _ ?_; clear hK K)
                    refine wpF_read (.int .u64 (x : Nat)) rfl (fun w' hS => by obtain ⟨s1, s2, s3⟩ := hS; go_simp) (fun K hK => ?_)
                    go_simp
                    refine hK _ ?_
                    clear hK K
                    refine wpF_read (.int .u64 (y : Nat)) rfl (fun w' hS => by obtain ⟨s1, s2, s3⟩ := hS; go_simp) (fun K hK => ?_)
                    go_simp
                    refine hK _ ?_
                    clear hK K
                    repeat (refine wpF_dry (fun K hK => ?_); go_simp; refine hK _ ?_; clear hK K)
                    refine wpF_do ?_
                    go_wp2_with fail
                    refine ⟨⟨n0, n1, c0⟩, ?_⟩
                    repeat (refine wpF_dry (fun K hK => ?_); go_simp; refine hK _ ?_; clear hK K)
                    refine wpF_nil ?_
                    go_wp2
                    go_ret2
                    refine ⟨?_, M3.out.bel⟩
                    rw [HN.out]
                    rfl
                  · have d1 : decide (y < 1) = false := by simpa using hy
                    have d1' : decide ((y : Int) < 1) = false := by simp; omega
                    have d2 : decide (0 < i) = true := by simp; omega
                    have d2' : decide (0 < (i : Int)) = true := by simp; omega
                    have d3 : decide (x < 1) = false := by simp; omega
                    have d3' : decide ((x : Int) < 1) = false := by simp; omega
                    have d4 : decide (t < s) = false := by simp; omega
                    have HOKB : Hid (1 ≤ y ∧ (H = [] ∨ 1 ≤ x) ∧ e + (x + y) ≤ n) := ⟨by omega, hb', by have := HS.out; have := HT.out; omega⟩
                    have hw3 : IntKind.i64.wrap (x : Int) = (x : Int) := by rw [IntKind.wrap_i64]; omega
                    have hw4 : IntKind.i64.wrap (y : Int) = (y : Int) := by rw [IntKind.wrap_i64]; omega
                    obtain ⟨f, hf⟩ : ∃ f, f = e + x := ⟨_, rfl⟩
                    have hf1 : (e : Int) + (x : Int) = (f : Int) := by omega
                    have hf2 : IntKind.i64.wrap (f : Int) = (f : Int) := by rw [IntKind.wrap_i64]; omega
                    have HF := Lib.hid hf
                    clear hf hy hb hb' hts
                    go_wp2_with fail
                    refine wp_region_flag2 (fun _ => True) (fun w' => w'.cell? ⟨gn, 0, none⟩ = some (.int .u64 (x : Nat)) ∧ w'.cell? ⟨gn, 1, none⟩ = some (.int .u64 (y : Nat)) ∧ w'.cell? ⟨g, 0, none⟩ = some (.int .i64 (n : Nat))) [(0, 1), (1, 0)] [(2, 1), (3, 1), (4, 1), (5, 0), (6, 1), (7, 1), (8, 1), (9, 1), (10, 1), (11, 1), (12, 1), (13, 0), (14, 1), (15, 1), (16, 1), (17, 1), (18, 1), (20, 1), (24, 1), (25, 1), (26, 1), (28, 1), (19, 2), (21, 2), (22, 1), (23, 1), (27, 0), (29, 1), (30, 1), (31, 1)] (by kernel_rfl) (by kernel_rfl) (fun _ _ => trivial) trivial ?_
                    simp only [ordered, List.map_cons, List.map_nil, List.getD_cons_zero, List.getD_cons_succ]
                    repeat (refine wpF_dry (fun K hK => ?_); go_simp; refine hK _ ?_; clear hK K)
                    refine wpF_do ?_
                    go_wp2_with fail
                    refine TW.out.mono ?_
                    rintro e2 w2 ⟨ht, hto⟩
                    rw [HG.out] at ht
                    simp only at ht
                    obtain ⟨rfl, q2, hq2, hqr2, hc2⟩ := ht
                    have M3 : Hid (Mine w w2 [ar F g ⟨n, H, 0⟩, st gb ga gn (.slice A L.length c) q2 x y]) := MM.out.drew.two (l1 := [_]) HNE.out.1.2 hto hc2
                    have HQ2 := Lib.hid hqr2
                    have n0 := blk_cell hc2.n 0; have n1 := blk_cell hc2.n 1
                    simp only [List.getElem?_toArray, List.getElem?_cons_zero, List.getElem?_cons_succ] at n0 n1
                    obtain ⟨va, ha⟩ := M3.out.area (l1 := [])
                    obtain ⟨c0, c1, _⟩ := ha.cells
                    have HA := Lib.hid ha
                    have N0 := Lib.hid n0; have N1 := Lib.hid n1
                    clear TW hto hqr2 hc2 ha MM c1
                    go_wp2_with fail
                    refine ⟨trivial, ?_⟩
                    refine wpF_nil ?_
                    refine next2 ⟨n0, n1, c0⟩ ?_
                    simp only [ordered, List.map_cons, List.map_nil, List.getD_cons_zero, List.getD_cons_succ]
                    repeat (refine wpF_dry (fun K hK => ?_); go_simp; refine hK _ ?_; clear hK K)
                    refine wpF_do ?_
                    go_wp2_with fail
                    refine ⟨⟨n0, n1, c0⟩, ?_⟩
                    repeat (refine wpF_dry (fun K hK => ?_); go_simp; refine hK _ ?_; clear hK K)
                    refine wpF_do ?_
                    go_wp2_with fail
                    refine ⟨⟨n0, n1, c0⟩, ?_⟩
                    repeat (refine wpF_dry (fun K hK => ?_); go_simp; refine hK _ ?_; clear hK K)
                    refine wpF_read (.int .u64 (x : Nat)) rfl (fun w' hS => by obtain ⟨s1, s2, s3⟩ := hS; go_simp) (fun K hK => ?_)
                    go_simp
                    refine hK _ ?_
                    clear hK K
                    refine wpF_read (.int .u64 (y : Nat)) rfl (fun w' hS => by obtain ⟨s1, s2, s3⟩ := hS; go_simp) (fun K hK => ?_)
                    go_simp
                    refine hK _ ?_
                    clear hK K
                    repeat (refine wpF_dry (fun K hK => ?_); go_simp; refine hK _ ?_; clear hK K)
                    refine wpF_do ?_
                    go_wp2_with fail
                    refine ⟨⟨n0, n1, c0⟩, ?_⟩
                    repeat (refine wpF_dry (fun K hK => ?_); go_simp; refine hK _ ?_; clear hK K)
                    refine wpF_nil ?_
                    have M4 : Hid (Mine w (w2.alloc (.cells #[.int .i64 (f : Nat), .int .i64 (y : Nat)] 30)) [bk w2.heap.size #[.int .i64 (f : Nat), .int .i64 (y : Nat)] 30, ar F g ⟨n, H, 0⟩, st gb ga gn (.slice A L.length c) q2 x y]) := M3.out.newBk _ rfl _ _
                    obtain ⟨Av, cv, rfl⟩ := own_slice HA.out.own
                    obtain ⟨i0, hi0, hz0, hz1, hz2⟩ := infoS
                    have MA : Hid (Mine w ((w2.alloc (.cells #[.int .i64 (f : Nat), .int .i64 (y : Nat)] 30)).drew.alloc (.cells #[.int .i64 (f : Nat), .int .i64 (y : Nat)] 30)) [bk w2.heap.size #[.int .i64 (f : Nat), .int .i64 (y : Nat)] 30, ar F g ⟨n, H, 0⟩, st gb ga gn (.slice A L.length c) q2 x y]) := M4.out.drew.alloc _
                    have HWA : Hid (IsAr ((w2.alloc (.cells #[.int .i64 (f : Nat), .int .i64 (y : Nat)] 30)).drew.alloc (.cells #[.int .i64 (f : Nat), .int .i64 (y : Nat)] 30)) F g ⟨n, H, 0⟩ (.slice Av H.length cv)) := HA.out.below (((Below.refl _ w2).alloc (Nat.le_refl _) _).drew.alloc (by simp) _)
                    have HSRC : Hid (∀ j u, (sp [(f, y)])[j]? = some u → (((w2.alloc (.cells #[.int .i64 (f : Nat), .int .i64 (y : Nat)] 30)).drew.alloc (.cells #[.int .i64 (f : Nat), .int .i64 (y : Nat)] 30))).cell? ((⟨w2.heap.size + 1, 0, none⟩ : Addr).add j) = some u) := by
                      have := rdsp_lit (w2.alloc (.cells #[.int .i64 (f : Nat), .int .i64 (y : Nat)] 30)).drew f y 30
                      rw [show (w2.alloc (.cells #[.int .i64 (f : Nat), .int .i64 (y : Nat)] 30)).drew.heap.size = w2.heap.size + 1 from World.size_alloc _ _] at this
                      exact this
                    have hsz : (w2.alloc (.cells #[.int .i64 (f : Nat), .int .i64 (y : Nat)] 30)).drew.heap.size = w2.heap.size + 1 := World.size_alloc _ _
                    have hsz2 : ((w2.alloc (.cells #[.int .i64 (f : Nat), .int .i64 (y : Nat)] 30)).drew.alloc (.cells #[.int .i64 (f : Nat), .int .i64 (y : Nat)] 30)).heap.size = w2.heap.size + 1 + 1 := by rw [World.size_alloc, hsz]
                    have HSZ := Lib.hid hsz2
                    clear hsz hsz2
                    have hb4 := M4.out.bk (l1 := [])
                    have k0 := blk_cell hb4 0; have k1 := blk_cell hb4 1
                    simp only [List.getElem?_toArray, List.getElem?_cons_zero, List.getElem?_cons_succ] at k0 k1
                    clear hb4
                    have c1 : (w2.alloc (.cells #[.int .i64 (f : Nat), .int .i64 (y : Nat)] 30)).drew.cell? ⟨g, 1, none⟩ = some (.slice Av H.length cv) := cell_below ((Below.refl _ w2).alloc (Nat.le_refl _) _).drew HA.out.cells.2.1
                    have c1a := HWA.out.cells.2.1
                    have hHl : H.length ≤ 1048577 := by have := HH.out.2.2.2; have := HI.out; omega
                    have HOK : Hid (Ar.Ok ⟨n, H ++ [(f, y)], 0⟩ ∧ ∀ h ∈ H ++ [(f, y)], h.1 + h.2 ≤ f + y) := by unfold Hid; rw [HF.out]; exact push_ok hnp hn20 HH.out.1 HH.out.2.1 HOKB.out.1 HOKB.out.2.1 HOKB.out.2.2
                    have HD2 : Hid (decA L = decK n (H ++ [(f, y)]) (cnt - (i + 1)) (decide (i + 1 = 0)) (f + y) (L.drop q2)) := by
                      unfold Hid
                      rw [HD.out, HI.out.1, HF.out, HQ2.out, decK_good HG.out (not_bad HOKB.out.1 HOKB.out.2.1 HOKB.out.2.2 HH.out.2.2.1)]
                      simp
                    obtain ⟨r2, hr2⟩ : ∃ r2, r2 = f + y := ⟨_, rfl⟩
                    have hr21 : (f : Int) + (y : Int) = (r2 : Int) := by omega
                    have hfb : f + y ≤ n := by have := HOKB.out; have := HF.out; omega
                    have hr22 : IntKind.i64.wrap (r2 : Int) = (r2 : Int) := by rw [IntKind.wrap_i64]; omega
                    have HR2 := Lib.hid (And.intro hr2 hfb)
                    clear hr2 hfb
                    clear HA M3 M4 c0 n0 n1
                    have n0 := cell_below ((Below.refl _ w2).alloc (Nat.le_refl _) (.cells #[.int .i64 (f : Nat), .int .i64 (y : Nat)] 30)) N0.out; have n0 := N0.out; have n1 := N1.out
                    go_wp2_with fail
                    refine wp_region_last (fun w' => w'.cell? ⟨g, 1, none⟩ = some (.slice Av H.length cv)) [(0, 1), (1, 1), (2, 1), (3, 1), (4, 2), (5, 0), (6, 0), (7, 0), (8, 0), (9, 1)] 10 (by kernel_rfl) (by kernel_rfl) c1 ?_
                    repeat (refine wpL_dry (fun K hK => ?_); simp only [List.getD_cons_zero, List.getD_cons_succ]; go_simp; refine hK _ ?_; clear hK K)
                    refine wpL_read (.slice Av H.length cv) rfl (fun w' hS => by have s1 := hS; simp only [List.getD_cons_zero, List.getD_cons_succ]; go_simp) (fun K hK => ?_)
                    simp only [List.getD_cons_zero, List.getD_cons_succ]
                    go_simp
                    refine hK _ ?_
                    clear hK K
                    refine wpL_do ?_
                    simp only [List.getD_cons_zero, List.getD_cons_succ]
                    go_wp2_with fail
                    refine ⟨c1, ?_⟩
                    refine wpL_do ?_
                    simp only [List.getD_cons_zero, List.getD_cons_succ]
                    go_wp2_with fail
                    refine ⟨c1a, ?_⟩
                    refine wpL_do ?_
                    simp only [List.getD_cons_zero, List.getD_cons_succ]
                    go_wp2_with (at_builtin; refine wpList_append_own_at _ rfl (.tmp 79) (.tmp 81) 28 rfl 0 30 i0 _ 2 16 Try.underlying28 hi0 hz0 hz1 hz2 rfl (by decide) (.slice Av H.length cv) H.length (sp H) rfl HWA.out.own ⟨w2.heap.size + 1, 0, none⟩ 1 1 (sp [(f, y)]) rfl rfl HSRC.out (sp_one _) (by unfold maxLen; omega) (by omega) (Nat.zero_le _) ?_)
                    intro v5 w5 ho5 hg5 _ hat5
                    obtain ⟨A5, c5, rfl⟩ := own_slice ho5
                    have hsz2 := HSZ.out
                    have hb5 := blk_grown hg5 HWA.out.blk (own_ne_blk HWA.out.own HWA.out.blk (by decide))
                    have c1b := blk_cell hb5 1
                    have f1b := blk_free hb5 1
                    simp only [List.getElem?_toArray, List.getElem?_cons_zero, List.getElem?_cons_succ] at c1b
                    obtain ⟨F6, h6, hn6, ht6⟩ := ar_push (L := H ++ [(f, y)]) HWA.out hg5 (by rw [List.length_append, sp_append]; exact ho5) (by rw [hsz2]; exact hat5) HOK.out.1
                    have M6 : Hid (Mine w (w5.setCell ⟨g, 1, none⟩ (.slice A5 (H.length + 1) c5)) [bk w2.heap.size #[.int .i64 (f : Nat), .int .i64 (y : Nat)] 30, ar F6 g ⟨n, H ++ [(f, y)], 0⟩, st gb ga gn (.slice A L.length c) q2 x y]) := MA.out.step (l1 := [_]) (p := ar F g ⟨n, H, 0⟩) (p' := ar F6 g ⟨n, H ++ [(f, y)], 0⟩) ht6 hn6 (ar_good ⟨_, h6⟩)
                    clear ho5 hg5 hat5 hb5 h6 hn6 ht6
                    go_wp2_with fail
                    refine ⟨c1b, ?_⟩
                    refine wpL_do ?_
                    simp only [List.getD_cons_zero, List.getD_cons_succ]
                    go_wp2_with fail
                    refine ⟨c1b, ?_⟩
                    repeat (refine wpL_dry (fun K hK => ?_); simp only [List.getD_cons_zero, List.getD_cons_succ]; go_simp; refine hK _ ?_; clear hK K)
                    refine wpL_last ?_
                    simp only [List.getD_cons_zero, List.getD_cons_succ]
                    go_wp2_with fail
                    refine ⟨trivial, ?_⟩
                    have hb6 := M6.out.bk (l1 := [])
                    have k0 := blk_cell hb6 0; have k1 := blk_cell hb6 1
                    simp only [List.getElem?_toArray, List.getElem?_cons_zero, List.getElem?_cons_succ] at k0 k1
                    clear hb6 n0 n1 c1 c1a c1b f1b
                    go_wp2
                    go_roundw
                    case rel => exact ⟨i + 1, r2, q2, x, y, H ++ [(f, y)], F6, by go_num, rfl, HI.out.2, by have := HR2.out; omega, hq2, M6.out.drop (l1 := []), by rw [HR2.out.1]; exact HD2, HOK.out.1.lies, by rw [HR2.out.1]; exact HOK.out.2, by simp, by rw [List.length_append, HH.out.2.2.2]; rfl⟩
                    case measure => have := HI.out; simp [intOf]; omega
                · by_cases hts : t < s
                  · have d1 : decide (y < 1) = false := by simpa using hy
                    have d1' : decide ((y : Int) < 1) = false := by simp; omega
                    have d2 : decide (0 < i) = false := by simp; omega
                    have d2' : decide (0 < (i : Int)) = false := by simp; omega
                    have d4 : decide (t < s) = true := by have := HS.out; have := HT.out; simp; omega
                    have HN : Hid (decA L = none) := HBAD.out (.inr (.inr (by have := HS.out; have := HT.out; omega)))
                    clear hy hb hts
                    go_wp2_with fail
                    refine wp_region_flag2 (fun _ => True) (fun w' => w'.cell? ⟨gn, 0, none⟩ = some (.int .u64 (x : Nat)) ∧ w'.cell? ⟨gn, 1, none⟩ = some (.int .u64 (y : Nat)) ∧ w'.cell? ⟨g, 0, none⟩ = some (.int .i64 (n : Nat))) [(0, 1), (1, 0)] [(2, 1), (3, 1), (4, 1), (5, 0), (6, 1), (7, 1), (8, 1), (9, 1), (10, 1), (11, 1), (12, 1), (13, 0), (14, 1), (15, 1), (16, 1), (17, 1), (18, 1), (20, 1), (24, 1), (25, 1), (26, 1), (28, 1), (19, 2), (21, 2), (22, 1), (23, 1), (27, 0), (29, 1), (30, 1), (31, 1)] (by kernel_rfl) (by kernel_rfl) (fun _ _ => trivial) trivial ?_
                    simp only [ordered, List.map_cons, List.map_nil, List.getD_cons_zero, List.getD_cons_succ]
                    repeat (refine wpF_dry (fun K hK => ?_); go_simp; refine hK _ ?_; clear hK K)
                    refine wpF_do ?_
                    go_wp2_with fail
                    refine TW.out.mono ?_
                    rintro e2 w2 ⟨ht, hto⟩
                    rw [HG.out] at ht
                    simp only at ht
                    obtain ⟨rfl, q2, hq2, hqr2, hc2⟩ := ht
                    have M3 : Hid (Mine w w2 [ar F g ⟨n, H, 0⟩, st gb ga gn (.slice A L.length c) q2 x y]) := MM.out.drew.two (l1 := [_]) HNE.out.1.2 hto hc2
                    have HQ2 := Lib.hid hqr2
                    have n0 := blk_cell hc2.n 0; have n1 := blk_cell hc2.n 1
                    simp only [List.getElem?_toArray, List.getElem?_cons_zero, List.getElem?_cons_succ] at n0 n1
                    obtain ⟨va, ha⟩ := M3.out.area (l1 := [])
                    obtain ⟨c0, c1, _⟩ := ha.cells
                    have HA := Lib.hid ha
                    have N0 := Lib.hid n0; have N1 := Lib.hid n1
                    clear TW hto hqr2 hc2 ha MM c1
                    go_wp2_with fail
                    refine ⟨trivial, ?_⟩
                    refine wpF_nil ?_
                    refine next2 ⟨n0, n1, c0⟩ ?_
                    simp only [ordered, List.map_cons, List.map_nil, List.getD_cons_zero, List.getD_cons_succ]
                    repeat (refine wpF_dry (fun K hK => ?_); go_simp; refine hK _ ?_; clear hK K)
                    refine wpF_do ?_
                    go_wp2_with fail
                    refine ⟨⟨n0, n1, c0⟩, ?_⟩
                    repeat (refine wpF_dry (fun K hK => ?_); go_simp; refine hK _ ?_; clear hK K)
                    refine wpF_do ?_
                    go_wp2_with fail
                    refine ⟨⟨n0, n1, c0⟩, ?_⟩
                    repeat (refine wpF_dry (fun K hK => ?_); go_simp; refine hK _ ?_; clear hK K)
                    refine wpF_read (.int .u64 (x : Nat)) rfl (fun w' hS => by obtain ⟨s1, s2, s3⟩ := hS; go_simp) (fun K hK => ?_)
                    go_simp
                    refine hK _ ?_
                    clear hK K
                    refine wpF_read (.int .u64 (y : Nat)) rfl (fun w' hS => by obtain ⟨s1, s2, s3⟩ := hS; go_simp) (fun K hK => ?_)
                    go_simp
                    refine hK _ ?_
                    clear hK K
                    repeat (refine wpF_dry (fun K hK => ?_); go_simp; refine hK _ ?_; clear hK K)
                    refine wpF_do ?_
                    go_wp2_with fail
                    refine ⟨⟨n0, n1, c0⟩, ?_⟩
                    repeat (refine wpF_dry (fun K hK => ?_); go_simp; refine hK _ ?_; clear hK K)
                    refine wpF_nil ?_
                    go_wp2
                    go_ret2
                    refine ⟨?_, M3.out.bel⟩
                    rw [HN.out]
                    rfl
                  · have d1 : decide (y < 1) = false := by simpa using hy
                    have d1' : decide ((y : Int) < 1) = false := by simp; omega
                    have d2 : decide (0 < i) = false := by simp; omega
                    have d2' : decide (0 < (i : Int)) = false := by simp; omega
                    have d4 : decide (t < s) = false := by simp; omega
                    have HOKB : Hid (1 ≤ y ∧ (H = [] ∨ 1 ≤ x) ∧ e + (x + y) ≤ n) := ⟨by omega, hb', by have := HS.out; have := HT.out; omega⟩
                    have hw3 : IntKind.i64.wrap (x : Int) = (x : Int) := by rw [IntKind.wrap_i64]; omega
                    have hw4 : IntKind.i64.wrap (y : Int) = (y : Int) := by rw [IntKind.wrap_i64]; omega
                    obtain ⟨f, hf⟩ : ∃ f, f = e + x := ⟨_, rfl⟩
                    have hf1 : (e : Int) + (x : Int) = (f : Int) := by omega
                    have hf2 : IntKind.i64.wrap (f : Int) = (f : Int) := by rw [IntKind.wrap_i64]; omega
                    have HF := Lib.hid hf
                    clear hf hy hb hb' hts
                    go_wp2_with fail
                    refine wp_region_flag2 (fun _ => True) (fun w' => w'.cell? ⟨gn, 0, none⟩ = some (.int .u64 (x : Nat)) ∧ w'.cell? ⟨gn, 1, none⟩ = some (.int .u64 (y : Nat)) ∧ w'.cell? ⟨g, 0, none⟩ = some (.int .i64 (n : Nat))) [(0, 1), (1, 0)] [(2, 1), (3, 1), (4, 1), (5, 0), (6, 1), (7, 1), (8, 1), (9, 1), (10, 1), (11, 1), (12, 1), (13, 0), (14, 1), (15, 1), (16, 1), (17, 1), (18, 1), (20, 1), (24, 1), (25, 1), (26, 1), (28, 1), (19, 2), (21, 2), (22, 1), (23, 1), (27, 0), (29, 1), (30, 1), (31, 1)] (by kernel_rfl) (by kernel_rfl) (fun _ _ => trivial) trivial ?_
                    simp only [ordered, List.map_cons, List.map_nil, List.getD_cons_zero, List.getD_cons_succ]
                    repeat (refine wpF_dry (fun K hK => ?_); go_simp; refine hK _ ?_; clear hK K)
                    refine wpF_do ?_
                    go_wp2_with fail
                    refine TW.out.mono ?_
                    rintro e2 w2 ⟨ht, hto⟩
                    rw [HG.out] at ht
                    simp only at ht
                    obtain ⟨rfl, q2, hq2, hqr2, hc2⟩ := ht
                    have M3 : Hid (Mine w w2 [ar F g ⟨n, H, 0⟩, st gb ga gn (.slice A L.length c) q2 x y]) := MM.out.drew.two (l1 := [_]) HNE.out.1.2 hto hc2
                    have HQ2 := Lib.hid hqr2
                    have n0 := blk_cell hc2.n 0; have n1 := blk_cell hc2.n 1
                    simp only [List.getElem?_toArray, List.getElem?_cons_zero, List.getElem?_cons_succ] at n0 n1
                    obtain ⟨va, ha⟩ := M3.out.area (l1 := [])
                    obtain ⟨c0, c1, _⟩ := ha.cells
                    have HA := Lib.hid ha
                    have N0 := Lib.hid n0; have N1 := Lib.hid n1
                    clear TW hto hqr2 hc2 ha MM c1
                    go_wp2_with fail
                    refine ⟨trivial, ?_⟩
                    refine wpF_nil ?_
                    refine next2 ⟨n0, n1, c0⟩ ?_
                    simp only [ordered, List.map_cons, List.map_nil, List.getD_cons_zero, List.getD_cons_succ]
                    repeat (refine wpF_dry (fun K hK => ?_); go_simp; refine hK _ ?_; clear hK K)
                    refine wpF_do ?_
                    go_wp2_with fail
                    refine ⟨⟨n0, n1, c0⟩, ?_⟩
                    repeat (refine wpF_dry (fun K hK => ?_); go_simp; refine hK _ ?_; clear hK K)
                    refine wpF_do ?_
                    go_wp2_with fail
                    refine ⟨⟨n0, n1, c0⟩, ?_⟩
                    repeat (refine wpF_dry (fun K hK => ?_); go_simp; refine hK _ ?_; clear hK K)
                    refine wpF_read (.int .u64 (x : Nat)) rfl (fun w' hS => by obtain ⟨s1, s2, s3⟩ := hS; go_simp) (fun K hK => ?_)
                    go_simp
                    refine hK _ ?_
                    clear hK K
                    refine wpF_read (.int .u64 (y : Nat)) rfl (fun w' hS => by obtain ⟨s1, s2, s3⟩ := hS; go_simp) (fun K hK => ?_)
                    go_simp
                    refine hK _ ?_
                    clear hK K
                    repeat (refine wpF_dry (fun K hK => ?_); go_simp; refine hK _ ?_; clear hK K)
                    refine wpF_do ?_
                    go_wp2_with fail
                    refine ⟨⟨n0, n1, c0⟩, ?_⟩
                    repeat (refine wpF_dry (fun K hK => ?_); go_simp; refine hK _ ?_; clear hK K)
                    refine wpF_nil ?_
                    have M4 : Hid (Mine w (w2.alloc (.cells #[.int .i64 (f : Nat), .int .i64 (y : Nat)] 30)) [bk w2.heap.size #[.int .i64 (f : Nat), .int .i64 (y : Nat)] 30, ar F g ⟨n, H, 0⟩, st gb ga gn (.slice A L.length c) q2 x y]) := M3.out.newBk _ rfl _ _
                    obtain ⟨Av, cv, rfl⟩ := own_slice HA.out.own
                    obtain ⟨i0, hi0, hz0, hz1, hz2⟩ := infoS
                    have MA : Hid (Mine w ((w2.alloc (.cells #[.int .i64 (f : Nat), .int .i64 (y : Nat)] 30)).drew.alloc (.cells #[.int .i64 (f : Nat), .int .i64 (y : Nat)] 30)) [bk w2.heap.size #[.int .i64 (f : Nat), .int .i64 (y : Nat)] 30, ar F g ⟨n, H, 0⟩, st gb ga gn (.slice A L.length c) q2 x y]) := M4.out.drew.alloc _
                    have HWA : Hid (IsAr ((w2.alloc (.cells #[.int .i64 (f : Nat), .int .i64 (y : Nat)] 30)).drew.alloc (.cells #[.int .i64 (f : Nat), .int .i64 (y : Nat)] 30)) F g ⟨n, H, 0⟩ (.slice Av H.length cv)) := HA.out.below (((Below.refl _ w2).alloc (Nat.le_refl _) _).drew.alloc (by simp) _)
                    have HSRC : Hid (∀ j u, (sp [(f, y)])[j]? = some u → (((w2.alloc (.cells #[.int .i64 (f : Nat), .int .i64 (y : Nat)] 30)).drew.alloc (.cells #[.int .i64 (f : Nat), .int .i64 (y : Nat)] 30))).cell? ((⟨w2.heap.size + 1, 0, none⟩ : Addr).add j) = some u) := by
                      have := rdsp_lit (w2.alloc (.cells #[.int .i64 (f : Nat), .int .i64 (y : Nat)] 30)).drew f y 30
                      rw [show (w2.alloc (.cells #[.int .i64 (f : Nat), .int .i64 (y : Nat)] 30)).drew.heap.size = w2.heap.size + 1 from World.size_alloc _ _] at this
                      exact this
                    have hsz : (w2.alloc (.cells #[.int .i64 (f : Nat), .int .i64 (y : Nat)] 30)).drew.heap.size = w2.heap.size + 1 := World.size_alloc _ _
                    have hsz2 : ((w2.alloc (.cells #[.int .i64 (f : Nat), .int .i64 (y : Nat)] 30)).drew.alloc (.cells #[.int .i64 (f : Nat), .int .i64 (y : Nat)] 30)).heap.size = w2.heap.size + 1 + 1 := by rw [World.size_alloc, hsz]
                    have HSZ := Lib.hid hsz2
                    clear hsz hsz2
                    have hb4 := M4.out.bk (l1 := [])
                    have k0 := blk_cell hb4 0; have k1 := blk_cell hb4 1
                    simp only [List.getElem?_toArray, List.getElem?_cons_zero, List.getElem?_cons_succ] at k0 k1
                    clear hb4
                    have c1 : (w2.alloc (.cells #[.int .i64 (f : Nat), .int .i64 (y : Nat)] 30)).drew.cell? ⟨g, 1, none⟩ = some (.slice Av H.length cv) := cell_below ((Below.refl _ w2).alloc (Nat.le_refl _) _).drew HA.out.cells.2.1
                    have c1a := HWA.out.cells.2.1
                    have hHl : H.length ≤ 1048577 := by have := HH.out.2.2.2; have := HI.out; omega
                    have HOK : Hid (Ar.Ok ⟨n, H ++ [(f, y)], 0⟩ ∧ ∀ h ∈ H ++ [(f, y)], h.1 + h.2 ≤ f + y) := by unfold Hid; rw [HF.out]; exact push_ok hnp hn20 HH.out.1 HH.out.2.1 HOKB.out.1 HOKB.out.2.1 HOKB.out.2.2
                    have HD2 : Hid (decA L = decK n (H ++ [(f, y)]) (cnt - (i + 1)) (decide (i + 1 = 0)) (f + y) (L.drop q2)) := by
                      unfold Hid
                      rw [HD.out, HI.out.1, HF.out, HQ2.out, decK_good HG.out (not_bad HOKB.out.1 HOKB.out.2.1 HOKB.out.2.2 HH.out.2.2.1)]
                      simp
                    obtain ⟨r2, hr2⟩ : ∃ r2, r2 = f + y := ⟨_, rfl⟩
                    have hr21 : (f : Int) + (y : Int) = (r2 : Int) := by omega
                    have hfb : f + y ≤ n := by have := HOKB.out; have := HF.out; omega
                    have hr22 : IntKind.i64.wrap (r2 : Int) = (r2 : Int) := by rw [IntKind.wrap_i64]; omega
                    have HR2 := Lib.hid (And.intro hr2 hfb)
                    clear hr2 hfb
                    clear HA M3 M4 c0 n0 n1
                    have n0 := cell_below ((Below.refl _ w2).alloc (Nat.le_refl _) (.cells #[.int .i64 (f : Nat), .int .i64 (y : Nat)] 30)) N0.out; have n0 := N0.out; have n1 := N1.out
                    go_wp2_with fail
                    refine wp_region_last (fun w' => w'.cell? ⟨g, 1, none⟩ = some (.slice Av H.length cv)) [(0, 1), (1, 1), (2, 1), (3, 1), (4, 2), (5, 0), (6, 0), (7, 0), (8, 0), (9, 1)] 10 (by kernel_rfl) (by kernel_rfl) c1 ?_
                    repeat (refine wpL_dry (fun K hK => ?_); simp only [List.getD_cons_zero, List.getD_cons_succ]; go_simp; refine hK _ ?_; clear hK K)
                    refine wpL_read (.slice Av H.length cv) rfl (fun w' hS => by have s1 := hS; simp only [List.getD_cons_zero, List.getD_cons_succ]; go_simp) (fun K hK => ?_)
                    simp only [List.getD_cons_zero, List.getD_cons_succ]
                    go_simp
                    refine hK _ ?_
                    clear hK K
                    refine wpL_do ?_
                    simp only [List.getD_cons_zero, List.getD_cons_succ]
                    go_wp2_with fail
                    refine ⟨c1, ?_⟩
                    refine wpL_do ?_
                    simp only [List.getD_cons_zero, List.getD_cons_succ]
                    go_wp2_with fail
                    refine ⟨c1a, ?_⟩
                    refine wpL_do ?_
                    simp only [List.getD_cons_zero, List.getD_cons_succ]
                    go_wp2_with (at_builtin; refine wpList_append_own_at _ rfl (.tmp 79) (.tmp 81) 28 rfl 0 30 i0 _ 2 16 Try.underlying28 hi0 hz0 hz1 hz2 rfl (by decide) (.slice Av H.length cv) H.length (sp H) rfl HWA.out.own ⟨w2.heap.size + 1, 0, none⟩ 1 1 (sp [(f, y)]) rfl rfl HSRC.out (sp_one _) (by unfold maxLen; omega) (by omega) (Nat.zero_le _) ?_)
                    intro v5 w5 ho5 hg5 _ hat5
                    obtain ⟨A5, c5, rfl⟩ := own_slice ho5
                    have hsz2 := HSZ.out
                    have hb5 := blk_grown hg5 HWA.out.blk (own_ne_blk HWA.out.own HWA.out.blk (by decide))
                    have c1b := blk_cell hb5 1
                    have f1b := blk_free hb5 1
                    simp only [List.getElem?_toArray, List.getElem?_cons_zero, List.getElem?_cons_succ] at c1b
                    obtain ⟨F6, h6, hn6, ht6⟩ := ar_push (L := H ++ [(f, y)]) HWA.out hg5 (by rw [List.length_append, sp_append]; exact ho5) (by rw [hsz2]; exact hat5) HOK.out.1
                    have M6 : Hid (Mine w (w5.setCell ⟨g, 1, none⟩ (.slice A5 (H.length + 1) c5)) [bk w2.heap.size #[.int .i64 (f : Nat), .int .i64 (y : Nat)] 30, ar F6 g ⟨n, H ++ [(f, y)], 0⟩, st gb ga gn (.slice A L.length c) q2 x y]) := MA.out.step (l1 := [_]) (p := ar F g ⟨n, H, 0⟩) (p' := ar F6 g ⟨n, H ++ [(f, y)], 0⟩) ht6 hn6 (ar_good ⟨_, h6⟩)
                    clear ho5 hg5 hat5 hb5 h6 hn6 ht6
                    go_wp2_with fail
                    refine ⟨c1b, ?_⟩
                    refine wpL_do ?_
                    simp only [List.getD_cons_zero, List.getD_cons_succ]
                    go_wp2_with fail
                    refine ⟨c1b, ?_⟩
                    repeat (refine wpL_dry (fun K hK => ?_); simp only [List.getD_cons_zero, List.getD_cons_succ]; go_simp; refine hK _ ?_; clear hK K)
                    refine wpL_last ?_
                    simp only [List.getD_cons_zero, List.getD_cons_succ]
                    go_wp2_with fail
                    refine ⟨trivial, ?_⟩
                    have hb6 := M6.out.bk (l1 := [])
                    have k0 := blk_cell hb6 0; have k1 := blk_cell hb6 1
                    simp only [List.getElem?_toArray, List.getElem?_cons_zero, List.getElem?_cons_succ] at k0 k1
                    clear hb6 n0 n1 c1 c1a c1b f1b
                    go_wp2
                    go_roundw
                    case rel => exact ⟨i + 1, r2, q2, x, y, H ++ [(f, y)], F6, by go_num, rfl, HI.out.2, by have := HR2.out; omega, hq2, M6.out.drop (l1 := []), by rw [HR2.out.1]; exact HD2, HOK.out.1.lies, by rw [HR2.out.1]; exact HOK.out.2, by simp, by rw [List.length_append, HH.out.2.2.2]; rfl⟩
                    case measure => have := HI.out; simp [intOf]; omega
        · obtain rfl : i = cnt := by omega
          have hqa := blk_cell (MM.out.stP (l1 := [_])).2.a 0
          have hqb := blk_cell (MM.out.stP (l1 := [_])).1 0
          simp only [List.getElem?_toArray, List.getElem?_cons_zero, List.getElem?_cons_succ] at hqa hqb
          have HD2 : Hid (decA L = if L.drop q = [] then some (n, H) else none) := by unfold Hid; rw [HD.out, Nat.sub_self]; unfold decK; rw [decH]; simp
          by_cases hqe : q = L.length
          · have HN : Hid (decA L = some (n, H)) := by unfold Hid; rw [HD2.out, hqe, List.drop_length, if_pos rfl]
            have d1 : (q == L.length) = true := by simpa using hqe
            have HQE := Lib.hid hqe
            obtain ⟨vz, hz⟩ := MM.out.area (l1 := [])
            have HZ : Hid (HasAr wr F g ⟨n, H, 0⟩) := ⟨vz, hz⟩
            clear hz
            subst hqe
            go_wp2
            go_ret2
            refine ⟨?_, MM.out.bel⟩
            rw [HN.out]
            exact ⟨g, F, rfl, HZ.out, MM.out.abv (ar F g ⟨n, H, 0⟩) (by simp)⟩
          · have HN : Hid (decA L = none) := by
              unfold Hid
              rw [HD2.out, if_neg]
              intro h0
              have := congrArg List.length h0
              rw [List.length_drop] at this
              simp at this
              omega
            have d1 : (q == L.length) = false := by simpa using hqe
            clear hqe
            go_wp2
            go_ret2
            refine ⟨?_, MM.out.bel⟩
            rw [HN.out]
            rfl
end Go.Proofs.Ythloinmnojlleaa
