/- Disk5: the walks of settle at Flush$1, of Flush and of Fail. -/
import Derived.Test.YtoolkamajlgcbaaMr02
import Derived.Deep.OwnRows
import Derived.WalkKit
import Derived.OrdersHeld
import Derived.KernelRfl
set_option linter.unusedVariables false
set_option linter.unusedSimpArgs false
namespace Go.Proofs.Ytoolkamajlgcbaa
open Go.RowKit

theorem flush1_any (w : World) (i : Int) : Calls Try.prog 83 #[.int .i64 i] w fun e w' => e = .returned (.bool true) ∧ w = w' := by
  go_enter Try.func83, Try.ntmps83
  go_wp2
  go_ret
  exact ⟨rfl, rfl⟩

set_option maxHeartbeats 800000 in
set_option maxRecDepth 100000 in
theorem settle_flush (w : World) (F : Nat → Prop) (g : Nat) (d : Dk) (vl vw : Value) (h : IsDisk w F g d vl vw) (hm : d.waits.length < 9223372036854775807) :
    Calls Try.prog 56 #[.pointer (some ⟨g, 0, none⟩), .func (.func 83) #[] #[]] w fun e w' => e = .returned (.tuple #[]) ∧
      IsDisk w' F g (d.settled (fun _ => true)) vl (.slice none 0 0) ∧ Touch F w w' := by
  obtain ⟨p, hp⟩ : ∃ p : Nat → Bool, p = fun _ => true := ⟨_, rfl⟩
  obtain ⟨gl, cl, rfl, hfl, _, hfree⟩ := h.sector
  have c0 := blk_cell h.blk 0
  have c1 := blk_cell h.blk 1
  simp at c0 c1
  obtain ⟨A, c, rfl⟩ := own_slice h.ownW
  have hno := h.ok.at_
  have hlen := h.ok.most
  have HP := Lib.hid hp
  clear hp
  go_enter Try.func56, Try.ntmps56
  go_wp2_with fail
  go_loopw [11] (fun j wr => ∃ k : Nat, k ≤ d.waits.length ∧ j = .int .i64 k ∧ wr.ownsRow 0 9 1 (.slice (some ⟨gl, 0, none⟩) d.l.length cl) d.l.length (strs (Dk.settle p 0 (d.waits.take k) d.l)) ∧ Touch (fun k => k = gl) w wr) (fun j _ => d.waits.length - (intOf j).toNat)
  case atStart => exact ⟨0, Nat.zero_le _, rfl, h.own, Touch.refl _ _⟩
  case round =>
    obtain ⟨k, hk, rfl, ho, ht⟩ := hrel
    have ngl : ¬ g = gl := fun e => own_ne_blk h.own h.blk (by decide) (by rw [← e]; rfl)
    have hT := Lib.hid ht
    have hO := Lib.hid ho
    have hsz := ht.size
    have c0' := cell_keep ht c0 ngl
    have c1' := cell_keep ht c1 ngl
    have f1 : wr.frozen? ⟨g, 1, none⟩ = false := blk_free (blk_touch ht h.blk ngl) 1
    by_cases hlt : k < d.waits.length
    · obtain ⟨gw, rfl, hfw, a1, a2⟩ := h.wait _ _ rfl k hlt
      have nw : ¬ gw = gl := fun e => by
        rcases own_ne_own h.ownW h.own (by decide) with h' | h'
        · simp [Value.ownBlock] at h'
        · exact h' (by simp [Value.ownBlock, e])
      obtain ⟨hx0, hx1⟩ := hno d.waits[k] (List.getElem_mem hlt)
      obtain ⟨n, hn⟩ := Int.eq_ofNat_of_zero_le hx0
      rw [hn] at hx1 a1
      have e1 := cell_keep ht a1 nw
      have e2 := cell_keep ht a2 nw
      have hn1 : n < d.l.length := by omega
      have e5 : wr.cell? ⟨gl, n, none⟩ = some (.string ((Dk.settle p 0 (d.waits.take k) d.l).getD n ByteArray.empty)) := by
        have := ho.cellAt n (by omega)
        rw [this]
        have hl : n < (Dk.settle p 0 (d.waits.take k) d.l).length := by rw [Dk.settle_length]; exact hn1
        simp [strs, List.getElem?_map, List.getElem?_eq_getElem hl]
      have f5 := ho.frozenAt (g := gl) n
      have hts : d.waits.take (k + 1) = d.waits.take k ++ [d.waits[k]] := by rw [List.take_succ_eq_append_getElem hlt]
      have hss := settle_snoc p d.waits[k] (d.waits.take k) 0 d.l
      rw [← hts] at hss
      have hlk : (d.waits.take k).length = k := by simp; omega
      rw [hlk, Nat.zero_add] at hss
      have HC : Hid (Calls Try.prog 83 #[.int .i64 k] (wr.alloc (.cells #[.int .i64 n, .string d.waits[k].2] 121)) fun e w' => e = .returned (.bool true) ∧ (wr.alloc (.cells #[.int .i64 n, .string d.waits[k].2] 121)) = w') := flush1_any _ _
      have bal : Below wr.heap.size wr (wr.alloc (.cells #[.int .i64 n, .string d.waits[k].2] 121)) := (Below.refl _ wr).alloc (Nat.le_refl _) _
      have r0 := cell_below bal c0'
      have r5 := cell_below bal e5
      have fr5 : (wr.alloc (.cells #[.int .i64 n, .string d.waits[k].2] 121)).frozen? ⟨gl, n, none⟩ = false := (bal.frozen (p := ⟨gl, n, none⟩) (World.block_lt_of_cell? _ _ e5)).trans f5
      by_cases hpk : true = true
      · have hpk' : p k = true := by rw [HP.out]
        rw [if_pos hpk', hn] at hss
        have HS := Lib.hid hss
        clear a1 a2 ho ht hss hts hpk hpk' hn
        go_wp2_with (go_at_call 83; refine HC.out.mono ?_; rintro e w' ⟨rfl, rfl⟩)
        go_region
        all_goals go_wp2
        go_roundw
        case rel =>
          refine ⟨k + 1, by omega, by go_num, ?_, (((hT.out.alloc _).setCell (p := ⟨gl, n, none⟩) (.inl rfl) _).drew)⟩
          have st := ((hO.out.alloc (.cells #[.int .i64 n, .string d.waits[k].2] 121)).stored n (.string d.waits[k].2)).1
          rw [HS.out]
          simp only [strs, List.map_set, Int.toNat_natCast] at st ⊢
          exact st
        case measure => simp [intOf]; omega
      · exact absurd rfl hpk
    · have hl : Hid (d.waits.take k = d.waits) := List.take_of_length_le (by omega)
      have H : Hid (IsDisk w F g d _ _) := h
      have hB := Lib.hid (blk_touch ht h.blk ngl)
      clear ho ht h
      go_wp2
      go_end0
      have h := H.out
      have t2 : Touch F w (wr.setCell ⟨g, 1, none⟩ (.slice none 0 0)) := (hT.out.mono (fun k _ e => by subst e; exact hfl)).setCell (p := ⟨g, 1, none⟩) (.inl h.fg) _
      refine ⟨rfl, ⟨?_, ?_, World.ownsRow_nil _ _ _ _, h.fg, h.fl, fun k hk => by simp [Value.ownBlock] at hk, fun k hk => Nat.lt_of_lt_of_le (h.lt k hk) t2.size, ?_⟩, t2⟩
      · rw [blk_set hB.out]; rfl
      · have o2 := ownsRow_setCell_other hO.out (a := ⟨g, 1, none⟩) (by simp only [Value.ownBlock]; intro e; injection e with e; exact ngl e.symm) (.slice none 0 0)
        rw [hl.out] at o2
        have e : (d.settled (fun _ => true)).l = Dk.settle p 0 d.waits d.l := by rw [HP.out]; rfl
        rw [e, Dk.settle_length]
        exact o2
      · exact h.ok.settled _

theorem flush_any (w : World) (F : Nat → Prop) (g : Nat) (d : Dk) (vl vw : Value) (h : IsDisk w F g d vl vw) (hm : d.waits.length < 9223372036854775807) :
    Calls Try.prog 76 #[.pointer (some ⟨g, 0, none⟩)] w fun e w' => e = .returned (.int .i64 (d.use 0)) ∧ DiskTo w F g d.flush w' := by
  by_cases hu : d.use 0 = 0
  · have hd : Hid (d.flush = d.settled (fun _ => true)) := by unfold Hid Dk.flush; rw [if_pos hu]
    have HU := Lib.hid hu
    clear hu
    go_enter Try.func76, Try.ntmps76
    go_wp2_with (first
      | (go_at_call 69; refine (use_any _ _ _ _ _ _ h _).mono ?_; rintro e w' ⟨rfl, rfl⟩; rw [HU.out])
      | (go_at_call 56; refine (settle_flush _ _ _ _ _ _ h hm).mono ?_; rintro e w' ⟨rfl, h2, t2⟩; have H2 := Lib.hid h2; have T2 := Lib.hid t2; clear h2 t2))
    go_ret
    exact ⟨by rw [HU.out]; rfl, by rw [hd.out]; exact ⟨F, vl, _, (by assumption : Hid (IsDisk _ _ _ _ _ _)).out, fun k hk => .inl hk, (by assumption : Hid (Touch _ _ _)).out⟩⟩
  · have hu1 : (d.use 0 == 0) = false := by simp [hu]
    have hd : Hid (d.flush = d) := by unfold Hid Dk.flush; rw [if_neg hu]
    clear hu
    go_enter Try.func76, Try.ntmps76
    go_wp2_with (first
      | (go_at_call 69; refine (use_any _ _ _ _ _ _ h _).mono ?_; rintro e w' ⟨rfl, rfl⟩))
    go_ret
    exact ⟨rfl, by rw [hd.out]; exact h.self⟩

theorem fail_any (w : World) (F : Nat → Prop) (g : Nat) (d : Dk) (vl vw : Value) (h : IsDisk w F g d vl vw) (hm : d.waits.length < 9223372036854775807)
    (pv : Value) (picks : List Bool) (hr : RdB w pv picks) (hpv : 0 < picks.length → ∀ k, pv.ownBlock = some k → ¬ F k) :
    Calls Try.prog 24 #[.pointer (some ⟨g, 0, none⟩), pv] w fun e w' => e = .returned (.tuple #[]) ∧ DiskTo w F g (d.fail picks) w' := by
  have hr' := hr
  obtain ⟨hl, A, c, rfl, h1, h2, h3⟩ := hr'
  have bal : Below w.heap.size w (w.alloc (.cells #[.slice A picks.length c] 72)) := (Below.refl _ w).alloc (Nat.le_refl _) _
  have hA : IsDisk (w.alloc (.cells #[.slice A picks.length c] 72)) F g d vl vw := h.keep (S := fun _ => False) (Touch.of_below bal) (fun _ _ hf => hf)
  have hs := settle_fail _ F g d vl vw hA hm w.heap.size (.slice A picks.length c) picks (cell_of_one (blk_new w _)) (Rd.below hr bal) (fun hF => Nat.lt_irrefl _ (h.lt _ hF)) hpv
  have HS := Lib.hid hs
  clear hs
  go_enter Try.func24, Try.ntmps24
  go_wp2_with (first
      | (go_at_call 56; refine HS.out.mono ?_; rintro e w' ⟨rfl, h2, t2⟩; have k2 := blk_cell h2.blk 2; have k4 := blk_cell h2.blk 4; have f2 := blk_free h2.blk 2; have f4 := blk_free h2.blk 4; simp at k2 k4; have H2 := Lib.hid h2; have T2 := Lib.hid t2; clear h2 t2))
  go_end0
  refine ⟨rfl, ?_⟩
  have t3 : Touch (fun k => k = g) w' ((w'.setCell ⟨g, 4, none⟩ (.bool true)).setCell ⟨g, 2, none⟩ (.int .i64 0)) := ((Touch.refl _ _).setG 4 _).setG 2 _
  have h3 := H2.out.upd (d' := d.fail picks) rfl rfl (h.ok.fail picks) t3 (by rw [blk_set (blk_set H2.out.blk 4 _) 2 _]; rfl)
  exact ⟨F, vl, _, h3, fun k hk => .inl hk, ((Touch.of_below bal).trans T2.out (fun _ _ x => x)).trans t3 (fun _ _ e => by subst e; exact h.fg)⟩
end Go.Proofs.Ytoolkamajlgcbaa
/- Disk6: the walks of disk.New and of Clone. -/
set_option linter.unusedVariables false
set_option linter.unusedSimpArgs false
namespace Go.Proofs.Ytoolkamajlgcbaa
open Go.RowKit

theorem infoB : (Try.prog.info? 5).map (fun i => (i.zero, i.size, i.bytes)) = some (some (.int .u8 0), 1, 1) := by kernel_rfl

/-- A new disk. -/
def DiskNew (w : World) (d : Dk) (e : Ending) (w' : World) : Prop :=
  ∃ g F vl vw, e = .returned (.tuple #[.pointer (some ⟨g, 0, none⟩), .int .i64 0]) ∧ IsDisk w' F g d vl vw ∧ (∀ k, F k → w.heap.size ≤ k) ∧ Below w.heap.size w w'

theorem new_no (w : World) (n : Int) (h : n < 1 ∨ 2048 < n) :
    Calls Try.prog 33 #[.int .i64 n] w fun e w' => e = .returned (.tuple #[.pointer none, .int .i64 1]) ∧ w = w' := by
  by_cases h1 : n < 1
  · go_enter Try.func33, Try.ntmps33
    go_wp2
    go_ret2
    exact ⟨rfl, rfl⟩
  · have h2 : 2048 < n := by omega
    have h1' : decide (n < 1) = false := by simpa using h1
    go_enter Try.func33, Try.ntmps33
    go_wp2
    go_ret2
    exact ⟨rfl, rfl⟩

theorem strOfNums_zero (n : Nat) : strOfNums (List.replicate n 0) = Dk.rep n 0 := by
  simp [strOfNums, Dk.rep]
theorem conv_zero (W : World) (n b : Nat) (hb : b = W.heap.size) (hn : n ≤ 9223372036854775807) :
    (convert 51 9 (.slice (some ⟨b, 0, none⟩) n n)).run Try.prog (W.alloc (.cells (madeCells #[.int .u8 0] n) 5)) = .ok (.string (Dk.rep n 0)) (W.alloc (.cells (madeCells #[.int .u8 0] n) 5)) := by
  subst hb
  rw [← strOfNums_zero]
  refine run_convert_bytes_arg _ _ _ Try.underlying51 Try.underlying5 _ 0 n n _ (by simp) (fun i hi => ?_) _ Try.underlying9
  rw [blk_cell (blk_new W _), Nat.zero_add]
  rw [← Array.getElem?_toList, toList_madeCells_one]
  simp [hi, List.getD_eq_getElem?_getD]

set_option maxHeartbeats 800000 in
set_option maxRecDepth 100000 in
theorem new_yes (w : World) (n : Nat) (h1 : 1 ≤ n) (h2 : n ≤ 2048) :
    Calls Try.prog 33 #[.int .i64 n] w (DiskNew w (Dk.new n)) := by
  have d1 : decide ((n : Int) < 1) = false := by simp; omega
  obtain ⟨i0, hi, hz0, hz1, hz2⟩ := info_parts infoS
  have hmk : ∀ W : World, (Instr.makeSlice 51 (.int .i64 256) (.int .i64 256)).run Try.prog W = .ok (.slice (some ⟨W.heap.size, 0, none⟩) 256 256) (W.alloc (.cells (madeCells #[.int .u8 0] 256) 5)) := by
    intro W
    exact run_make_row' 51 5 (.int .u8 0) 1 Try.underlying51 infoB rfl .i64 .i64 256 (by decide) (by decide) W
  go_enter Try.func33, Try.ntmps33
  have hcv := conv_zero (w.alloc (.cells #[.slice none 0 0, .slice none 0 0, .int .i64 0, .int .i64 0, .bool false] 104)) 256 (w.heap.size + 1) (by simp) (by decide)
  obtain ⟨z, hz⟩ : ∃ z, z = Dk.rep 256 0 := ⟨_, rfl⟩
  rw [← hz] at hcv
  have HZ := Lib.hid hz
  clear hz
  go_wp2_with fail
  go_loopw [17] (fun j wr => ∃ (k : Nat) (v : Value), k ≤ n ∧ j = .int .i64 k ∧ wr.heap[w.heap.size]? = some (.cells #[v, .slice none 0 0, .int .i64 0, .int .i64 0, .bool false] 104 (0, 0)) ∧
    wr.ownsRow w.heap.size 9 1 v k (strs (List.replicate k z)) ∧ Below w.heap.size w wr ∧ w.heap.size < wr.heap.size) (fun j _ => n - (intOf j).toNat)
  case atStart =>
    exact ⟨0, .slice none 0 0, Nat.zero_le _, rfl, blk_alloc (blk_new w _) _, World.ownsRow_nil _ _ _ _, ((Below.refl _ w).alloc (Nat.le_refl _) _).alloc (by simp) _, by simp; omega⟩
  case round =>
    obtain ⟨k, v, hk, rfl, hb, ho, hbel, hsz⟩ := hrel
    have c0 := blk_cell hb 0
    simp at c0
    by_cases hlt : k < n
    · go_wp2_with (at_builtin; refine wpList_append_own_at _ rfl (.tmp 23) (.tmp 25) 101 rfl w.heap.size 9 i0 _ 1 16 Try.underlying101 hi hz0 hz1 hz2 rfl (by decide) v k (strs (List.replicate k z)) rfl (ho.alloc _) ⟨wr.heap.size, 0, none⟩ 1 1 [.string z] rfl rfl ?c1 ?c2 (by unfold maxLen; omega) (by omega) (by simp; omega) ?_)
      case c1 =>
        intro j u hj
        match j, hj with
        | 0, hj => simp at hj; subst hj; simp [Addr.add]
      case c2 => intro u hu; simp at hu; subst hu; rfl
      intro v1 w1 ho1 hg _ _
      have hne : v.ownBlock ≠ some w.heap.size := own_ne_blk ho hb (by decide)
      have hb1 := blk_grown hg (blk_alloc hb _) hne
      have HO := Lib.hid ho1
      have HB := Lib.hid hb1
      have HL : Hid (Below w.heap.size w w1) := (hbel.alloc (by omega) _).grown hg (by simp; omega) (fun j hj => (ho.lt j hj).1)
      have hs1 : w.heap.size < w1.heap.size := blk_lt hb1
      obtain ⟨g1, cp, rfl⟩ := own_shape ho1
      have k0 := blk_cell hb1 0
      have f0 := blk_free hb1 0
      simp at k0
      clear ho1 hg hb1 ho hb hbel
      go_wp2
      go_roundw
      case rel =>
        refine ⟨k + 1, _, by omega, by go_num, by rw [blk_set HB.out 0 _]; rfl, ?_, HL.out.setCell (p := ⟨w.heap.size, 0, none⟩) (Nat.le_refl _) _, by simpa using hs1⟩
        have hne1 := own_ne_blk HO.out HB.out (by decide)
        have o := ownsRow_setCell_other HO.out (a := ⟨w.heap.size, 0, none⟩) hne1 (.slice (some ⟨g1, 0, none⟩) (k + 1) cp)
        have e : strs (List.replicate (k + 1) z) = strs (List.replicate k z) ++ [.string z] := by simp [strs, List.replicate_succ']
        rw [e]
        exact o
      case measure => simp [intOf]; omega
    · obtain rfl : k = n := by omega
      have HO := Lib.hid ho
      have HB := Lib.hid hb
      clear ho hb
      go_wp2
      go_ret2
      refine ⟨w.heap.size, fun j => w.heap.size ≤ j ∧ j < wr.heap.size, v, .slice none 0 0, rfl, ⟨HB.out, ?_, World.ownsRow_nil _ _ _ _, ⟨Nat.le_refl _, hsz⟩, fun j hj => HO.out.lt j hj, fun j hj => by simp [Value.ownBlock] at hj, fun j hj => hj.2, Dk.Ok.new k h1 h2⟩, fun j hj => hj.1, hbel⟩
      have e : (Dk.new k).l = List.replicate k z := by rw [HZ.out]; rfl
      rw [e, List.length_replicate]
      obtain ⟨a, b⟩ := HO.out
      refine ⟨a, ?_⟩
      rcases b with b | ⟨g, cap, cur, b1, _, b2⟩
      · exact .inl b
      · exact .inr ⟨g, cap, cur, b1, Nat.zero_le _, b2⟩
end Go.Proofs.Ytoolkamajlgcbaa
/- Reg: a region that draws its order, done in one order: flag 1: what needs no memory; flag 2: what reads the same in every world that meets S; flag 0: the one operation that may come. -/
set_option linter.unusedVariables false
set_option linter.unusedSimpArgs false
namespace Go.Proofs.Ytoolkamajlgcbaa
open Go.RowKit

/-- What a region ends in: its normal end, or out of memory. -/
def OnlyOut (Q : Exit → Act → World → Prop) : Exit → Act → World → Prop
  | .outgrown, a, w => Q .outgrown a w
  | _, _, _ => False
/-- An operation that needs no memory. -/
def dry (P : Program) (ops : Array Oper) (o : Oper) (a : Act) (K : Act → Prop) : Prop :=
  if Region.wanted o (yielded ops a.tmps) then ∃ v, (∀ w', (execOp a.eval o).run P w' = .ok (.value v) w') ∧ K (a.put o.dst v) else K (a.put o.dst undef)
/-- An operation that reads. -/
def dryS (P : Program) (ops : Array Oper) (S : World → Prop) (o : Oper) (a : Act) (K : Act → Prop) : Prop :=
  if Region.wanted o (yielded ops a.tmps) then ∃ v, (∀ w', S w' → (execOp a.eval o).run P w' = .ok (.value v) w') ∧ K (a.put o.dst v) else K (a.put o.dst undef)

/-- As ∧, but a walk's tactics don't look into it. -/
structure Both (a b : Prop) : Prop where
  l : a
  r : b

def wpF (P : Program) (ops : Array Oper) (S : World → Prop) (Q : Exit → Act → World → Prop) : List (Oper × Nat) → Act → World → Prop
  | [], a, w => Q .normal a w
  | (o, 0) :: l, a, w => wpList P ops (Exit.then (fun a' w' => Both (S w') (wpF P ops S Q l a' w')) (OnlyOut Q)) [o] a w
  | (o, 1) :: l, a, w => dry P ops o a (fun a' => wpF P ops S Q l a' w)
  | (o, _) :: l, a, w => dryS P ops S o a (fun a' => wpF P ops S Q l a' w)

def flagB (ops : Array Oper) : List (Nat × Nat) → Array Bool → Bool
  | [], listed => (Region.ready .any ops listed).isEmpty
  | (i, 0) :: l, listed => (Region.ready .any ops listed == [i]) && flagB ops l (listed.setIfInBounds i true)
  | (i, _) :: l, listed => (Region.ready .any ops listed).contains i && Region.free .any ops listed i && flagB ops l (listed.setIfInBounds i true)

def ordered (ops : List Oper) (order : List (Nat × Nat)) : List (Oper × Nat) := order.map fun x => (ops.getD x.1 default, x.2)

theorem dry_S {P : Program} {ops : Array Oper} {S : World → Prop} {o : Oper} {a : Act} {K : Act → Prop} (h : dry P ops o a K) : dryS P ops S o a K := by
  unfold dry at h
  unfold dryS
  split
  · rename_i hw
    rw [if_pos hw] at h
    obtain ⟨v, hv, hK⟩ := h
    exact ⟨v, fun w' _ => hv w', hK⟩
  · rename_i hw
    rw [if_neg hw] at h
    exact h

theorem take_dry {P : Program} {Q : Exit → Act → World → Prop} {S : World → Prop} (ops : List Oper) (hs : Region.noSelect ops.toArray = true) (i : Nat) (hi : i < ops.length) {n : Nat} {listed : Array Bool} {a : Act} {w : World}
    (h1 : (Region.ready .any ops.toArray listed).contains i = true) (h2 : Region.free .any ops.toArray listed i = true) (hS : S w) {K : Act → Prop}
    (hK : ∀ a', K a' → wpAnyH P .any ops.toArray (Exit.then (fun a w => Q .normal a w) (OnlyOut Q)) S n (listed.setIfInBounds i true) a' w)
    (h : dryS P ops.toArray S ops[i] a K) : wpAnyH P .any ops.toArray (Exit.then (fun a w => Q .normal a w) (OnlyOut Q)) S (n + 1) listed a w := by
  have ho : ops.toArray[i]? = some ops[i] := by simp [hi]
  unfold dryS at h
  split at h
  · rename_i hw
    obtain ⟨v, hv, h⟩ := h
    exact wpAnyH_take ho hs h2 h1 (fun c a w x => by simp [Exit.then, OnlyOut] at x) (.inl ⟨hw, hv⟩) hS (hK _ h)
  · rename_i hw
    exact wpAnyH_take ho hs h2 h1 (fun c a w x => by simp [Exit.then, OnlyOut] at x) (.inr ⟨by simpa using hw, rfl⟩) hS (hK _ h)

theorem wpAny_flag {P : Program} {Q : Exit → Act → World → Prop} {S : World → Prop} (ops : List Oper) (hs : Region.noSelect ops.toArray = true) :
    ∀ (order : List (Nat × Nat)) (listed : Array Bool) (a : Act) (w : World), flagB ops.toArray order listed = true → (∀ x ∈ order, x.1 < ops.length) → S w →
      wpF P ops.toArray S Q (ordered ops order) a w → wpAnyH P .any ops.toArray (Exit.then (fun a w => Q .normal a w) (OnlyOut Q)) S order.length listed a w
  | [], listed, a, w, hB, _, hS, h => by
    refine wpAnyH_done (by simpa [flagB] using hB) ?_ _
    exact h
  | (i, 0) :: l, listed, a, w, hB, hl, hS, h => by
    simp only [flagB, Bool.and_eq_true, beq_iff_eq] at hB
    obtain ⟨h1, h3⟩ := hB
    have hi : i < ops.length := hl _ (List.mem_cons_self ..)
    have ho : ops.toArray[i]? = some ops[i] := by simp [hi]
    have hd : ops.getD i default = ops[i] := by simp [hi]
    simp only [ordered, List.map_cons, wpF, hd] at h
    refine wpAnyH_all h1 (by simp) (fun j hj => ?_)
    obtain rfl : j = i := by simpa using hj
    have key : ∀ a w, Both (S w) (wpF P ops.toArray S Q (ordered ops l) a w) → S w ∧ wpAnyH P .any ops.toArray (Exit.then (fun a w => Q .normal a w) (OnlyOut Q)) S l.length (listed.setIfInBounds j true) a w :=
      fun a w hh => ⟨hh.1, wpAny_flag ops hs l _ a w h3 (fun x hx => hl x (List.mem_cons_of_mem _ hx)) hh.1 hh.2⟩
    unfold wpOp
    simp only [ho]
    unfold wpList at h
    have hout : LetsOut (Exit.then (fun a' w' => Both (S w') (wpF P ops.toArray S Q (ordered ops l) a' w')) (OnlyOut Q)) → LetsOut (Exit.then (fun a w => Q .normal a w) (OnlyOut Q)) := by
      rintro ⟨a, w, x⟩
      exact ⟨a, w, x⟩
    split
    · rename_i hw
      rw [if_pos hw] at h
      rcases h with h | ⟨h, hx⟩
      · refine .inl ?_
        unfold Oper.wp at h ⊢
        generalize (execOp a.eval ops[j]).run P w = r at h
        cases r with
        | ok n w' =>
          cases n <;> simp only [Oper.upon] at h ⊢
          case value v => exact key _ _ h
          case skip => exact key _ _ h
          case defer d => exact key _ _ h
          case enter f args =>
            exact h.mono fun e w'' he => by
              cases e with
              | returned v => exact key _ _ he
              | panicked c => exact he
              | outgrown => exact hout he
          case row row args => exact h.mono fun v w'' he => key _ _ he
        | halt x w' => cases x <;> simp only [Oper.upon] at h ⊢ <;> exact h
      · exact .inr ⟨h, hout hx⟩
    · rename_i hw
      rw [if_neg hw] at h
      exact key _ _ h
  | (i, 1) :: l, listed, a, w, hB, hl, hS, h => by
    simp only [flagB, Bool.and_eq_true] at hB
    obtain ⟨⟨h1, h2⟩, h3⟩ := hB
    have hi : i < ops.length := hl _ (List.mem_cons_self ..)
    have hd : ops.getD i default = ops[i] := by simp [hi]
    simp only [ordered, List.map_cons, wpF, hd] at h
    exact take_dry ops hs i hi h1 h2 hS (fun a' hh => wpAny_flag ops hs l _ a' w h3 (fun x hx => hl x (List.mem_cons_of_mem _ hx)) hS hh) (dry_S h)
  | (i, k + 2) :: l, listed, a, w, hB, hl, hS, h => by
    simp only [flagB, Bool.and_eq_true] at hB
    obtain ⟨⟨h1, h2⟩, h3⟩ := hB
    have hi : i < ops.length := hl _ (List.mem_cons_self ..)
    have hd : ops.getD i default = ops[i] := by simp [hi]
    simp only [ordered, List.map_cons, wpF, hd] at h
    exact take_dry ops hs i hi h1 h2 hS (fun a' hh => wpAny_flag ops hs l _ a' w h3 (fun x hx => hl x (List.mem_cons_of_mem _ hx)) hS hh) h

/-- A region that draws its order. -/
theorem wp_region_flag {P : Program} {id : Nat} {Q : Exit → Act → World → Prop} {a : Act} {w : World} {l : List Oper} (S : World → Prop) (order : List (Nat × Nat)) (hm : P.follows .mixedOrders = true)
    (hB : (Region.noSelect l.toArray && order.all (fun x => decide (x.1 < l.length)) && (order.length == l.length) && flagB l.toArray order (Array.replicate l.length false)) = true) (hS : S w.drew)
    (h : wpF P l.toArray S Q (ordered l order) a w.drew) : (Code.region id l.toArray true).wp P Q a w := by
  simp only [Bool.and_eq_true, List.all_eq_true, decide_eq_true_eq, beq_iff_eq] at hB
  obtain ⟨⟨⟨h1, h2⟩, h3⟩, h4⟩ := hB
  refine Code.wp_mono (Q := Exit.then (fun a w => Q .normal a w) (OnlyOut Q)) ?_ ?_
  · intro e a w q
    cases e with
    | normal => exact q
    | outgrown => exact q
    | _ => exact q.elim
  · refine wp_region_held (S := S) hm ?_
    have := wpAny_flag l h1 order (Array.replicate l.length false) a w.drew h4 h2 hS h
    rw [h3] at this
    simpa using this

theorem wpF_nil {P : Program} {ops : Array Oper} {S : World → Prop} {Q : Exit → Act → World → Prop} {a : Act} {w : World} (h : Q .normal a w) : wpF P ops S Q [] a w := h
theorem wpF_dry {P : Program} {ops : Array Oper} {S : World → Prop} {Q : Exit → Act → World → Prop} {a : Act} {w : World} {o : Oper} {l : List (Oper × Nat)}
    (h : ∀ K : Act → Prop, (∀ a', wpF P ops S Q l a' w → K a') → dry P ops o a K) : wpF P ops S Q ((o, 1) :: l) a w := h _ (fun _ hh => hh)
theorem wpF_do {P : Program} {ops : Array Oper} {S : World → Prop} {Q : Exit → Act → World → Prop} {a : Act} {w : World} {o : Oper} {l : List (Oper × Nat)}
    (h : wpList P ops (Exit.then (fun a' w' => Both (S w') (wpF P ops S Q l a' w')) (OnlyOut Q)) [o] a w) : wpF P ops S Q ((o, 0) :: l) a w := h
theorem wpF_read {P : Program} {ops : Array Oper} {S : World → Prop} {Q : Exit → Act → World → Prop} {a : Act} {w : World} {o : Oper} {l : List (Oper × Nat)} (v : Value)
    (hw : Region.wanted o (yielded ops a.tmps) = true) (hv : ∀ w', S w' → (execOp a.eval o).run P w' = .ok (.value v) w')
    (h : ∀ K : Act → Prop, (∀ a', wpF P ops S Q l a' w → K a') → K (a.put o.dst v)) : wpF P ops S Q ((o, 2) :: l) a w := by
  show dryS P ops S o a _
  unfold dryS
  rw [if_pos hw]
  exact ⟨v, hv, h _ (fun _ hh => hh)⟩
theorem wpF_skip {P : Program} {ops : Array Oper} {S : World → Prop} {Q : Exit → Act → World → Prop} {a : Act} {w : World} {o : Oper} {l : List (Oper × Nat)}
    (h : ∀ K : Act → Prop, (∀ a', wpF P ops S Q l a' w → K a') → (if Region.wanted o (yielded ops a.tmps) then False else K (a.put o.dst undef))) : wpF P ops S Q ((o, 2) :: l) a w := by
  have := h _ (fun _ hh => hh)
  show dryS P ops S o a _
  unfold dryS
  split
  · rename_i hw; rw [if_pos hw] at this; exact this.elim
  · rename_i hw; rw [if_neg hw] at this; exact this
attribute [go_sem] dry
attribute [irreducible] wpF dryS
end Go.Proofs.Ytoolkamajlgcbaa
