/- RefC: the walk of the document's Fail. -/
import Derived.Test.YtfkonndbgmmckaaRefB
set_option linter.unusedVariables false
set_option linter.unusedSimpArgs false
namespace Go.Proofs.Ytfkonndbgmmckaa
open Go.RowKit

/-- Which of the writes come: all, or those that are picked. -/
def rpick (picks : List Bool) (all : Bool) (i : Nat) : Bool := all || picks.getD i false
def rfailD (d : Dk) (picks : List Bool) (all : Bool) : Dk := if all then d.settled (rpick picks all) else { d.settled (rpick picks all) with down := true, fuse := 0 }
/-- What a call gives: the document's disk d', of what there was and of new blocks. -/
structure RTo (w : World) (F : Nat → Prop) (d' : Dk) (w' : World) (F' : Nat → Prop) (vl vw : Value) : Prop where
  has : RefAt w' F' d' vl vw
  new : ∀ k, F' k → F k ∨ w.heap.size ≤ k
  bel : Below w.heap.size w w'

theorem set5_touch {S : Nat → Prop} {w w1 : World} {g : Nat} {a b c d e : Value} (h : Touch S w w1) (hg : S g) : Touch S w (set5 w1 g a b c d e) :=
  ((((h.setCell (p := ⟨g, 0, none⟩) (.inl hg) a).setCell (p := ⟨g, 1, none⟩) (.inl hg) b).setCell (p := ⟨g, 2, none⟩) (.inl hg) c).setCell (p := ⟨g, 3, none⟩) (.inl hg) d).setCell (p := ⟨g, 4, none⟩) (.inl hg) e
theorem rfailD_ok {d : Dk} (h : d.Ok) (picks : List Bool) (all : Bool) : (rfailD d picks all).Ok := by
  have k := h.settled (rpick picks all)
  unfold rfailD
  split
  · exact k
  · exact ⟨k.at_, by simp, by simp, k.writes0, k.pos, k.most⟩
theorem rfailD_l (d : Dk) (picks : List Bool) (all : Bool) : (rfailD d picks all).l = Dk.settle (rpick picks all) 0 d.waits d.l ∧ (rfailD d picks all).waits = [] ∧ (rfailD d picks all).writes = d.writes := by
  unfold rfailD; split <;> exact ⟨rfl, rfl, rfl⟩
/-- The end of the document's Fail. -/
theorem rfail_to {w wr W : World} {F : Nat → Prop} {d : Dk} {picks : List Bool} {all : Bool} {cp : Nat} (hok : d.Ok) (hB : Below w.heap.size w wr)
    (ho : wr.ownsRow 0 9 1 (.slice (some ⟨w.heap.size + 2, 0, none⟩) d.l.length cp) d.l.length (strs (Dk.settle (rpick picks all) 0 d.waits d.l)))
    (ht : Touch (fun k => k = w.heap.size ∨ k = w.heap.size + 1) wr W) : RTo w F (rfailD d picks all) W (fun k => k = w.heap.size + 2) (.slice (some ⟨w.heap.size + 2, 0, none⟩) d.l.length cp) (.slice none 0 0) := by
  obtain ⟨e1, e2, _⟩ := rfailD_l d picks all
  have o := own_touch ho ht (fun k hk => by simp [Value.ownBlock] at hk; omega)
  refine ⟨⟨?_, ?_, fun k hk => by simp [Value.ownBlock] at hk; omega, fun k hk => by simp [Value.ownBlock] at hk, fun k hk => ?_, rfailD_ok hok _ _, fun _ => rfl⟩, fun k hk => .inr (by omega), hB.trans (ht.below hB.size (fun k hk => by omega))⟩
  · rw [e1, Dk.settle_length]; exact o
  · rw [e2]; exact World.ownsRow_nil _ _ _ _
  · have := (o.lt (w.heap.size + 2) rfl).2; omega

set_option maxHeartbeats 1600000 in
set_option maxRecDepth 100000 in
theorem rfail_any (w : World) (F : Nat → Prop) (d : Dk) (vl vw : Value) (h : RefAt w F d vl vw) (hm : d.waits.length < 9223372036854775807) (A0 : Option Addr) (pc : Nat) (picks : List Bool) (hr : RdB w (.slice A0 picks.length pc) picks) (all : Bool) :
    Calls Try.prog 35 #[refV d vl vw, .slice A0 picks.length pc, .bool all] w fun e w' => ∃ F' vl', e = .returned (refV (rfailD d picks all) vl' (.slice none 0 0)) ∧ RTo w F (rfailD d picks all) w' F' vl' (.slice none 0 0) := by
  have H := Lib.hid h
  have HR := Lib.hid hr
  have hno := h.ok.at_
  have hlen := h.ok.most
  have hpos := h.ok.pos
  obtain ⟨gl, cl, rfl, hfl, _, _⟩ := h.sector
  have hgl : gl < w.heap.size := h.lt gl hfl
  obtain ⟨A, c, rfl⟩ := own_slice h.ownW
  obtain ⟨i0, hi, hz0, hz1, hz2⟩ := info_parts infoS
  have hsrc : ∀ W, Below w.heap.size w W → ∀ j u, (strs d.l)[j]? = some u → W.cell? ((⟨gl, 0, none⟩ : Addr).add j) = some u := fun W hb j u hu => cell_below hb (h.own.cells (g := gl) rfl j u hu)
  have HSRC := Lib.hid hsrc
  have B2 : ∀ a b, Hid (Below w.heap.size w ((w.alloc a).alloc b)) := fun a b => ((Below.refl _ w).alloc (Nat.le_refl _) a).alloc (by simp) b
  clear hsrc h hr
  unfold refV
  go_enter Try.func35, Try.ntmps35
  go_wp2_with (at_builtin; refine wpList_append_own_at _ rfl (.tmp 9) (.tmp 11) 29 rfl 0 9 i0 _ 1 16 Try.underlying29 hi hz0 hz1 hz2 rfl (by decide) (.slice none 0 0) 0 [] rfl (World.ownsRow_nil _ _ _ _) ⟨gl, 0, none⟩ d.l.length cl (strs d.l) rfl (by simp [strs]) (HSRC.out _ (B2 _ _).out) ?c2 (by unfold maxLen; omega) (by omega) (Nat.zero_le _) ?_)
  case c2 => intro u hu; simp only [strs, List.mem_map] at hu; obtain ⟨x, _, rfl⟩ := hu; rfl
  intro v1 w1 ho1 hg1 _ hat1
  try simp only [Nat.zero_add, List.nil_append] at ho1
  have g0 := blk_grown hg1 (blk_alloc (blk_new w _) _) (by simp [Value.ownBlock])
  have g1' := blk_grown hg1 (heap_alloc2_new w _ _) (by simp [Value.ownBlock])
  have hB1 : Hid (Below w.heap.size w w1) := (B2 _ _).out.grown hg1 (by simp; omega) (fun k e => by simp [Value.ownBlock] at e)
  obtain ⟨m, hm1⟩ : ∃ m, d.l.length = m + 1 := ⟨d.l.length - 1, by omega⟩
  have hsh : ∃ g1 cp, v1 = .slice (some ⟨g1, 0, none⟩) d.l.length cp := by rw [hm1] at ho1 ⊢; exact own_shape ho1
  clear hm1
  obtain ⟨g1, cp, rfl⟩ := hsh
  obtain rfl : g1 = w.heap.size + 2 := by rcases hat1 with e | e <;> simp [Value.ownBlock] at e; omega
  have HO1 := Lib.hid ho1; have G0 := Lib.hid g0; have G1 := Lib.hid g1'
  clear ho1 hg1 hat1 g0 g1' B2 HSRC hi hz0 hz1 hz2
  obtain ⟨p, hp⟩ : ∃ p, p = rpick picks all := ⟨_, rfl⟩
  have HP := Lib.hid hp
  clear hp
  go_wp2_with fail
  go_loopw [8, 13] (fun j j2 wr => ∃ k : Nat, k ≤ d.waits.length ∧ j = .int .i64 k ∧ Hid (wr.ownsRow 0 9 1 (.slice (some ⟨w.heap.size + 2, 0, none⟩) d.l.length cp) d.l.length (strs (Dk.settle p 0 (d.waits.take k) d.l))) ∧ Hid (Touch (fun k => k = w.heap.size + 2) w1 wr)) (fun j _ _ => d.waits.length - (intOf j).toNat)
  case atStart => exact ⟨0, Nat.zero_le _, rfl, HO1, Touch.refl _ _⟩
  case round =>
    obtain ⟨k, hk, rfl, ho, ht⟩ := hrel
    have n0 : ¬ w.heap.size = w.heap.size + 2 := by omega
    have n1 : ¬ w.heap.size + 1 = w.heap.size + 2 := by omega
    have R0 := Lib.hid (blk_touch ht.out G0.out n0)
    have R1 := Lib.hid (blk_touch ht.out G1.out n1)
    have k0 := blk_cell R0.out 0; have k1 := blk_cell R0.out 1; have k2 := blk_cell R0.out 2; have k3 := blk_cell R0.out 3; have k4 := blk_cell R0.out 4
    simp at k0 k1 k2 k3 k4
    have hB : Hid (Below w.heap.size w wr) := (Touch.below ht.out (B := w.heap.size) (by have := hB1.out.size; omega) (fun k e => by omega)) |> fun z => hB1.out.trans (z.mono (Nat.le_refl _))
    by_cases hlt : k < d.waits.length
    · obtain ⟨gw, rfl, hfw, a1, a2⟩ := H.out.wait _ _ rfl k hlt
      have hgw : gw < w.heap.size := H.out.lt gw hfw
      obtain ⟨hx0, hx1⟩ := hno d.waits[k] (List.getElem_mem hlt)
      obtain ⟨n, hn⟩ := Int.eq_ofNat_of_zero_le hx0
      rw [hn] at hx1 a1
      have e1 := cell_below hB.out a1
      have e2 := cell_below hB.out a2
      have hn1 : n < d.l.length := by omega
      have e5 : wr.cell? ⟨w.heap.size + 2, n, none⟩ = some (.string ((Dk.settle p 0 (d.waits.take k) d.l).getD n ByteArray.empty)) := by
        have := ho.out.cellAt n (by omega)
        rw [this]
        have hl : n < (Dk.settle p 0 (d.waits.take k) d.l).length := by rw [Dk.settle_length]; exact hn1
        simp [strs, List.getElem?_map, List.getElem?_eq_getElem hl]
      have f5 := ho.out.frozenAt (g := w.heap.size + 2) n
      have hts : d.waits.take (k + 1) = d.waits.take k ++ [d.waits[k]] := by rw [List.take_succ_eq_append_getElem hlt]
      have hss := Lib.hid (settle_snoc p d.waits[k] (d.waits.take k) 0 d.l)
      rw [← hts, hn] at hss
      have hlk : (d.waits.take k).length = k := by simp; omega
      rw [hlk, Nat.zero_add] at hss
      clear a1 a2 hn hts hlk hx0 hx1
      have ne1 : ¬ gw = w.heap.size + 2 := by omega
      cases all with
      | true =>
        have hpk : Hid (p k = true) := by unfold Hid; rw [HP.out]; rfl
        have hss2 := Lib.hid (hss.out.trans (if_pos hpk.out))
        clear hpk hss
        go_wp2_with fail
        refine wp_region_flag (fun w' => w'.cell? ⟨w.heap.size, 1, none⟩ = some (.slice (some ⟨gw, 0, none⟩) d.waits.length c) ∧ w'.cell? ⟨gw, k * 2, none⟩ = some (.int .i64 (n : Int))) [(0, 1), (1, 1), (3, 1), (7, 1), (9, 1), (2, 2), (4, 1), (5, 1), (6, 2), (8, 0), (10, 1), (11, 1), (12, 0), (13, 1), (14, 0)] (by kernel_rfl) (by kernel_rfl) ⟨k1, e1⟩ ?_
        simp only [ordered, List.map_cons, List.map_nil, List.getD_cons_zero, List.getD_cons_succ]
        repeat (refine wpF_dry (fun K hK => ?_); go_simp; refine hK _ ?_; clear hK K)
        refine wpF_read (.slice (some ⟨gw, 0, none⟩) d.waits.length c) rfl (fun w' hS => by obtain ⟨s1, s2⟩ := hS; go_simp) (fun K hK => ?_)
        go_simp
        refine hK _ ?_
        clear hK K
        repeat (refine wpF_dry (fun K hK => ?_); go_simp; refine hK _ ?_; clear hK K)
        refine wpF_read (.int .i64 (n : Int)) rfl (fun w' hS => by obtain ⟨s1, s2⟩ := hS; go_simp) (fun K hK => ?_)
        go_simp
        refine hK _ ?_
        clear hK K
        refine wpF_do ?_
        go_wp2_with fail
        refine ⟨⟨k1, e1⟩, ?_⟩
        repeat (refine wpF_dry (fun K hK => ?_); go_simp; refine hK _ ?_; clear hK K)
        refine wpF_do ?_
        go_wp2_with fail
        refine ⟨⟨k1, e1⟩, ?_⟩
        repeat (refine wpF_dry (fun K hK => ?_); go_simp; refine hK _ ?_; clear hK K)
        refine wpF_do ?_
        go_wp2_with fail
        refine ⟨⟨(cell_keep (S := fun k => k = w.heap.size + 2) (Touch.setG (Touch.refl _ _) _ _) k1 (by simp)), (cell_keep (S := fun k => k = w.heap.size + 2) (Touch.setG (Touch.refl _ _) _ _) e1 (by show ¬ gw = _; omega))⟩, ?_⟩
        refine wpF_nil ?_
        go_wp2
        go_roundw
        case rel =>
          refine ⟨k + 1, by omega, by go_num, ?_, (ht.out.setCell (p := ⟨w.heap.size + 2, n, none⟩) (.inl rfl) _).drew⟩
          have st := (ho.out.stored n (.string d.waits[k].2)).1
          rw [hss2.out]
          simp only [strs, List.map_set, Int.toNat_natCast] at st ⊢
          exact st
        case measure => simp [intOf]; omega
      | false =>
        by_cases hkp : k < picks.length
        · have hx : ∃ ad, A0 = some ad ∧ wr.cell? (ad.add k) = some (.bool (picks.getD k false)) := by
            obtain ⟨_, A', c', e, _, _, h3⟩ := Rd.below HR.out hB.out
            injection e with e1 e2 e3
            subst e1
            obtain ⟨ad, rfl, hc⟩ := h3 (by omega)
            exact ⟨ad, rfl, hc k _ (by simp [List.getElem?_map, List.getElem?_eq_getElem hkp])⟩
          obtain ⟨ad, rfl, hx⟩ := hx
          have hkd : decide (k < picks.length) = true := by simpa using hkp
          have HG : Hid (p k = picks.getD k false) := by unfold Hid; rw [HP.out]; rfl
          obtain ⟨b, hb⟩ : ∃ b, b = picks.getD k false := ⟨_, rfl⟩
          rw [← hb] at hx HG
          clear hb
          cases b with
          | true =>
            have hpk : Hid (p k = true) := HG.out
            have hss2 := Lib.hid (hss.out.trans (if_pos hpk.out))
            clear hpk hss
            go_wp2_with fail
            refine wp_region_flag (fun w' => w'.cell? ⟨w.heap.size, 1, none⟩ = some (.slice (some ⟨gw, 0, none⟩) d.waits.length c) ∧ w'.cell? ⟨gw, k * 2, none⟩ = some (.int .i64 (n : Int))) [(0, 1), (1, 1), (3, 1), (7, 1), (9, 1), (2, 2), (4, 1), (5, 1), (6, 2), (8, 0), (10, 1), (11, 1), (12, 0), (13, 1), (14, 0)] (by kernel_rfl) (by kernel_rfl) ⟨k1, e1⟩ ?_
            simp only [ordered, List.map_cons, List.map_nil, List.getD_cons_zero, List.getD_cons_succ]
            repeat (refine wpF_dry (fun K hK => ?_); go_simp; refine hK _ ?_; clear hK K)
            refine wpF_read (.slice (some ⟨gw, 0, none⟩) d.waits.length c) rfl (fun w' hS => by obtain ⟨s1, s2⟩ := hS; go_simp) (fun K hK => ?_)
            go_simp
            refine hK _ ?_
            clear hK K
            repeat (refine wpF_dry (fun K hK => ?_); go_simp; refine hK _ ?_; clear hK K)
            refine wpF_read (.int .i64 (n : Int)) rfl (fun w' hS => by obtain ⟨s1, s2⟩ := hS; go_simp) (fun K hK => ?_)
            go_simp
            refine hK _ ?_
            clear hK K
            refine wpF_do ?_
            go_wp2_with fail
            refine ⟨⟨k1, e1⟩, ?_⟩
            repeat (refine wpF_dry (fun K hK => ?_); go_simp; refine hK _ ?_; clear hK K)
            refine wpF_do ?_
            go_wp2_with fail
            refine ⟨⟨k1, e1⟩, ?_⟩
            repeat (refine wpF_dry (fun K hK => ?_); go_simp; refine hK _ ?_; clear hK K)
            refine wpF_do ?_
            go_wp2_with fail
            refine ⟨⟨(cell_keep (S := fun k => k = w.heap.size + 2) (Touch.setG (Touch.refl _ _) _ _) k1 (by simp)), (cell_keep (S := fun k => k = w.heap.size + 2) (Touch.setG (Touch.refl _ _) _ _) e1 (by show ¬ gw = _; omega))⟩, ?_⟩
            refine wpF_nil ?_
            go_wp2
            go_roundw
            case rel =>
              refine ⟨k + 1, by omega, by go_num, ?_, (ht.out.setCell (p := ⟨w.heap.size + 2, n, none⟩) (.inl rfl) _).drew⟩
              have st := (ho.out.stored n (.string d.waits[k].2)).1
              rw [hss2.out]
              simp only [strs, List.map_set, Int.toNat_natCast] at st ⊢
              exact st
            case measure => simp [intOf]; omega
          | false =>
            have hss2 := Lib.hid (hss.out.trans (if_neg (by rw [HG.out]; decide)))
            clear HG hss
            go_wp2
            go_roundw
            case rel => exact ⟨k + 1, by omega, by go_num, by rw [hss2.out]; exact ho, ht⟩
            case measure => simp [intOf]; omega
        · have hkd : decide (k < picks.length) = false := by simpa using hkp
          have hpk : p k = false := by rw [HP.out]; simp [rpick, List.getD_eq_getElem?_getD, List.getElem?_eq_none (Nat.le_of_not_lt hkp)]
          have hss2 := Lib.hid (hss.out.trans (if_neg (by rw [hpk]; decide)))
          clear hpk hss hkp
          go_wp2
          go_roundw
          case rel => exact ⟨k + 1, by omega, by go_num, by rw [hss2.out]; exact ho, ht⟩
          case measure => simp [intOf]; omega
    · have hl : Hid (d.waits.take k = d.waits) := List.take_of_length_le (by omega)
      have f0 := blk_free R0.out 0; have f1 := blk_free R0.out 1; have f2 := blk_free R0.out 2; have f4 := blk_free R0.out 4
      have z0 := blk_cell R1.out 0; have z1 := blk_cell R1.out 1; have z2 := blk_cell R1.out 2; have z3 := blk_cell R1.out 3; have z4 := blk_cell R1.out 4
      have y0 := blk_free R1.out 0; have y1 := blk_free R1.out 1; have y2 := blk_free R1.out 2; have y3 := blk_free R1.out 3; have y4 := blk_free R1.out 4
      simp at z0 z1 z2 z3 z4
      have hoo := ho.out
      rw [hl.out, HP.out] at hoo
      have HOO := Lib.hid hoo
      have W0 : Hid (Touch (fun k => k = w.heap.size ∨ k = w.heap.size + 1) wr wr) := Touch.refl _ _
      clear hoo
      cases all with
      | true =>
        go_wp2
        refine bodyPost_ret (ret_ref1 rfl _ rfl (set5_blk (w := ((wr.setCell ⟨w.heap.size, 0, none⟩ (.slice (some ⟨w.heap.size + 2, 0, none⟩) d.l.length cp)).setCell ⟨w.heap.size, 1, none⟩ (.slice none 0 0))) (by rw [blk_set_ne (by simp), blk_set_ne (by simp)]; exact R1.out))) rfl ?_
        refine ⟨_, _, rfl, rfail_to H.out.ok hB.out HOO.out (set5_touch ?_ (.inr rfl))⟩
        exact ((W0.out.setCell (p := ⟨w.heap.size, 0, none⟩) (.inl (.inl rfl)) _).setCell (p := ⟨w.heap.size, 1, none⟩) (.inl (.inl rfl)) _)
      | false =>
        go_wp2
        refine bodyPost_ret (ret_ref1 rfl _ rfl (set5_blk (w := ((((wr.setCell ⟨w.heap.size, 0, none⟩ (.slice (some ⟨w.heap.size + 2, 0, none⟩) d.l.length cp)).setCell ⟨w.heap.size, 1, none⟩ (.slice none 0 0)).setCell ⟨w.heap.size, 4, none⟩ (.bool true)).setCell ⟨w.heap.size, 2, none⟩ (.int .i64 0))) (by rw [blk_set_ne (by simp), blk_set_ne (by simp), blk_set_ne (by simp), blk_set_ne (by simp)]; exact R1.out))) rfl ?_
        refine ⟨_, _, rfl, rfail_to H.out.ok hB.out HOO.out (set5_touch ?_ (.inr rfl))⟩
        exact ((((W0.out.setCell (p := ⟨w.heap.size, 0, none⟩) (.inl (.inl rfl)) _).setCell (p := ⟨w.heap.size, 1, none⟩) (.inl (.inl rfl)) _).setCell (p := ⟨w.heap.size, 4, none⟩) (.inl (.inl rfl)) _).setCell (p := ⟨w.heap.size, 2, none⟩) (.inl (.inl rfl)) _)
end Go.Proofs.Ytfkonndbgmmckaa
