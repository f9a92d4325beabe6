/- Disk5: the walks of settle at Flush$1, of Flush and of Fail. -/
import Derived.Test.YtoolkamajlgcbaaDisk4
set_option linter.unusedVariables false
set_option linter.unusedSimpArgs false
namespace Go.Proofs.Ytoolkamajlgcbaa
open Go.RowKit

theorem flush1_any (w : World) (i : Int) : Calls Try.prog 83 #[.int .i64 i] w fun e w' => e = .returned (.bool true) ∧ w = w' := by
  go_enter Try.func83, Try.ntmps83
  go_wp2
  go_ret
  exact ⟨rfl, rfl⟩

set_option maxHeartbeats 800000 in
set_option maxRecDepth 100000 in
theorem settle_flush (w : World) (F : Nat → Prop) (g : Nat) (d : Dk) (vl vw : Value) (h : IsDisk w F g d vl vw) (hm : d.waits.length < 9223372036854775807) :
    Calls Try.prog 56 #[.pointer (some ⟨g, 0, none⟩), .func (.func 83) #[] #[]] w fun e w' => e = .returned (.tuple #[]) ∧
      IsDisk w' F g (d.settled (fun _ => true)) vl (.slice none 0 0) ∧ Touch F w w' := by
  obtain ⟨p, hp⟩ : ∃ p : Nat → Bool, p = fun _ => true := ⟨_, rfl⟩
  obtain ⟨gl, cl, rfl, hfl, _, hfree⟩ := h.sector
  have c0 := blk_cell h.blk 0
  have c1 := blk_cell h.blk 1
  simp at c0 c1
  obtain ⟨A, c, rfl⟩ := own_slice h.ownW
  have hno := h.ok.at_
  have hlen := h.ok.most
  have HP := Lib.hid hp
  clear hp
  go_enter Try.func56, Try.ntmps56
  go_wp2_with fail
  go_loopw [11] (fun j wr => ∃ k : Nat, k ≤ d.waits.length ∧ j = .int .i64 k ∧ wr.ownsRow 0 9 1 (.slice (some ⟨gl, 0, none⟩) d.l.length cl) d.l.length (strs (Dk.settle p 0 (d.waits.take k) d.l)) ∧ Touch (fun k => k = gl) w wr) (fun j _ => d.waits.length - (intOf j).toNat)
  case atStart => exact ⟨0, Nat.zero_le _, rfl, h.own, Touch.refl _ _⟩
  case round =>
    obtain ⟨k, hk, rfl, ho, ht⟩ := hrel
    have ngl : ¬ g = gl := fun e => own_ne_blk h.own h.blk (by decide) (by rw [← e]; rfl)
    have hT := Lib.hid ht
    have hO := Lib.hid ho
    have hsz := ht.size
    have c0' := cell_keep ht c0 ngl
    have c1' := cell_keep ht c1 ngl
    have f1 : wr.frozen? ⟨g, 1, none⟩ = false := blk_free (blk_touch ht h.blk ngl) 1
    by_cases hlt : k < d.waits.length
    · obtain ⟨gw, rfl, hfw, a1, a2⟩ := h.wait _ _ rfl k hlt
      have nw : ¬ gw = gl := fun e => by
        rcases own_ne_own h.ownW h.own (by decide) with h' | h'
        · simp [Value.ownBlock] at h'
        · exact h' (by simp [Value.ownBlock, e])
      obtain ⟨hx0, hx1⟩ := hno d.waits[k] (List.getElem_mem hlt)
      obtain ⟨n, hn⟩ := Int.eq_ofNat_of_zero_le hx0
      rw [hn] at hx1 a1
      have e1 := cell_keep ht a1 nw
      have e2 := cell_keep ht a2 nw
      have hn1 : n < d.l.length := by omega
      have e5 : wr.cell? ⟨gl, n, none⟩ = some (.string ((Dk.settle p 0 (d.waits.take k) d.l).getD n ByteArray.empty)) := by
        have := ho.cellAt n (by omega)
        rw [this]
        have hl : n < (Dk.settle p 0 (d.waits.take k) d.l).length := by rw [Dk.settle_length]; exact hn1
        simp [strs, List.getElem?_map, List.getElem?_eq_getElem hl]
      have f5 := ho.frozenAt (g := gl) n
      have hts : d.waits.take (k + 1) = d.waits.take k ++ [d.waits[k]] := by rw [List.take_succ_eq_append_getElem hlt]
      have hss := settle_snoc p d.waits[k] (d.waits.take k) 0 d.l
      rw [← hts] at hss
      have hlk : (d.waits.take k).length = k := by simp; omega
      rw [hlk, Nat.zero_add] at hss
      have HC : Hid (Calls Try.prog 83 #[.int .i64 k] (wr.alloc (.cells #[.int .i64 n, .string d.waits[k].2] 121)) fun e w' => e = .returned (.bool true) ∧ (wr.alloc (.cells #[.int .i64 n, .string d.waits[k].2] 121)) = w') := flush1_any _ _
      have bal : Below wr.heap.size wr (wr.alloc (.cells #[.int .i64 n, .string d.waits[k].2] 121)) := (Below.refl _ wr).alloc (Nat.le_refl _) _
      have r0 := cell_below bal c0'
      have r5 := cell_below bal e5
      have fr5 : (wr.alloc (.cells #[.int .i64 n, .string d.waits[k].2] 121)).frozen? ⟨gl, n, none⟩ = false := (bal.frozen (p := ⟨gl, n, none⟩) (World.block_lt_of_cell? _ _ e5)).trans f5
      by_cases hpk : true = true
      · have hpk' : p k = true := by rw [HP.out]
        rw [if_pos hpk', hn] at hss
        have HS := Lib.hid hss
        clear a1 a2 ho ht hss hts hpk hpk' hn
        go_wp2_with (go_at_call 83; refine HC.out.mono ?_; rintro e w' ⟨rfl, rfl⟩)
        go_region
        all_goals go_wp2
        go_roundw
        case rel =>
          refine ⟨k + 1, by omega, by go_num, ?_, (((hT.out.alloc _).setCell (p := ⟨gl, n, none⟩) (.inl rfl) _).drew)⟩
          have st := ((hO.out.alloc (.cells #[.int .i64 n, .string d.waits[k].2] 121)).stored n (.string d.waits[k].2)).1
          rw [HS.out]
          simp only [strs, List.map_set, Int.toNat_natCast] at st ⊢
          exact st
        case measure => simp [intOf]; omega
      · exact absurd rfl hpk
    · have hl : Hid (d.waits.take k = d.waits) := List.take_of_length_le (by omega)
      have H : Hid (IsDisk w F g d _ _) := h
      have hB := Lib.hid (blk_touch ht h.blk ngl)
      clear ho ht h
      go_wp2
      go_end0
      have h := H.out
      have t2 : Touch F w (wr.setCell ⟨g, 1, none⟩ (.slice none 0 0)) := (hT.out.mono (fun k _ e => by subst e; exact hfl)).setCell (p := ⟨g, 1, none⟩) (.inl h.fg) _
      refine ⟨rfl, ⟨?_, ?_, World.ownsRow_nil _ _ _ _, h.fg, h.fl, fun k hk => by simp [Value.ownBlock] at hk, fun k hk => Nat.lt_of_lt_of_le (h.lt k hk) t2.size, ?_⟩, t2⟩
      · rw [blk_set hB.out]; rfl
      · have o2 := ownsRow_setCell_other hO.out (a := ⟨g, 1, none⟩) (by simp only [Value.ownBlock]; intro e; injection e with e; exact ngl e.symm) (.slice none 0 0)
        rw [hl.out] at o2
        have e : (d.settled (fun _ => true)).l = Dk.settle p 0 d.waits d.l := by rw [HP.out]; rfl
        rw [e, Dk.settle_length]
        exact o2
      · exact h.ok.settled _

theorem flush_any (w : World) (F : Nat → Prop) (g : Nat) (d : Dk) (vl vw : Value) (h : IsDisk w F g d vl vw) (hm : d.waits.length < 9223372036854775807) :
    Calls Try.prog 76 #[.pointer (some ⟨g, 0, none⟩)] w fun e w' => e = .returned (.int .i64 (d.use 0)) ∧ DiskTo w F g d.flush w' := by
  by_cases hu : d.use 0 = 0
  · have hd : Hid (d.flush = d.settled (fun _ => true)) := by unfold Hid Dk.flush; rw [if_pos hu]
    have HU := Lib.hid hu
    clear hu
    go_enter Try.func76, Try.ntmps76
    go_wp2_with (first
      | (go_at_call 69; refine (use_any _ _ _ _ _ _ h _).mono ?_; rintro e w' ⟨rfl, rfl⟩; rw [HU.out])
      | (go_at_call 56; refine (settle_flush _ _ _ _ _ _ h hm).mono ?_; rintro e w' ⟨rfl, h2, t2⟩; have H2 := Lib.hid h2; have T2 := Lib.hid t2; clear h2 t2))
    go_ret
    exact ⟨by rw [HU.out]; rfl, by rw [hd.out]; exact ⟨F, vl, _, (by assumption : Hid (IsDisk _ _ _ _ _ _)).out, fun k hk => .inl hk, (by assumption : Hid (Touch _ _ _)).out⟩⟩
  · have hu1 : (d.use 0 == 0) = false := by simp [hu]
    have hd : Hid (d.flush = d) := by unfold Hid Dk.flush; rw [if_neg hu]
    clear hu
    go_enter Try.func76, Try.ntmps76
    go_wp2_with (first
      | (go_at_call 69; refine (use_any _ _ _ _ _ _ h _).mono ?_; rintro e w' ⟨rfl, rfl⟩))
    go_ret
    exact ⟨rfl, by rw [hd.out]; exact h.self⟩

theorem fail_any (w : World) (F : Nat → Prop) (g : Nat) (d : Dk) (vl vw : Value) (h : IsDisk w F g d vl vw) (hm : d.waits.length < 9223372036854775807)
    (pv : Value) (picks : List Bool) (hr : RdB w pv picks) (hpv : 0 < picks.length → ∀ k, pv.ownBlock = some k → ¬ F k) :
    Calls Try.prog 24 #[.pointer (some ⟨g, 0, none⟩), pv] w fun e w' => e = .returned (.tuple #[]) ∧ DiskTo w F g (d.fail picks) w' := by
  have hr' := hr
  obtain ⟨hl, A, c, rfl, h1, h2, h3⟩ := hr'
  have bal : Below w.heap.size w (w.alloc (.cells #[.slice A picks.length c] 72)) := (Below.refl _ w).alloc (Nat.le_refl _) _
  have hA : IsDisk (w.alloc (.cells #[.slice A picks.length c] 72)) F g d vl vw := h.keep (S := fun _ => False) (Touch.of_below bal) (fun _ _ hf => hf)
  have hs := settle_fail _ F g d vl vw hA hm w.heap.size (.slice A picks.length c) picks (cell_of_one (blk_new w _)) (Rd.below hr bal) (fun hF => Nat.lt_irrefl _ (h.lt _ hF)) hpv
  have HS := Lib.hid hs
  clear hs
  go_enter Try.func24, Try.ntmps24
  go_wp2_with (first
      | (go_at_call 56; refine HS.out.mono ?_; rintro e w' ⟨rfl, h2, t2⟩; have k2 := blk_cell h2.blk 2; have k4 := blk_cell h2.blk 4; have f2 := blk_free h2.blk 2; have f4 := blk_free h2.blk 4; simp at k2 k4; have H2 := Lib.hid h2; have T2 := Lib.hid t2; clear h2 t2))
  go_end0
  refine ⟨rfl, ?_⟩
  have t3 : Touch (fun k => k = g) w' ((w'.setCell ⟨g, 4, none⟩ (.bool true)).setCell ⟨g, 2, none⟩ (.int .i64 0)) := ((Touch.refl _ _).setG 4 _).setG 2 _
  have h3 := H2.out.upd (d' := d.fail picks) rfl rfl (h.ok.fail picks) t3 (by rw [blk_set (blk_set H2.out.blk 4 _) 2 _]; rfl)
  exact ⟨F, vl, _, h3, fun k hk => .inl hk, ((Touch.of_below bal).trans T2.out (fun _ _ x => x)).trans t3 (fun _ _ e => by subst e; exact h.fg)⟩
end Go.Proofs.Ytoolkamajlgcbaa
