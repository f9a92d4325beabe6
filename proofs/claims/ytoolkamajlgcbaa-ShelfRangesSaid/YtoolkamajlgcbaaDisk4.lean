/- Disk4: the walks of Fail$1 and settle. -/
import Derived.Test.YtoolkamajlgcbaaDisk3
set_option linter.unusedVariables false
set_option linter.unusedSimpArgs false
namespace Go.Proofs.Ytoolkamajlgcbaa
open Go.RowKit

theorem settle_snoc (p : Nat → Bool) (w : Int × ByteArray) (ws : List (Int × ByteArray)) : ∀ (n : Nat) (l : List ByteArray),
    Dk.settle p n (ws ++ [w]) l = if p (n + ws.length) = true then (Dk.settle p n ws l).set w.1.toNat w.2 else Dk.settle p n ws l := by
  induction ws with
  | nil => intro n l; rfl
  | cons x ws ih =>
    intro n l
    have := ih (n + 1) (if p n = true then l.set x.1.toNat x.2 else l)
    rw [List.cons_append, Dk.settle, this, List.length_cons, show n + 1 + ws.length = n + (ws.length + 1) by omega]
    rfl

/-- Bools that are read. -/
def RdB (w : World) (v : Value) (l : List Bool) : Prop := Rd w 1 v l.length (l.map Value.bool)
theorem Rd.touch {w w' : World} {S : Nat → Prop} {size n : Nat} {v : Value} {xs : List Value} (h : Rd w size v n xs) (ht : Touch S w w') (hS : 0 < n * size → ∀ k, v.ownBlock = some k → ¬ S k) : Rd w' size v n xs := by
  obtain ⟨hl, A, c, rfl, h1, h2, h3⟩ := h
  refine ⟨hl, A, c, rfl, h1, h2, fun hp => ?_⟩
  obtain ⟨ad, e, hc⟩ := h3 hp
  refine ⟨ad, e, fun j u hu => cell_keep ht (hc j u hu) ?_⟩
  have : (ad.add j).block = ad.block := by unfold Addr.add; split <;> rfl
  rw [this]
  exact hS hp _ (by rw [e]; rfl)

theorem fail1_any (w : World) (pb : Nat) (pv : Value) (picks : List Bool) (hc : w.cell? ⟨pb, 0, none⟩ = some pv) (hr : RdB w pv picks) (i : Nat) (hi : i < 9223372036854775807) :
    Calls Try.prog 57 #[.int .i64 i, .pointer (some ⟨pb, 0, none⟩)] w fun e w' => e = .returned (.bool (picks.getD i false)) ∧ w = w' := by
  obtain ⟨hl, A, c, rfl, h1, h2, h3⟩ := hr
  by_cases hlt : i < picks.length
  · obtain ⟨ad, rfl, hcell⟩ := h3 (by omega)
    have hx := hcell i (.bool picks[i]) (by simp [List.getElem?_eq_getElem hlt])
    have hg : Hid (picks.getD i false = picks[i]) := by unfold Hid; simp [List.getD_eq_getElem?_getD, hlt]
    have hd : decide (i < picks.length) = true := by simp [hlt]
    go_enter Try.func57, Try.ntmps57
    go_wp2
    go_ret
    exact ⟨by rw [hg.out]; rfl, rfl⟩
  · have hg : Hid (picks.getD i false = false) := by unfold Hid; simp [List.getD_eq_getElem?_getD, List.getElem?_eq_none (Nat.le_of_not_lt hlt)]
    have hd : decide (i < picks.length) = false := by simp [hlt]
    go_enter Try.func57, Try.ntmps57
    go_wp2
    go_ret
    exact ⟨by rw [hg.out]; rfl, rfl⟩

set_option maxHeartbeats 800000 in
set_option maxRecDepth 100000 in
theorem settle_fail (w : World) (F : Nat → Prop) (g : Nat) (d : Dk) (vl vw : Value) (h : IsDisk w F g d vl vw) (hm : d.waits.length < 9223372036854775807)
    (pb : Nat) (pv : Value) (picks : List Bool) (hc : w.cell? ⟨pb, 0, none⟩ = some pv) (hr : RdB w pv picks) (hpb : ¬ F pb) (hpv : 0 < picks.length → ∀ k, pv.ownBlock = some k → ¬ F k) :
    Calls Try.prog 56 #[.pointer (some ⟨g, 0, none⟩), .func (.func 57) #[] #[.pointer (some ⟨pb, 0, none⟩)]] w fun e w' => e = .returned (.tuple #[]) ∧
      IsDisk w' F g (d.settled (fun i => picks.getD i false)) vl (.slice none 0 0) ∧ Touch F w w' := by
  obtain ⟨p, hp⟩ : ∃ p : Nat → Bool, p = fun i => picks.getD i false := ⟨_, rfl⟩
  obtain ⟨gl, cl, rfl, hfl, _, hfree⟩ := h.sector
  have c0 := blk_cell h.blk 0
  have c1 := blk_cell h.blk 1
  simp at c0 c1
  obtain ⟨A, c, rfl⟩ := own_slice h.ownW
  have hno := h.ok.at_
  have hlen := h.ok.most
  have HP := Lib.hid hp
  clear hp
  go_enter Try.func56, Try.ntmps56
  go_wp2_with fail
  go_loopw [11] (fun j wr => ∃ k : Nat, k ≤ d.waits.length ∧ j = .int .i64 k ∧ wr.ownsRow 0 9 1 (.slice (some ⟨gl, 0, none⟩) d.l.length cl) d.l.length (strs (Dk.settle p 0 (d.waits.take k) d.l)) ∧ Touch (fun k => k = gl) w wr) (fun j _ => d.waits.length - (intOf j).toNat)
  case atStart => exact ⟨0, Nat.zero_le _, rfl, h.own, Touch.refl _ _⟩
  case round =>
    obtain ⟨k, hk, rfl, ho, ht⟩ := hrel
    have ngl : ¬ g = gl := fun e => own_ne_blk h.own h.blk (by decide) (by rw [← e]; rfl)
    have hT := Lib.hid ht
    have hO := Lib.hid ho
    have hsz := ht.size
    have c0' := cell_keep ht c0 ngl
    have c1' := cell_keep ht c1 ngl
    have f1 : wr.frozen? ⟨g, 1, none⟩ = false := blk_free (blk_touch ht h.blk ngl) 1
    by_cases hlt : k < d.waits.length
    · obtain ⟨gw, rfl, hfw, a1, a2⟩ := h.wait _ _ rfl k hlt
      have nw : ¬ gw = gl := fun e => by
        rcases own_ne_own h.ownW h.own (by decide) with h' | h'
        · simp [Value.ownBlock] at h'
        · exact h' (by simp [Value.ownBlock, e])
      obtain ⟨hx0, hx1⟩ := hno d.waits[k] (List.getElem_mem hlt)
      obtain ⟨n, hn⟩ := Int.eq_ofNat_of_zero_le hx0
      rw [hn] at hx1 a1
      have e1 := cell_keep ht a1 nw
      have e2 := cell_keep ht a2 nw
      have e3 : wr.cell? ⟨pb, 0, none⟩ = some pv := cell_keep ht hc (fun e => hpb (by rw [show pb = gl from e]; exact hfl))
      have e4 : RdB wr pv picks := Rd.touch hr ht (fun hp j hj e => hpv (by omega) j hj (by rw [e]; exact hfl))
      have hn1 : n < d.l.length := by omega
      have e5 : wr.cell? ⟨gl, n, none⟩ = some (.string ((Dk.settle p 0 (d.waits.take k) d.l).getD n ByteArray.empty)) := by
        have := ho.cellAt n (by omega)
        rw [this]
        have hl : n < (Dk.settle p 0 (d.waits.take k) d.l).length := by rw [Dk.settle_length]; exact hn1
        simp [strs, List.getElem?_map, List.getElem?_eq_getElem hl]
      have f5 := ho.frozenAt (g := gl) n
      have hts : d.waits.take (k + 1) = d.waits.take k ++ [d.waits[k]] := by rw [List.take_succ_eq_append_getElem hlt]
      have hss := settle_snoc p d.waits[k] (d.waits.take k) 0 d.l
      rw [← hts] at hss
      have hlk : (d.waits.take k).length = k := by simp; omega
      rw [hlk, Nat.zero_add] at hss
      have E4 := Lib.hid e4
      have hcall : Calls Try.prog 57 #[.int .i64 k, .pointer (some ⟨pb, 0, none⟩)] (wr.alloc (.cells #[.int .i64 n, .string d.waits[k].2] 121)) fun e w' => e = .returned (.bool (picks.getD k false)) ∧ (wr.alloc (.cells #[.int .i64 n, .string d.waits[k].2] 121)) = w' :=
        fail1_any _ pb pv picks (cell_below ((Below.refl _ wr).alloc (Nat.le_refl _) _) e3) (Rd.below e4 ((Below.refl _ wr).alloc (Nat.le_refl _) _)) k (by omega)
      have HC := Lib.hid hcall
      have bal : Below wr.heap.size wr (wr.alloc (.cells #[.int .i64 n, .string d.waits[k].2] 121)) := (Below.refl _ wr).alloc (Nat.le_refl _) _
      have r0 := cell_below bal c0'
      have r5 := cell_below bal e5
      have fr5 : (wr.alloc (.cells #[.int .i64 n, .string d.waits[k].2] 121)).frozen? ⟨gl, n, none⟩ = false := (bal.frozen (p := ⟨gl, n, none⟩) (World.block_lt_of_cell? _ _ e5)).trans f5
      by_cases hpk : picks.getD k false = true
      · have hpk' : p k = true := by rw [HP.out]; exact hpk
        rw [if_pos hpk', hn] at hss
        have HS := Lib.hid hss
        have HPK := Lib.hid hpk
        clear a1 a2 ho ht hcall e4 hss hts hpk hpk' hn hr hc
        go_wp2_with (go_at_call 57; refine HC.out.mono ?_; rintro e w' ⟨rfl, rfl⟩; rw [HPK.out])
        go_region
        all_goals go_wp2
        go_roundw
        case rel =>
          refine ⟨k + 1, by omega, by go_num, ?_, (((hT.out.alloc _).setCell (p := ⟨gl, n, none⟩) (.inl rfl) _).drew)⟩
          have st := ((hO.out.alloc (.cells #[.int .i64 n, .string d.waits[k].2] 121)).stored n (.string d.waits[k].2)).1
          rw [HS.out]
          simp only [strs, List.map_set, Int.toNat_natCast] at st ⊢
          exact st
        case measure => simp [intOf]; omega
      · have hpk' : p k = false := by rw [HP.out]; simpa using hpk
        rw [if_neg (by rw [hpk']; decide)] at hss
        have hpk2 : picks.getD k false = false := by simpa using hpk
        have HS := Lib.hid hss
        have HPK := Lib.hid hpk2
        clear a1 a2 ho ht hcall e4 hss hts hpk hpk' hpk2 hn hr hc
        go_wp2_with (go_at_call 57; refine HC.out.mono ?_; rintro e w' ⟨rfl, rfl⟩; rw [HPK.out])
        go_roundw
        case rel => exact ⟨k + 1, by omega, by go_num, by rw [HS.out]; exact hO.out.alloc _, hT.out.alloc _⟩
        case measure => simp [intOf]; omega
    · have hl : Hid (d.waits.take k = d.waits) := List.take_of_length_le (by omega)
      have H : Hid (IsDisk w F g d _ _) := h
      have hB := Lib.hid (blk_touch ht h.blk ngl)
      clear ho ht h hr hc
      go_wp2
      go_end0
      have h := H.out
      have t2 : Touch F w (wr.setCell ⟨g, 1, none⟩ (.slice none 0 0)) := (hT.out.mono (fun k _ e => by subst e; exact hfl)).setCell (p := ⟨g, 1, none⟩) (.inl h.fg) _
      refine ⟨rfl, ⟨?_, ?_, World.ownsRow_nil _ _ _ _, h.fg, h.fl, fun k hk => by simp [Value.ownBlock] at hk, fun k hk => Nat.lt_of_lt_of_le (h.lt k hk) t2.size, ?_⟩, t2⟩
      · rw [blk_set hB.out]; rfl
      · have o2 := ownsRow_setCell_other hO.out (a := ⟨g, 1, none⟩) (by simp only [Value.ownBlock]; intro e; injection e with e; exact ngl e.symm) (.slice none 0 0)
        rw [hl.out] at o2
        have e : (d.settled (fun i => picks.getD i false)).l = Dk.settle p 0 d.waits d.l := by rw [HP.out]; rfl
        rw [e, Dk.settle_length]
        exact o2
      · exact h.ok.settled _
end Go.Proofs.Ytoolkamajlgcbaa
