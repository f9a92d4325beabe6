/- PlC: the walks of the document's Runs, Same. -/
import Derived.Test.YthloinmnojlleaaPlB
set_option linter.unusedVariables false
set_option linter.unusedSimpArgs false
namespace Go.Proofs.Ythloinmnojlleaa
open Go.RowKit

theorem bump_length : ∀ L : List (Nat × Nat), (bump L).length = L.length
  | [] => rfl
  | [x] => rfl
  | x :: y :: l => by rw [bump_cons x (by simp), List.length_cons, bump_length (y :: l)]; rfl
theorem runsK_len (b : Bool) (l : List Bool) : ∀ k, (runsK b l k).length ≤ k
  | 0 => by simp [runsK]
  | k + 1 => by
    have := runsK_len b l k
    rw [runsK]
    split
    · split
      · rw [bump_length]; omega
      · rw [List.length_append, List.length_singleton]; omega
    · omega
theorem runsK_ne {b : Bool} {l : List Bool} : ∀ {k : Nat}, l.getD k (!b) = b → runsK b l (k + 1) ≠ []
  | 0, h => by rw [runsK, if_pos h, if_neg (by omega)]; simp
  | k + 1, h => by
    rw [runsK, if_pos h]
    split
    · rename_i h2
      have := runsK_ne (k := k) h2.2
      intro e
      have := congrArg List.length e
      rw [bump_length] at this
      simp at this
      contradiction
    · simp
theorem bump_mem {k : Nat} : ∀ {L : List (Nat × Nat)}, (∀ h ∈ L, h.2 ≤ k) → ∀ h ∈ bump L, h.2 ≤ k + 1
  | [], _, h, hh => by simp [bump] at hh
  | [x], hx, h, hh => by
    simp only [bump, List.mem_singleton] at hh
    subst hh
    have := hx x (by simp)
    simp only
    omega
  | x :: y :: l, hx, h, hh => by
    rw [bump_cons x (by simp)] at hh
    rcases List.mem_cons.1 hh with rfl | hh
    · have := hx h (by simp); omega
    · exact bump_mem (fun z hz => hx z (List.mem_cons_of_mem _ hz)) h hh
theorem runsK_small (b : Bool) (l : List Bool) : ∀ k, ∀ h ∈ runsK b l k, h.2 ≤ k
  | 0, h, hh => by simp [runsK] at hh
  | k + 1, h, hh => by
    have ih := runsK_small b l k
    rw [runsK] at hh
    split at hh
    · split at hh
      · exact bump_mem ih h hh
      · rcases List.mem_append.1 hh with hh | hh
        · have := ih h hh; omega
        · simp only [List.mem_singleton] at hh
          subst hh
          simp
    · have := ih h hh; omega
theorem sp_bump : ∀ (L : List (Nat × Nat)) (m : Nat) (hm : L.length = m + 1), sp (bump L) = (sp L).set (m * 2 + 1) (.int .i64 (((L[m]'(by omega)).2 + 1 : Nat) : Int))
  | [x], 0, _ => by simp [bump, sp]
  | x :: y :: l, m + 1, hm => by
    have := sp_bump (y :: l) m (by simpa using hm)
    rw [bump_cons x (by simp), sp, sp, this, show (m + 1) * 2 + 1 = m * 2 + 1 + 1 + 1 by omega]
    rfl
/-- The document's runs. -/
def runsA (b : Bool) (l : List Bool) : List (Nat × Nat) := runsK b l l.length
set_option maxHeartbeats 1600000 in
theorem rruns_any (w : World) (B : Nat) (s : Value) (bits : List Bool) (nx : Int) (hs : OwnL w B s bits) (hl : bits.length ≤ 1048576) (b : Bool) :
    Calls Try.prog 38 #[.agg #[s, .int .i64 nx], .bool b] w fun e w' => ∃ v, e = .returned v ∧ w'.ownsRow w.heap.size 30 2 v (runsA b bits).length (sp (runsA b bits)) ∧ Below w.heap.size w w' := by
  have HS := Lib.hid hs
  obtain ⟨A, c, rfl⟩ := hs.slice
  have r0 := blk_new w (.cells #[.slice A bits.length c, .int .i64 nx] 46)
  have G0 := Lib.hid r0
  have B0 : Hid (Below w.heap.size w (w.alloc (.cells #[.slice A bits.length c, .int .i64 nx] 46))) := (Below.refl _ w).alloc (Nat.le_refl _) _
  obtain ⟨g0, hg0⟩ : ∃ g0, g0 = w.heap.size := ⟨_, rfl⟩
  have HG := Lib.hid hg0
  clear hs r0
  go_enter Try.func38, Try.ntmps38
  clear hg0
  go_wp2_with fail
  go_loopw [5, 6, 7] (fun vv ii i2 wr => ∃ k : Nat, k ≤ bits.length ∧ ii = .int .i64 k ∧ Hid (wr.heap[w.heap.size]? = some (.cells #[.slice A bits.length c, .int .i64 nx] 46 (0, 0))) ∧ Hid (wr.ownsRow w.heap.size 30 2 vv (runsK b bits k).length (sp (runsK b bits k))) ∧ Hid (Below w.heap.size w wr)) (fun _ ii _ _ => bits.length - (intOf ii).toNat)
  case atStart => exact ⟨0, Nat.zero_le _, rfl, G0, World.ownsRow_nil _ _ _ _, B0⟩
  case round =>
    obtain ⟨k, hk, rfl, HA, HV, BW⟩ := hrel
    clear G0 B0
    have k0 := blk_cell HA.out 0; have k1 := blk_cell HA.out 1
    simp only [List.getElem?_toArray, List.getElem?_cons_zero, List.getElem?_cons_succ] at k0 k1
    obtain ⟨N, hN⟩ : ∃ N, N = (runsK b bits k).length := ⟨_, rfl⟩
    rw [← hN] at HV
    have HNL : Hid (N = (runsK b bits k).length) := hN
    have hNk : N ≤ k := by rw [hN]; exact runsK_len b bits k
    obtain ⟨A2, c2, rfl⟩ := own_slice HV.out
    have hsz := BW.out.size
    clear hN
    by_cases hlt : k < bits.length
    · obtain ⟨g, cc, e1, _, _, _, hc⟩ := HS.out.at_ (by omega)
      injection e1 with e1 e2 e3
      subst e1
      have c0 := cell_below (w' := wr) (by have := BW.out; exact this) (hc k hlt)
      have hx : bits.getD k (!b) = bits[k] := by simp [hlt]
      generalize bits[k] = x at c0 hx
      have HX := Lib.hid hx
      clear e2 e3 hx
      by_cases hb : x = b
      · subst hb
        have HSL := Lib.hid (World.ownsRow_nil w 0 4 1)
        by_cases hj : 0 < k ∧ bits.getD (k - 1) (!x) = x
        · obtain ⟨p, hp⟩ : ∃ p, k = p + 1 := ⟨k - 1, by omega⟩
          have c1 := cell_below (w' := wr) (by have := BW.out; exact this) (hc p (by omega))
          have hpx : bits[p]'(by omega) = x := by have := hj.2; rw [hp, Nat.add_sub_cancel] at this; rw [show bits.getD p (!x) = bits[p]'(by omega) by simp [show p < bits.length by omega]] at this; exact this
          rw [hpx] at c1
          have HR : Hid (runsK x bits (k + 1) = bump (runsK x bits k)) := by unfold Hid; rw [runsK, if_pos HX.out, if_pos hj]
          have hne : runsK x bits k ≠ [] := by rw [hp]; exact runsK_ne (by have := hj.2; rw [hp, Nat.add_sub_cancel] at this; exact this)
          have hpos : 0 < N := by have := HNL.out; have := List.length_pos_iff.2 hne; omega
          obtain ⟨m, hm⟩ : ∃ m, N = m + 1 := ⟨N - 1, by omega⟩
          have HV' := HV.out
          rw [HNL.out] at HV'
          obtain ⟨g3, c3, e4, hgB, hgs, hc3⟩ := row_at HV' (by have := HNL.out; omega)
          injection e4 with e4 e5 e6
          subst e4
          have hml : m < (runsK x bits k).length := by have := HNL.out; omega
          obtain ⟨z1, z2⟩ := hc3 m hml
          have fz := World.ownsRow.frozenAt (g := g3) HV.out (m * 2 + 1)
          have hsm := runsK_small x bits k _ (List.getElem_mem hml)
          have hst := (World.ownsRow.stored (g := g3) HV.out (m * 2 + 1) (.int .i64 (((runsK x bits k)[m].2 + 1 : Nat) : Int))).1
          rw [← sp_bump (runsK x bits k) m (by have := HNL.out; omega)] at hst
          generalize (runsK x bits k)[m].2 = y at z2 hsm hst
          have hy2 : IntKind.i64.wrap ((y : Int) + 1) = ((y + 1 : Nat) : Int) := by rw [IntKind.wrap_i64]; omega
          have hy3 : ((y : Int) + 1) = ((y + 1 : Nat) : Int) := by omega
          obtain ⟨y1, hy1⟩ : ∃ y1, y1 = y + 1 := ⟨_, rfl⟩
          rw [← hy1] at hst hy2 hy3
          have hyw : IntKind.i64.wrap (y1 : Int) = (y1 : Int) := by rw [IntKind.wrap_i64]; omega
          have hNm1 : (N : Int) - 1 = (m : Int) := by omega
          have hNm2 : IntKind.i64.wrap (m : Int) = (m : Int) := by rw [IntKind.wrap_i64]; omega
          have hkp1 : (k : Int) - 1 = (p : Int) := by omega
          have hkp2 : IntKind.i64.wrap (p : Int) = (p : Int) := by rw [IntKind.wrap_i64]; omega
          have hpl : p < bits.length := by omega
          have hmN : m < N := by omega
          have d1 : decide (0 < (k : Int)) = true := by simp; omega
          have d1' : decide (0 < k) = true := by simp; omega
          have hn0 := own_ne_blk HV.out HA.out (by decide)
          have HA2 : Hid ((wr.setCell ⟨g3, m * 2 + 1, none⟩ (.int .i64 (y1 : Nat))).heap[w.heap.size]? = _) := (blk_set_ne (p := ⟨g3, m * 2 + 1, none⟩) (fun e => hn0 (by simp [Value.ownBlock]; exact e)) _).trans HA.out
          have BS : Hid (Below w.heap.size w (wr.setCell ⟨g3, m * 2 + 1, none⟩ (.int .i64 (y1 : Nat)))) := BW.out.setCell (p := ⟨g3, m * 2 + 1, none⟩) hgB _
          have HST : Hid ((wr.setCell ⟨g3, m * 2 + 1, none⟩ (.int .i64 (y1 : Nat))).ownsRow w.heap.size 30 2 (.slice (some ⟨g3, 0, none⟩) N c2) (runsK x bits (k + 1)).length (sp (runsK x bits (k + 1)))) := by
            unfold Hid
            rw [HR.out, bump_length, ← HNL.out]
            exact hst
          have HKP := Lib.hid (And.intro hp (And.intro hm hy1))
          clear hc hc3 e5 e6 hst hj hp hm hy1 hne hpos hpx z1 hn0 HV' hml hsm HR
          go_wp2
          go_roundw
          case rel => exact ⟨k + 1, hlt, by go_num, HA2, HST, BS⟩
          case measure => simp [intOf]; omega
        · have HR : Hid (runsK x bits (k + 1) = runsK x bits k ++ [(k, 1)]) := by unfold Hid; rw [runsK, if_pos HX.out, if_neg hj]
          obtain ⟨i0, hi0, hz0, hz1, hz2⟩ := infoS
          have HVA : Hid ((wr.alloc (.cells #[.int .i64 (k : Nat), .int .i64 (1 : Nat)] 30)).ownsRow w.heap.size 30 2 (.slice A2 N c2) N (sp (runsK x bits k))) := own_touch HV.out (Touch.of_below ((Below.refl _ wr).alloc (Nat.le_refl _) _) : Touch (fun _ => False) wr _) (fun _ _ h => h)
          have HSRC := Lib.hid (rdsp_lit wr k 1 30)
          by_cases h0 : 0 < k
          · have hpx : bits[k - 1]'(by omega) ≠ x := by
              intro h
              exact hj ⟨h0, by rw [show bits.getD (k - 1) (!x) = bits[k - 1]'(by omega) by simp [show k - 1 < bits.length by omega]]; exact h⟩
            have c1 := cell_below (w' := wr) (by have := BW.out; exact this) (hc (k - 1) (by omega))
            obtain ⟨p, hp⟩ : ∃ p, k - 1 = p := ⟨_, rfl⟩
            simp only [hp] at c1 hpx
            have hkp1 : (k : Int) - 1 = (p : Int) := by omega
            have hkp2 : IntKind.i64.wrap (p : Int) = (p : Int) := by rw [IntKind.wrap_i64]; omega
            have hpl : p < bits.length := by omega
            generalize bits[p]'(by omega) = y at c1 hpx
            have dy : (y == x) = false := by simpa using hpx
            have d1 : decide (0 < (k : Int)) = true := by simp; omega
            have d1' : decide (0 < k) = true := by simp; omega
            have HP := Lib.hid (And.intro hp hpx)
            clear hc hj hp hpx h0
            go_wp2_with (at_builtin; refine wpList_append_own_at _ rfl (.tmp 47) (.tmp 50) 28 rfl w.heap.size 30 i0 _ 2 16 Try.underlying28 hi0 hz0 hz1 hz2 rfl (by decide) (.slice A2 N c2) N (sp (runsK x bits k)) rfl HVA.out ⟨wr.heap.size, 0, none⟩ 1 1 (sp [(k, 1)]) rfl rfl HSRC.out (sp_one _) (by unfold maxLen; omega) (by omega) (by simp; omega) ?_)
            intro v5 w5 ho5 hg5 _ hat5
            obtain ⟨A5, c5, rfl⟩ := own_slice ho5
            have HA2 := Lib.hid (blk_grown hg5 (blk_alloc HA.out _) (own_ne_blk HVA.out (blk_alloc HA.out _) (by decide)))
            have BS : Hid (Below w.heap.size w w5) := (BW.out.alloc hsz _).grown hg5 (by simp; omega) (fun q e => (HVA.out.lt q e).1)
            have HST : Hid (w5.ownsRow w.heap.size 30 2 (.slice A5 (N + 1) c5) (runsK x bits (k + 1)).length (sp (runsK x bits (k + 1)))) := by
              unfold Hid
              rw [HR.out, List.length_append, sp_append, ← HNL.out]
              exact ho5
            clear ho5 hg5 hat5 HVA HSRC
            go_wp2
            go_roundw
            case rel => exact ⟨k + 1, hlt, by go_num, HA2, HST, BS⟩
            case measure => simp [intOf]; omega
          · have d1 : decide (0 < (k : Int)) = false := by simp; omega
            have d1' : decide (0 < k) = false := by simp; omega
            have HP := Lib.hid h0
            clear hc hj h0
            go_wp2_with (at_builtin; refine wpList_append_own_at _ rfl (.tmp 47) (.tmp 50) 28 rfl w.heap.size 30 i0 _ 2 16 Try.underlying28 hi0 hz0 hz1 hz2 rfl (by decide) (.slice A2 N c2) N (sp (runsK x bits k)) rfl HVA.out ⟨wr.heap.size, 0, none⟩ 1 1 (sp [(k, 1)]) rfl rfl HSRC.out (sp_one _) (by unfold maxLen; omega) (by omega) (by simp; omega) ?_)
            intro v5 w5 ho5 hg5 _ hat5
            obtain ⟨A5, c5, rfl⟩ := own_slice ho5
            have HA2 := Lib.hid (blk_grown hg5 (blk_alloc HA.out _) (own_ne_blk HVA.out (blk_alloc HA.out _) (by decide)))
            have BS : Hid (Below w.heap.size w w5) := (BW.out.alloc hsz _).grown hg5 (by simp; omega) (fun q e => (HVA.out.lt q e).1)
            have HST : Hid (w5.ownsRow w.heap.size 30 2 (.slice A5 (N + 1) c5) (runsK x bits (k + 1)).length (sp (runsK x bits (k + 1)))) := by
              unfold Hid
              rw [HR.out, List.length_append, sp_append, ← HNL.out]
              exact ho5
            clear ho5 hg5 hat5 HVA HSRC
            go_wp2
            go_roundw
            case rel => exact ⟨k + 1, hlt, by go_num, HA2, HST, BS⟩
            case measure => simp [intOf]; omega
      · have HR : Hid (runsK b bits (k + 1) = runsK b bits k) := by unfold Hid; rw [runsK, if_neg (by rw [HX.out]; exact hb)]
        have db : (x == b) = false := by simpa using hb
        have HB := Lib.hid hb
        clear hb hc
        go_wp2
        go_roundw
        case rel => exact ⟨k + 1, hlt, by go_num, HA, by rw [HR.out, ← HNL.out]; exact HV, BW⟩
        case measure => simp [intOf]; omega
    · obtain rfl : k = bits.length := by omega
      go_wp2
      go_ret
      exact ⟨_, rfl, by have := HV.out; rw [HNL.out] at this ⊢; exact this, BW.out⟩
end Go.Proofs.Ythloinmnojlleaa
