/- JwA: the walk of the document's Why (written by gen_why.py). -/
import Derived.Test.YtpaabfadniakoaaJnY
set_option linter.unusedVariables false
set_option linter.unusedSimpArgs false
namespace Go.Proofs.Ytpaabfadniakoaa
open Go.RowKit

theorem dup_at {l : List (Int × ByteArray)} {k j : Nat} (hk : k < l.length) (hj : j < k) (h : l[j].1 = l[k].1) : dupK l (k + 1) = true := by
  have hg : l.getD k (0, ByteArray.empty) = l[k] := by rw [List.getD_eq_getElem?_getD, List.getElem?_eq_getElem hk]; rfl
  rw [dupK, hg]
  have : (l.take k).any (fun c => decide (c.1 = l[k].1)) = true := by
    rw [List.any_eq_true]
    exact ⟨l[j], by rw [List.mem_take_iff_getElem]; exact ⟨j, by omega, rfl⟩, by simpa using h⟩
  rw [this, Bool.or_true]
theorem dup_no {l : List (Int × ByteArray)} {k : Nat} (hk : k < l.length) (hd : dupK l k = false) (h : ∀ j (hj : j < k), l[j].1 ≠ l[k].1) : dupK l (k + 1) = false := by
  have hg : l.getD k (0, ByteArray.empty) = l[k] := by rw [List.getD_eq_getElem?_getD, List.getElem?_eq_getElem hk]; rfl
  rw [dupK, hg, hd, Bool.false_or, List.any_eq_false]
  intro x hx
  rw [List.mem_take_iff_getElem] at hx
  obtain ⟨j, hj, rfl⟩ := hx
  have := h j (by omega)
  simpa using this
set_option maxHeartbeats 3200000 in
set_option maxRecDepth 100000 in
theorem rwhy_any (w : World) (P : Nat) (hP : P ≤ 128) (A : Option Addr) (c : Nat) (l : List (Int × ByteArray)) (hl : RdC w A l) (hn : l.length ≤ 1000000) (hs : ∀ x ∈ l, x.2.size ≤ 9223372036854775807) :
    Calls Try.prog 19 #[.int .i64 (P : Int), .slice A l.length c] w fun e w' => e = .returned (.int .i64 (whyE P l)) ∧ Below w.heap.size w w' := by
  have HL := Lib.hid hl
  have HS := Lib.hid hs
  clear hl hs
  go_enter Try.func19, Try.ntmps19
  go_wp2_with fail
  go_loopw [5] (fun i wr => ∃ k : Nat, k ≤ l.length ∧ i = .int .i64 k ∧ Hid (Below w.heap.size w wr) ∧ Hid (∀ j (hj : j < l.length), j < k → 0 ≤ l[j].1 ∧ l[j].1 < (P : Int))) (fun i _ => l.length - (intOf i).toNat)
  case atStart => exact ⟨0, Nat.zero_le _, rfl, Below.refl _ _, fun j _ h => absurd h (Nat.not_lt_zero _)⟩
  case round =>
    obtain ⟨k, hk, rfl, hb, hin⟩ := hrel
    by_cases hlt : k < l.length
    · obtain ⟨b, off, hA, hcs⟩ := HL.out (by omega)
      subst hA
      obtain ⟨z0, z1⟩ := hcs k hlt
      replace z0 := cell_below hb.out z0
      have OUT := fun h => Lib.hid (out_at (P := P) hlt h)
      have INX : Hid (0 ≤ l[k].1 ∧ l[k].1 < (P : Int) → ∀ j (hj : j < l.length), j < k + 1 → 0 ≤ l[j].1 ∧ l[j].1 < (P : Int)) := fun h j hj hjk => by
        by_cases e : j = k
        · subst e; exact h
        · exact hin.out j hj (by omega)
      generalize l[k] = x at z0 z1 OUT INX
      clear hcs
      by_cases h0 : x.1 < 0
      · have E := OUT (.inl h0)
        have d1 : decide (x.1 < 0) = true := by simpa using h0
        clear OUT INX h0
        go_wp2
        go_ret
        exact ⟨by unfold whyE; rw [E.out]; rfl, hb.out⟩
      · by_cases h1 : (P : Int) ≤ x.1
        · have E := OUT (.inr h1)
          have d1 : decide (x.1 < 0) = false := by simpa using h0
          have d2 : decide ((P : Int) ≤ x.1) = true := by simpa using h1
          clear OUT INX h0 h1
          go_wp2
          go_ret
          exact ⟨by unfold whyE; rw [E.out]; rfl, hb.out⟩
        · have INX2 := Lib.hid (INX.out ⟨by omega, by omega⟩)
          have d1 : decide (x.1 < 0) = false := by simpa using h0
          have d2 : decide ((P : Int) ≤ x.1) = false := by simpa using h1
          clear OUT INX h0 h1
          go_wp2
          go_roundw
          case rel => first | exact ⟨k + 1, hlt, by go_num, hb, INX2⟩ | ((repeat apply Exists.intro); refine ⟨?_, rfl⟩; exact ⟨k + 1, hlt, by go_num, hb, INX2⟩)
          case measure => simp [intOf]; omega
    · have hkl : k = l.length := by omega
      have OK := Lib.hid (out_no (P := P) (l := l) (fun j hj => hin.out j hj (by omega)))
      subst hkl
      clear hk hlt hin
      go_wp2_with fail
      go_loopw [6] (fun i wz => ∃ k : Nat, k ≤ l.length ∧ i = .int .i64 k ∧ Hid (dupK l k = false) ∧ Hid (Below w.heap.size w wz)) (fun i _ => l.length - (intOf i).toNat)
      case atStart => exact ⟨0, Nat.zero_le _, rfl, rfl, hb⟩
      case round =>
        obtain ⟨k, hk, rfl, hd, BZ⟩ := hrel
        clear hb
        by_cases hlt : k < l.length
        · go_wp2_with fail
          go_loopw [7] (fun i wy => ∃ j : Nat, j ≤ k ∧ i = .int .i64 j ∧ Hid (∀ i (hi : i < j) (h1 : i < l.length), l[i].1 ≠ l[k].1) ∧ Hid (Below w.heap.size w wy)) (fun i _ => k - (intOf i).toNat)
          case atStart => exact ⟨0, Nat.zero_le _, rfl, fun i hi _ => absurd hi (Nat.not_lt_zero _), BZ⟩
          case round =>
            obtain ⟨j, hj, rfl, hne, BY⟩ := hrel
            clear BZ
            by_cases hjk : j < k
            · obtain ⟨b, off, hA, hcs⟩ := HL.out (by omega)
              subst hA
              have hjl : j < l.length := by omega
              obtain ⟨z0, _⟩ := hcs j hjl
              obtain ⟨y0, _⟩ := hcs k hlt
              replace z0 := cell_below BY.out.drew z0
              replace y0 := cell_below BY.out.drew y0
              have DA := fun h => Lib.hid (dup_at hlt hjk h)
              have NX : Hid (l[j].1 ≠ l[k].1 → ∀ i (hi : i < j + 1) (h1 : i < l.length), l[i].1 ≠ l[k].1) := fun h i hi h1 => by
                by_cases e : i = j
                · subst e; exact h
                · exact hne.out i (by omega) h1
              clear hcs
              obtain ⟨x, hx⟩ : ∃ x, x = l[j] := ⟨_, rfl⟩
              obtain ⟨y, hy⟩ : ∃ y, y = l[k] := ⟨_, rfl⟩
              rw [← hx] at z0 DA NX
              rw [← hy] at y0 DA NX
              have HY := Lib.hid hy
              clear hx hy
              by_cases hxy : x.1 = y.1
              · have E := DA hxy
                have EE : Hid (dupK l l.length = true) := dupK_mono hlt E.out
                have dxy : (y.1 == x.1) = true := by rw [beq_iff_eq]; exact hxy.symm
                clear DA NX E hxy
                go_wp2_with fail
                refine wp_region_flag (fun w' => w'.cell? ⟨b, off + j * 2, none⟩ = some (.int .i64 x.1) ∧ w'.cell? ⟨b, off + k * 2, none⟩ = some (.int .i64 y.1)) [(0, 1), (1, 1), (2, 1), (3, 1), (5, 1), (6, 1), (7, 1), (8, 1), (4, 2), (9, 0), (10, 1)] (by kernel_rfl) (by kernel_rfl) ⟨z0, y0⟩ ?_
                simp only [ordered, List.map_cons, List.map_nil, List.getD_cons_zero, List.getD_cons_succ]
                repeat (refine wpF_dry (fun K hK => ?_); go_simp; refine hK _ ?_; clear hK K)
                refine wpF_read (.int .i64 y.1) rfl (fun w' hS => by obtain ⟨s1, s2⟩ := hS; go_simp) (fun K hK => ?_)
                go_simp
                refine hK _ ?_
                clear hK K
                refine wpF_do ?_
                go_wp2_with fail
                refine ⟨⟨z0, y0⟩, ?_⟩
                repeat (refine wpF_dry (fun K hK => ?_); go_simp; refine hK _ ?_; clear hK K)
                refine wpF_nil ?_
                go_wp2
                go_ret
                exact ⟨by unfold whyE; rw [OK.out, EE.out]; rfl, BY.out.drew⟩
              · have NX2 : Hid (∀ i (hi : i < j + 1) (h1 : i < l.length), l[i].1 ≠ l[k].1) := by have h := NX.out hxy; rw [HY.out] at h; exact h
                have dxy : (y.1 == x.1) = false := by rw [beq_eq_false_iff_ne]; exact fun h => hxy h.symm
                clear DA NX hxy
                go_wp2_with fail
                refine wp_region_flag (fun w' => w'.cell? ⟨b, off + j * 2, none⟩ = some (.int .i64 x.1) ∧ w'.cell? ⟨b, off + k * 2, none⟩ = some (.int .i64 y.1)) [(0, 1), (1, 1), (2, 1), (3, 1), (5, 1), (6, 1), (7, 1), (8, 1), (4, 2), (9, 0), (10, 1)] (by kernel_rfl) (by kernel_rfl) ⟨z0, y0⟩ ?_
                simp only [ordered, List.map_cons, List.map_nil, List.getD_cons_zero, List.getD_cons_succ]
                repeat (refine wpF_dry (fun K hK => ?_); go_simp; refine hK _ ?_; clear hK K)
                refine wpF_read (.int .i64 y.1) rfl (fun w' hS => by obtain ⟨s1, s2⟩ := hS; go_simp) (fun K hK => ?_)
                go_simp
                refine hK _ ?_
                clear hK K
                refine wpF_do ?_
                go_wp2_with fail
                refine ⟨⟨z0, y0⟩, ?_⟩
                repeat (refine wpF_dry (fun K hK => ?_); go_simp; refine hK _ ?_; clear hK K)
                refine wpF_nil ?_
                go_wp2
                go_roundw
                case rel => first | exact ⟨j + 1, by omega, by go_num, NX2, BY.out.drew⟩ | ((repeat apply Exists.intro); refine ⟨?_, rfl⟩; exact ⟨j + 1, by omega, by go_num, NX2, BY.out.drew⟩)
                case measure => simp [intOf]; omega
            · have hjk2 : j = k := by omega
              subst hjk2
              have HD2 := Lib.hid (dup_no hlt hd.out (fun i hi => hne.out i hi (by omega)))
              go_wp2
              go_roundw
              case rel => first | exact ⟨j + 1, hlt, by go_num, HD2, BY⟩ | ((repeat apply Exists.intro); refine ⟨?_, rfl⟩; exact ⟨j + 1, hlt, by go_num, HD2, BY⟩)
              case measure => simp [intOf]; omega
        · have hkl : k = l.length := by omega
          subst hkl
          clear hk hlt
          go_wp2_with fail
          go_loopw [8] (fun i wz => ∃ k : Nat, k ≤ l.length ∧ i = .int .i64 k ∧ Hid (∀ j (hj : j < l.length), j < k → l[j].2.size = 1024) ∧ Hid (Below w.heap.size w wz)) (fun i _ => l.length - (intOf i).toNat)
          case atStart => exact ⟨0, Nat.zero_le _, rfl, fun j _ h => absurd h (Nat.not_lt_zero _), BZ⟩
          case round =>
            obtain ⟨k, hk, rfl, hz, BQ⟩ := hrel
            clear BZ
            by_cases hlt : k < l.length
            · obtain ⟨b, off, hA, hcs⟩ := HL.out (by omega)
              subst hA
              obtain ⟨z0, z1⟩ := hcs k hlt
              replace z1 := cell_below BQ.out z1
              have LG := fun h => Lib.hid (long_at hlt h)
              have LN : Hid (l[k].2.size = 1024 → ∀ j (hj : j < l.length), j < k + 1 → l[j].2.size = 1024) := fun h j hj hjk => by
                by_cases e : j = k
                · subst e; exact h
                · exact hz.out j hj (by omega)
              have hsz := HS.out l[k] (List.getElem_mem hlt)
              generalize l[k] = x at z0 z1 LG LN hsz
              clear hcs z0
              by_cases h4 : x.2.size = 1024
              · have LN2 := Lib.hid (LN.out h4)
                have d1 : (x.2.size != 1024) = false := by simp [h4]
                have d1' : ((x.2.size : Int) != 1024) = false := by simp; omega
                clear LG LN h4
                go_wp2
                go_roundw
                case rel => first | exact ⟨k + 1, hlt, by go_num, LN2, BQ⟩ | ((repeat apply Exists.intro); refine ⟨?_, rfl⟩; exact ⟨k + 1, hlt, by go_num, LN2, BQ⟩)
                case measure => simp [intOf]; omega
              · have E := LG h4
                have d1 : (x.2.size != 1024) = true := by simp [h4]
                have d1' : ((x.2.size : Int) != 1024) = true := by simp; omega
                clear LG LN h4
                go_wp2
                go_ret
                exact ⟨by unfold whyE; rw [OK.out, hd.out, E.out]; rfl, BQ.out⟩
            · have hkl : k = l.length := by omega
              subst hkl
              have E := Lib.hid (long_no (fun j hj => hz.out j hj hj))
              go_wp2
              go_ret
              exact ⟨by unfold whyE; rw [OK.out, hd.out, E.out]; rfl, BQ.out⟩
end Go.Proofs.Ytpaabfadniakoaa
