/- ShA: what is read of a shelf (written by gen_sh.py). -/
import Derived.Test.YtoolkamajlgcbaaJnM
import Derived.Test.YtoolkamajlgcbaaJnQp
import Derived.Test.YtoolkamajlgcbaaJnC
set_option linter.unusedVariables false
set_option linter.unusedSimpArgs false
namespace Go.Proofs.Ytoolkamajlgcbaa
open Go.RowKit

/-- Texts, held against one another as the machine does. -/
def gtB (a b : ByteArray) : Bool := !Op.bytesLess a.toList b.toList && !a.toList == b.toList
def geB (a b : ByteArray) : Bool := !Op.bytesLess a.toList b.toList
abbrev PL := List (ByteArray × ByteArray)
/-- Entries that are read. -/
def RdPr (w : World) (A : Option Addr) (l : PL) : Prop := 0 < l.length → ∃ b o, A = some ⟨b, o, none⟩ ∧ ∀ k (h : k < l.length), w.cell? ⟨b, o + k * 2, none⟩ = some (.string l[k].1) ∧ w.cell? ⟨b, o + k * 2 + 1, none⟩ = some (.string l[k].2)
theorem RdPr.below {w w' : World} {A : Option Addr} {l : PL} (h : RdPr w A l) (hb : Below w.heap.size w w') : RdPr w' A l := fun hp => by
  obtain ⟨b, o, e, hc⟩ := h hp
  exact ⟨b, o, e, fun k hk => ⟨cell_below hb (hc k hk).1, cell_below hb (hc k hk).2⟩⟩
/-- Leaves that are read. -/
def LfAt (w : World) (b o : Nat) (sh : List (Nat × PL)) : Prop := ∀ i (h : i < sh.length), w.cell? ⟨b, o + i * 2, none⟩ = some (.int .i64 (sh[i].1 : Int)) ∧ ∃ A c, w.cell? ⟨b, o + i * 2 + 1, none⟩ = some (.slice A sh[i].2.length c) ∧ sh[i].2.length ≤ c ∧ RdPr w A sh[i].2
def ShRd (w : World) (gs : Nat) (sh : List (Nat × PL)) : Prop := ∃ A c, w.cell? ⟨gs, 1, none⟩ = some (.slice A sh.length c) ∧ sh.length ≤ c ∧ (0 < sh.length → ∃ b o, A = some ⟨b, o, none⟩ ∧ LfAt w b o sh)
theorem ShRd.below {w w' : World} {gs : Nat} {sh : List (Nat × PL)} (h : ShRd w gs sh) (hb : Below w.heap.size w w') : ShRd w' gs sh := by
  obtain ⟨A, c, h1, h2, h3⟩ := h
  refine ⟨A, c, cell_below hb h1, h2, fun hp => ?_⟩
  obtain ⟨b, o, e, hc⟩ := h3 hp
  refine ⟨b, o, e, fun i hi => ?_⟩
  obtain ⟨c1, A', c', c2, c3, c4⟩ := hc i hi
  exact ⟨cell_below hb c1, A', c', cell_below hb c2, c3, c4.below hb⟩
/-- The first number of those from i to j of which p holds, as a search finds it. -/
def srch (p : Nat → Bool) (i j : Nat) : Nat := if i < j then (if p ((i + j) / 2) = true then srch p i ((i + j) / 2) else srch p ((i + j) / 2 + 1) j) else i
termination_by j - i
theorem srch_le (p : Nat → Bool) : ∀ n i j, j - i ≤ n → i ≤ j → i ≤ srch p i j ∧ srch p i j ≤ j
  | 0, i, j, h, hij => by rw [srch, if_neg (by omega)]; omega
  | n + 1, i, j, h, hij => by
    rw [srch]
    split
    · split
      · have := srch_le p n i ((i + j) / 2) (by omega) (by omega); omega
      · have := srch_le p n ((i + j) / 2 + 1) j (by omega) (by omega); omega
    · omega
theorem half_u {i j : Nat} (h : i + j < 4611686018427387904) : IntKind.i64.wrap (((i + j : Nat) : Int) / 2) = (((i + j) / 2 : Nat) : Int) := by rw [IntKind.wrap_i64]; omega
set_option maxHeartbeats 1600000 in
set_option maxRecDepth 100000 in
theorem fkey_any (w : World) (gs B1 B2 : Nat) (sh : List (Nat × PL)) (hs : ShRd w gs sh) (key : ByteArray) (h1 : w.cell? ⟨B1, 0, none⟩ = some (.pointer (some ⟨gs, 0, none⟩))) (h2 : w.cell? ⟨B2, 0, none⟩ = some (.string key)) (i : Nat) (hi : i < sh.length) (hne : 0 < sh[i].2.length) :
    Calls Try.prog 71 #[.int .i64 (i : Int), .pointer (some ⟨B1, 0, none⟩), .pointer (some ⟨B2, 0, none⟩)] w fun e w' => e = .returned (.bool (gtB (sh[i].2[0]).1 key)) ∧ Below w.heap.size w w' := by
  obtain ⟨A, c, g1, g2, g3⟩ := hs
  obtain ⟨b, o, rfl, hc⟩ := g3 (by omega)
  obtain ⟨c1, A', c', c2, c3, c4⟩ := hc i hi
  obtain ⟨b', o', rfl, hc'⟩ := c4 hne
  obtain ⟨k1, _⟩ := hc' 0 hne
  generalize sh[i].2 = l at c2 c3 hne hc' k1 ⊢
  obtain ⟨x, hx⟩ : ∃ x, x = l[0].1 := ⟨_, rfl⟩
  rw [← hx] at k1 ⊢
  have hil : (i : Int) < (sh.length : Int) := by omega
  have hl0 : (0 : Int) < (l.length : Int) := by omega
  simp only [Nat.zero_mul, Nat.add_zero] at k1
  clear hc hc' g3 hx c1
  go_enter Try.func71, Try.ntmps71
  go_wp2_with fail
  refine wp_region_flag (fun w' => w'.cell? ⟨B1, 0, none⟩ = some (.pointer (some ⟨gs, 0, none⟩)) ∧ w'.cell? ⟨gs, 1, none⟩ = some (.slice (some ⟨b, o, none⟩) sh.length c) ∧ w'.cell? ⟨b, o + i * 2 + 1, none⟩ = some (.slice (some ⟨b', o', none⟩) l.length c') ∧ w'.cell? ⟨b', o', none⟩ = some (.string x) ∧ w'.cell? ⟨B2, 0, none⟩ = some (.string key)) [(4, 1), (0, 2), (1, 1), (2, 1), (3, 2), (5, 1), (6, 1), (7, 2), (8, 1), (9, 1), (10, 2), (11, 0), (12, 1), (13, 1)] (by kernel_rfl) (by kernel_rfl) ⟨h1, g1, c2, k1, h2⟩ ?_
  simp only [ordered, List.map_cons, List.map_nil, List.getD_cons_zero, List.getD_cons_succ]
  repeat (refine wpF_dry (fun K hK => ?_); go_simp; refine hK _ ?_; clear hK K)
  refine wpF_read (.pointer (some ⟨gs, 0, none⟩)) rfl (fun w' hS => by obtain ⟨s1, s2, s3, s4, s5⟩ := hS; go_simp) (fun K hK => ?_)
  go_simp; refine hK _ ?_; clear hK K
  repeat (refine wpF_dry (fun K hK => ?_); go_simp; refine hK _ ?_; clear hK K)
  refine wpF_read (.slice (some ⟨b, o, none⟩) sh.length c) rfl (fun w' hS => by obtain ⟨s1, s2, s3, s4, s5⟩ := hS; go_simp) (fun K hK => ?_)
  go_simp; refine hK _ ?_; clear hK K
  repeat (refine wpF_dry (fun K hK => ?_); go_simp; refine hK _ ?_; clear hK K)
  refine wpF_read (.slice (some ⟨b', o', none⟩) l.length c') rfl (fun w' hS => by obtain ⟨s1, s2, s3, s4, s5⟩ := hS; go_simp) (fun K hK => ?_)
  go_simp; refine hK _ ?_; clear hK K
  repeat (refine wpF_dry (fun K hK => ?_); go_simp; refine hK _ ?_; clear hK K)
  refine wpF_read (.string x) rfl (fun w' hS => by obtain ⟨s1, s2, s3, s4, s5⟩ := hS; go_simp) (fun K hK => ?_)
  go_simp; refine hK _ ?_; clear hK K
  refine wpF_do ?_
  go_wp2_with fail
  refine ⟨⟨h1, g1, c2, k1, h2⟩, ?_⟩
  repeat (refine wpF_dry (fun K hK => ?_); go_simp; refine hK _ ?_; clear hK K)
  refine wpF_nil ?_
  go_wp2
  go_ret
  exact ⟨rfl, (Below.refl _ w).drew⟩
set_option maxHeartbeats 1600000 in
set_option maxRecDepth 100000 in
theorem fplace_any (w : World) (B1 B2 n c : Nat) (A : Option Addr) (l : PL) (hn : n = l.length) (hl : RdPr w A l) (key : ByteArray) (h1 : w.cell? ⟨B1, 0, none⟩ = some (.slice A n c)) (h2 : w.cell? ⟨B2, 0, none⟩ = some (.string key)) (i : Nat) (hi : i < l.length) :
    Calls Try.prog 72 #[.int .i64 (i : Int), .pointer (some ⟨B1, 0, none⟩), .pointer (some ⟨B2, 0, none⟩)] w fun e w' => e = .returned (.bool (geB (l[i]).1 key)) ∧ Below w.heap.size w w' := by
  subst hn
  obtain ⟨b', o', rfl, hc'⟩ := hl (by omega)
  obtain ⟨k1, _⟩ := hc' i hi
  obtain ⟨x, hx⟩ : ∃ x, x = l[i].1 := ⟨_, rfl⟩
  rw [← hx] at k1 ⊢
  have hil : (i : Int) < (l.length : Int) := by omega
  clear hc' hx hl
  go_enter Try.func72, Try.ntmps72
  go_wp2_with fail
  refine wp_region_flag (fun w' => w'.cell? ⟨B1, 0, none⟩ = some (.slice (some ⟨b', o', none⟩) l.length c) ∧ w'.cell? ⟨b', o' + i * 2, none⟩ = some (.string x) ∧ w'.cell? ⟨B2, 0, none⟩ = some (.string key)) [(1, 1), (0, 2), (2, 1), (3, 1), (4, 2), (5, 0), (6, 1), (7, 1)] (by kernel_rfl) (by kernel_rfl) ⟨h1, k1, h2⟩ ?_
  simp only [ordered, List.map_cons, List.map_nil, List.getD_cons_zero, List.getD_cons_succ]
  repeat (refine wpF_dry (fun K hK => ?_); go_simp; refine hK _ ?_; clear hK K)
  refine wpF_read (.slice (some ⟨b', o', none⟩) l.length c) rfl (fun w' hS => by obtain ⟨s1, s2, s3⟩ := hS; go_simp) (fun K hK => ?_)
  go_simp; refine hK _ ?_; clear hK K
  repeat (refine wpF_dry (fun K hK => ?_); go_simp; refine hK _ ?_; clear hK K)
  refine wpF_read (.string x) rfl (fun w' hS => by obtain ⟨s1, s2, s3⟩ := hS; go_simp) (fun K hK => ?_)
  go_simp; refine hK _ ?_; clear hK K
  refine wpF_do ?_
  go_wp2_with fail
  refine ⟨⟨h1, k1, h2⟩, ?_⟩
  repeat (refine wpF_dry (fun K hK => ?_); go_simp; refine hK _ ?_; clear hK K)
  refine wpF_nil ?_
  go_wp2
  go_ret
  exact ⟨rfl, (Below.refl _ w).drew⟩
set_option maxHeartbeats 1600000 in
set_option maxRecDepth 100000 in
theorem search1_any (w : World) (n : Nat) (hn : n ≤ 1000000) (v1 v2 : Value) (p : Nat → Bool) (hf : ∀ h, h < n → ∀ W, Below w.heap.size w W → Calls Try.prog 71 #[.int .i64 (h : Int), v1, v2] W fun e W' => e = .returned (.bool (p h)) ∧ Below W.heap.size W W') :
    Calls Try.prog 70 #[.int .i64 (n : Int), .func (.func 71) #[] #[v1, v2]] w fun e w' => e = .returned (.int .i64 (srch p 0 n : Nat)) ∧ Below w.heap.size w w' := by
  have HF := Lib.hid hf
  clear hf
  go_enter Try.func70, Try.ntmps70
  go_wp2_with fail
  go_loopw [5, 6] (fun iv jv wr => ∃ i j : Nat, i ≤ j ∧ j ≤ n ∧ iv = .int .i64 i ∧ jv = .int .i64 j ∧ Hid (srch p i j = srch p 0 n) ∧ Hid (Below w.heap.size w wr)) (fun iv jv _ => (intOf jv).toNat - (intOf iv).toNat)
  case atStart => exact ⟨0, n, Nat.zero_le _, Nat.le_refl _, rfl, rfl, rfl, Below.refl _ _⟩
  case round =>
    obtain ⟨i, j, hij, hj, rfl, rfl, hs, hb⟩ := hrel
    by_cases hlt : i < j
    · obtain ⟨h, hh⟩ : ∃ h, h = (i + j) / 2 := ⟨_, rfl⟩
      have CF := Lib.hid (HF.out h (by omega) wr hb.out)
      have R := hs.out
      rw [srch, if_pos hlt, ← hh] at R
      have RR := Lib.hid R
      have e2 : IntKind.i64.wrap ((i : Int) + (j : Int)) = (i : Int) + (j : Int) := by rw [IntKind.wrap_i64]; omega
      have e3 : ((i : Int) + (j : Int)) / 2 = (h : Int) := by omega
      have hh2 : h < j := by omega
      have hh1 : i ≤ h := by omega
      have HH := Lib.hid hh
      clear hh R hs
      go_wp2_with fail
      refine CF.out.mono ?_
      rintro e w2 ⟨rfl, q2⟩
      have B2 : Hid (Below w.heap.size w w2) := hb.out.trans (q2.mono hb.out.size)
      clear q2 CF
      cases hp : p h with
      | true =>
        have R2 := RR.out
        rw [hp, if_pos rfl] at R2
        have R3 := Lib.hid R2
        clear R2 hp
        go_wp2
        go_roundw
        case rel => first | exact ⟨i, h, hh1, by omega, rfl, rfl, R3, B2⟩ | ((repeat apply Exists.intro); refine ⟨?_, rfl⟩; exact ⟨i, h, hh1, by omega, rfl, rfl, R3, B2⟩)
        case measure => simp [intOf]; omega
      | false =>
        have R2 := RR.out
        rw [hp, if_neg (by decide)] at R2
        have R3 := Lib.hid R2
        clear R2 hp
        go_wp2
        go_roundw
        case rel => first | exact ⟨h + 1, j, hh2, hj, by go_num, rfl, R3, B2⟩ | ((repeat apply Exists.intro); refine ⟨?_, rfl⟩; exact ⟨h + 1, j, hh2, hj, by go_num, rfl, R3, B2⟩)
        case measure => simp [intOf]; omega
    · have hji : i = j := by omega
      subst hji
      have R := hs.out
      rw [srch, if_neg (by omega)] at R
      have RR := Lib.hid R
      clear R hs
      go_wp2
      go_ret
      exact ⟨by rw [← RR.out]; rfl, hb.out⟩
set_option maxHeartbeats 1600000 in
set_option maxRecDepth 100000 in
theorem search2_any (w : World) (n : Nat) (hn : n ≤ 1000000) (v1 v2 : Value) (p : Nat → Bool) (hf : ∀ h, h < n → ∀ W, Below w.heap.size w W → Calls Try.prog 72 #[.int .i64 (h : Int), v1, v2] W fun e W' => e = .returned (.bool (p h)) ∧ Below W.heap.size W W') :
    Calls Try.prog 70 #[.int .i64 (n : Int), .func (.func 72) #[] #[v1, v2]] w fun e w' => e = .returned (.int .i64 (srch p 0 n : Nat)) ∧ Below w.heap.size w w' := by
  have HF := Lib.hid hf
  clear hf
  go_enter Try.func70, Try.ntmps70
  go_wp2_with fail
  go_loopw [5, 6] (fun iv jv wr => ∃ i j : Nat, i ≤ j ∧ j ≤ n ∧ iv = .int .i64 i ∧ jv = .int .i64 j ∧ Hid (srch p i j = srch p 0 n) ∧ Hid (Below w.heap.size w wr)) (fun iv jv _ => (intOf jv).toNat - (intOf iv).toNat)
  case atStart => exact ⟨0, n, Nat.zero_le _, Nat.le_refl _, rfl, rfl, rfl, Below.refl _ _⟩
  case round =>
    obtain ⟨i, j, hij, hj, rfl, rfl, hs, hb⟩ := hrel
    by_cases hlt : i < j
    · obtain ⟨h, hh⟩ : ∃ h, h = (i + j) / 2 := ⟨_, rfl⟩
      have CF := Lib.hid (HF.out h (by omega) wr hb.out)
      have R := hs.out
      rw [srch, if_pos hlt, ← hh] at R
      have RR := Lib.hid R
      have e2 : IntKind.i64.wrap ((i : Int) + (j : Int)) = (i : Int) + (j : Int) := by rw [IntKind.wrap_i64]; omega
      have e3 : ((i : Int) + (j : Int)) / 2 = (h : Int) := by omega
      have hh2 : h < j := by omega
      have hh1 : i ≤ h := by omega
      have HH := Lib.hid hh
      clear hh R hs
      go_wp2_with fail
      refine CF.out.mono ?_
      rintro e w2 ⟨rfl, q2⟩
      have B2 : Hid (Below w.heap.size w w2) := hb.out.trans (q2.mono hb.out.size)
      clear q2 CF
      cases hp : p h with
      | true =>
        have R2 := RR.out
        rw [hp, if_pos rfl] at R2
        have R3 := Lib.hid R2
        clear R2 hp
        go_wp2
        go_roundw
        case rel => first | exact ⟨i, h, hh1, by omega, rfl, rfl, R3, B2⟩ | ((repeat apply Exists.intro); refine ⟨?_, rfl⟩; exact ⟨i, h, hh1, by omega, rfl, rfl, R3, B2⟩)
        case measure => simp [intOf]; omega
      | false =>
        have R2 := RR.out
        rw [hp, if_neg (by decide)] at R2
        have R3 := Lib.hid R2
        clear R2 hp
        go_wp2
        go_roundw
        case rel => first | exact ⟨h + 1, j, hh2, hj, by go_num, rfl, R3, B2⟩ | ((repeat apply Exists.intro); refine ⟨?_, rfl⟩; exact ⟨h + 1, j, hh2, hj, by go_num, rfl, R3, B2⟩)
        case measure => simp [intOf]; omega
    · have hji : i = j := by omega
      subst hji
      have R := hs.out
      rw [srch, if_neg (by omega)] at R
      have RR := Lib.hid R
      clear R hs
      go_wp2
      go_ret
      exact ⟨by rw [← RR.out]; rfl, hb.out⟩
end Go.Proofs.Ytoolkamajlgcbaa

