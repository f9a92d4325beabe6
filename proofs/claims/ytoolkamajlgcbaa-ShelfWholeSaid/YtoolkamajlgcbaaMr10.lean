/- ShA: what is read of a shelf (written by gen_sh.py). -/
import Derived.Test.YtoolkamajlgcbaaMr09
set_option linter.unusedVariables false
set_option linter.unusedSimpArgs false
namespace Go.Proofs.Ytoolkamajlgcbaa
open Go.RowKit

/-- Texts, held against one another as the machine does. -/
def gtB (a b : ByteArray) : Bool := !Op.bytesLess a.toList b.toList && !a.toList == b.toList
def geB (a b : ByteArray) : Bool := !Op.bytesLess a.toList b.toList
abbrev PL := List (ByteArray × ByteArray)
/-- Entries that are read. -/
def RdPr (w : World) (A : Option Addr) (l : PL) : Prop := 0 < l.length → ∃ b o, A = some ⟨b, o, none⟩ ∧ ∀ k (h : k < l.length), w.cell? ⟨b, o + k * 2, none⟩ = some (.string l[k].1) ∧ w.cell? ⟨b, o + k * 2 + 1, none⟩ = some (.string l[k].2)
theorem RdPr.below {w w' : World} {A : Option Addr} {l : PL} (h : RdPr w A l) (hb : Below w.heap.size w w') : RdPr w' A l := fun hp => by
  obtain ⟨b, o, e, hc⟩ := h hp
  exact ⟨b, o, e, fun k hk => ⟨cell_below hb (hc k hk).1, cell_below hb (hc k hk).2⟩⟩
/-- Leaves that are read. -/
def LfAt (w : World) (b o : Nat) (sh : List (Nat × PL)) : Prop := ∀ i (h : i < sh.length), w.cell? ⟨b, o + i * 2, none⟩ = some (.int .i64 (sh[i].1 : Int)) ∧ ∃ A c, w.cell? ⟨b, o + i * 2 + 1, none⟩ = some (.slice A sh[i].2.length c) ∧ sh[i].2.length ≤ c ∧ RdPr w A sh[i].2
def ShRd (w : World) (gs : Nat) (sh : List (Nat × PL)) : Prop := ∃ A c, w.cell? ⟨gs, 1, none⟩ = some (.slice A sh.length c) ∧ sh.length ≤ c ∧ (0 < sh.length → ∃ b o, A = some ⟨b, o, none⟩ ∧ LfAt w b o sh)
theorem ShRd.below {w w' : World} {gs : Nat} {sh : List (Nat × PL)} (h : ShRd w gs sh) (hb : Below w.heap.size w w') : ShRd w' gs sh := by
  obtain ⟨A, c, h1, h2, h3⟩ := h
  refine ⟨A, c, cell_below hb h1, h2, fun hp => ?_⟩
  obtain ⟨b, o, e, hc⟩ := h3 hp
  refine ⟨b, o, e, fun i hi => ?_⟩
  obtain ⟨c1, A', c', c2, c3, c4⟩ := hc i hi
  exact ⟨cell_below hb c1, A', c', cell_below hb c2, c3, c4.below hb⟩
/-- The first number of those from i to j of which p holds, as a search finds it. -/
def srch (p : Nat → Bool) (i j : Nat) : Nat := if i < j then (if p ((i + j) / 2) = true then srch p i ((i + j) / 2) else srch p ((i + j) / 2 + 1) j) else i
termination_by j - i
theorem srch_le (p : Nat → Bool) : ∀ n i j, j - i ≤ n → i ≤ j → i ≤ srch p i j ∧ srch p i j ≤ j
  | 0, i, j, h, hij => by rw [srch, if_neg (by omega)]; omega
  | n + 1, i, j, h, hij => by
    rw [srch]
    split
    · split
      · have := srch_le p n i ((i + j) / 2) (by omega) (by omega); omega
      · have := srch_le p n ((i + j) / 2 + 1) j (by omega) (by omega); omega
    · omega
theorem half_u {i j : Nat} (h : i + j < 4611686018427387904) : IntKind.i64.wrap (((i + j : Nat) : Int) / 2) = (((i + j) / 2 : Nat) : Int) := by rw [IntKind.wrap_i64]; omega
set_option maxHeartbeats 1600000 in
set_option maxRecDepth 100000 in
theorem fkey_any (w : World) (gs B1 B2 : Nat) (sh : List (Nat × PL)) (hs : ShRd w gs sh) (key : ByteArray) (h1 : w.cell? ⟨B1, 0, none⟩ = some (.pointer (some ⟨gs, 0, none⟩))) (h2 : w.cell? ⟨B2, 0, none⟩ = some (.string key)) (i : Nat) (hi : i < sh.length) (hne : 0 < sh[i].2.length) :
    Calls Try.prog 71 #[.int .i64 (i : Int), .pointer (some ⟨B1, 0, none⟩), .pointer (some ⟨B2, 0, none⟩)] w fun e w' => e = .returned (.bool (gtB (sh[i].2[0]).1 key)) ∧ Below w.heap.size w w' := by
  obtain ⟨A, c, g1, g2, g3⟩ := hs
  obtain ⟨b, o, rfl, hc⟩ := g3 (by omega)
  obtain ⟨c1, A', c', c2, c3, c4⟩ := hc i hi
  obtain ⟨b', o', rfl, hc'⟩ := c4 hne
  obtain ⟨k1, _⟩ := hc' 0 hne
  generalize sh[i].2 = l at c2 c3 hne hc' k1 ⊢
  obtain ⟨x, hx⟩ : ∃ x, x = l[0].1 := ⟨_, rfl⟩
  rw [← hx] at k1 ⊢
  have hil : (i : Int) < (sh.length : Int) := by omega
  have hl0 : (0 : Int) < (l.length : Int) := by omega
  simp only [Nat.zero_mul, Nat.add_zero] at k1
  clear hc hc' g3 hx c1
  go_enter Try.func71, Try.ntmps71
  go_wp2_with fail
  refine wp_region_flag (fun w' => w'.cell? ⟨B1, 0, none⟩ = some (.pointer (some ⟨gs, 0, none⟩)) ∧ w'.cell? ⟨gs, 1, none⟩ = some (.slice (some ⟨b, o, none⟩) sh.length c) ∧ w'.cell? ⟨b, o + i * 2 + 1, none⟩ = some (.slice (some ⟨b', o', none⟩) l.length c') ∧ w'.cell? ⟨b', o', none⟩ = some (.string x) ∧ w'.cell? ⟨B2, 0, none⟩ = some (.string key)) [(4, 1), (0, 2), (1, 1), (2, 1), (3, 2), (5, 1), (6, 1), (7, 2), (8, 1), (9, 1), (10, 2), (11, 0), (12, 1), (13, 1)] (by kernel_rfl) (by kernel_rfl) ⟨h1, g1, c2, k1, h2⟩ ?_
  simp only [ordered, List.map_cons, List.map_nil, List.getD_cons_zero, List.getD_cons_succ]
  repeat (refine wpF_dry (fun K hK => ?_); go_simp; refine hK _ ?_; clear hK K)
  refine wpF_read (.pointer (some ⟨gs, 0, none⟩)) rfl (fun w' hS => by obtain ⟨s1, s2, s3, s4, s5⟩ := hS; go_simp) (fun K hK => ?_)
  go_simp; refine hK _ ?_; clear hK K
  repeat (refine wpF_dry (fun K hK => ?_); go_simp; refine hK _ ?_; clear hK K)
  refine wpF_read (.slice (some ⟨b, o, none⟩) sh.length c) rfl (fun w' hS => by obtain ⟨s1, s2, s3, s4, s5⟩ := hS; go_simp) (fun K hK => ?_)
  go_simp; refine hK _ ?_; clear hK K
  repeat (refine wpF_dry (fun K hK => ?_); go_simp; refine hK _ ?_; clear hK K)
  refine wpF_read (.slice (some ⟨b', o', none⟩) l.length c') rfl (fun w' hS => by obtain ⟨s1, s2, s3, s4, s5⟩ := hS; go_simp) (fun K hK => ?_)
  go_simp; refine hK _ ?_; clear hK K
  repeat (refine wpF_dry (fun K hK => ?_); go_simp; refine hK _ ?_; clear hK K)
  refine wpF_read (.string x) rfl (fun w' hS => by obtain ⟨s1, s2, s3, s4, s5⟩ := hS; go_simp) (fun K hK => ?_)
  go_simp; refine hK _ ?_; clear hK K
  refine wpF_do ?_
  go_wp2_with fail
  refine ⟨⟨h1, g1, c2, k1, h2⟩, ?_⟩
  repeat (refine wpF_dry (fun K hK => ?_); go_simp; refine hK _ ?_; clear hK K)
  refine wpF_nil ?_
  go_wp2
  go_ret
  exact ⟨rfl, (Below.refl _ w).drew⟩
set_option maxHeartbeats 1600000 in
set_option maxRecDepth 100000 in
theorem fplace_any (w : World) (B1 B2 n c : Nat) (A : Option Addr) (l : PL) (hn : n = l.length) (hl : RdPr w A l) (key : ByteArray) (h1 : w.cell? ⟨B1, 0, none⟩ = some (.slice A n c)) (h2 : w.cell? ⟨B2, 0, none⟩ = some (.string key)) (i : Nat) (hi : i < l.length) :
    Calls Try.prog 72 #[.int .i64 (i : Int), .pointer (some ⟨B1, 0, none⟩), .pointer (some ⟨B2, 0, none⟩)] w fun e w' => e = .returned (.bool (geB (l[i]).1 key)) ∧ Below w.heap.size w w' := by
  subst hn
  obtain ⟨b', o', rfl, hc'⟩ := hl (by omega)
  obtain ⟨k1, _⟩ := hc' i hi
  obtain ⟨x, hx⟩ : ∃ x, x = l[i].1 := ⟨_, rfl⟩
  rw [← hx] at k1 ⊢
  have hil : (i : Int) < (l.length : Int) := by omega
  clear hc' hx hl
  go_enter Try.func72, Try.ntmps72
  go_wp2_with fail
  refine wp_region_flag (fun w' => w'.cell? ⟨B1, 0, none⟩ = some (.slice (some ⟨b', o', none⟩) l.length c) ∧ w'.cell? ⟨b', o' + i * 2, none⟩ = some (.string x) ∧ w'.cell? ⟨B2, 0, none⟩ = some (.string key)) [(1, 1), (0, 2), (2, 1), (3, 1), (4, 2), (5, 0), (6, 1), (7, 1)] (by kernel_rfl) (by kernel_rfl) ⟨h1, k1, h2⟩ ?_
  simp only [ordered, List.map_cons, List.map_nil, List.getD_cons_zero, List.getD_cons_succ]
  repeat (refine wpF_dry (fun K hK => ?_); go_simp; refine hK _ ?_; clear hK K)
  refine wpF_read (.slice (some ⟨b', o', none⟩) l.length c) rfl (fun w' hS => by obtain ⟨s1, s2, s3⟩ := hS; go_simp) (fun K hK => ?_)
  go_simp; refine hK _ ?_; clear hK K
  repeat (refine wpF_dry (fun K hK => ?_); go_simp; refine hK _ ?_; clear hK K)
  refine wpF_read (.string x) rfl (fun w' hS => by obtain ⟨s1, s2, s3⟩ := hS; go_simp) (fun K hK => ?_)
  go_simp; refine hK _ ?_; clear hK K
  refine wpF_do ?_
  go_wp2_with fail
  refine ⟨⟨h1, k1, h2⟩, ?_⟩
  repeat (refine wpF_dry (fun K hK => ?_); go_simp; refine hK _ ?_; clear hK K)
  refine wpF_nil ?_
  go_wp2
  go_ret
  exact ⟨rfl, (Below.refl _ w).drew⟩
set_option maxHeartbeats 1600000 in
set_option maxRecDepth 100000 in
theorem search1_any (w : World) (n : Nat) (hn : n ≤ 1000000) (v1 v2 : Value) (p : Nat → Bool) (hf : ∀ h, h < n → ∀ W, Below w.heap.size w W → Calls Try.prog 71 #[.int .i64 (h : Int), v1, v2] W fun e W' => e = .returned (.bool (p h)) ∧ Below W.heap.size W W') :
    Calls Try.prog 70 #[.int .i64 (n : Int), .func (.func 71) #[] #[v1, v2]] w fun e w' => e = .returned (.int .i64 (srch p 0 n : Nat)) ∧ Below w.heap.size w w' := by
  have HF := Lib.hid hf
  clear hf
  go_enter Try.func70, Try.ntmps70
  go_wp2_with fail
  go_loopw [5, 6] (fun iv jv wr => ∃ i j : Nat, i ≤ j ∧ j ≤ n ∧ iv = .int .i64 i ∧ jv = .int .i64 j ∧ Hid (srch p i j = srch p 0 n) ∧ Hid (Below w.heap.size w wr)) (fun iv jv _ => (intOf jv).toNat - (intOf iv).toNat)
  case atStart => exact ⟨0, n, Nat.zero_le _, Nat.le_refl _, rfl, rfl, rfl, Below.refl _ _⟩
  case round =>
    obtain ⟨i, j, hij, hj, rfl, rfl, hs, hb⟩ := hrel
    by_cases hlt : i < j
    · obtain ⟨h, hh⟩ : ∃ h, h = (i + j) / 2 := ⟨_, rfl⟩
      have CF := Lib.hid (HF.out h (by omega) wr hb.out)
      have R := hs.out
      rw [srch, if_pos hlt, ← hh] at R
      have RR := Lib.hid R
      have e2 : IntKind.i64.wrap ((i : Int) + (j : Int)) = (i : Int) + (j : Int) := by rw [IntKind.wrap_i64]; omega
      have e3 : ((i : Int) + (j : Int)) / 2 = (h : Int) := by omega
      have hh2 : h < j := by omega
      have hh1 : i ≤ h := by omega
      have HH := Lib.hid hh
      clear hh R hs
      go_wp2_with fail
      refine CF.out.mono ?_
      rintro e w2 ⟨rfl, q2⟩
      have B2 : Hid (Below w.heap.size w w2) := hb.out.trans (q2.mono hb.out.size)
      clear q2 CF
      cases hp : p h with
      | true =>
        have R2 := RR.out
        rw [hp, if_pos rfl] at R2
        have R3 := Lib.hid R2
        clear R2 hp
        go_wp2
        go_roundw
        case rel => first | exact ⟨i, h, hh1, by omega, rfl, rfl, R3, B2⟩ | ((repeat apply Exists.intro); refine ⟨?_, rfl⟩; exact ⟨i, h, hh1, by omega, rfl, rfl, R3, B2⟩)
        case measure => simp [intOf]; omega
      | false =>
        have R2 := RR.out
        rw [hp, if_neg (by decide)] at R2
        have R3 := Lib.hid R2
        clear R2 hp
        go_wp2
        go_roundw
        case rel => first | exact ⟨h + 1, j, hh2, hj, by go_num, rfl, R3, B2⟩ | ((repeat apply Exists.intro); refine ⟨?_, rfl⟩; exact ⟨h + 1, j, hh2, hj, by go_num, rfl, R3, B2⟩)
        case measure => simp [intOf]; omega
    · have hji : i = j := by omega
      subst hji
      have R := hs.out
      rw [srch, if_neg (by omega)] at R
      have RR := Lib.hid R
      clear R hs
      go_wp2
      go_ret
      exact ⟨by rw [← RR.out]; rfl, hb.out⟩
set_option maxHeartbeats 1600000 in
set_option maxRecDepth 100000 in
theorem search2_any (w : World) (n : Nat) (hn : n ≤ 1000000) (v1 v2 : Value) (p : Nat → Bool) (hf : ∀ h, h < n → ∀ W, Below w.heap.size w W → Calls Try.prog 72 #[.int .i64 (h : Int), v1, v2] W fun e W' => e = .returned (.bool (p h)) ∧ Below W.heap.size W W') :
    Calls Try.prog 70 #[.int .i64 (n : Int), .func (.func 72) #[] #[v1, v2]] w fun e w' => e = .returned (.int .i64 (srch p 0 n : Nat)) ∧ Below w.heap.size w w' := by
  have HF := Lib.hid hf
  clear hf
  go_enter Try.func70, Try.ntmps70
  go_wp2_with fail
  go_loopw [5, 6] (fun iv jv wr => ∃ i j : Nat, i ≤ j ∧ j ≤ n ∧ iv = .int .i64 i ∧ jv = .int .i64 j ∧ Hid (srch p i j = srch p 0 n) ∧ Hid (Below w.heap.size w wr)) (fun iv jv _ => (intOf jv).toNat - (intOf iv).toNat)
  case atStart => exact ⟨0, n, Nat.zero_le _, Nat.le_refl _, rfl, rfl, rfl, Below.refl _ _⟩
  case round =>
    obtain ⟨i, j, hij, hj, rfl, rfl, hs, hb⟩ := hrel
    by_cases hlt : i < j
    · obtain ⟨h, hh⟩ : ∃ h, h = (i + j) / 2 := ⟨_, rfl⟩
      have CF := Lib.hid (HF.out h (by omega) wr hb.out)
      have R := hs.out
      rw [srch, if_pos hlt, ← hh] at R
      have RR := Lib.hid R
      have e2 : IntKind.i64.wrap ((i : Int) + (j : Int)) = (i : Int) + (j : Int) := by rw [IntKind.wrap_i64]; omega
      have e3 : ((i : Int) + (j : Int)) / 2 = (h : Int) := by omega
      have hh2 : h < j := by omega
      have hh1 : i ≤ h := by omega
      have HH := Lib.hid hh
      clear hh R hs
      go_wp2_with fail
      refine CF.out.mono ?_
      rintro e w2 ⟨rfl, q2⟩
      have B2 : Hid (Below w.heap.size w w2) := hb.out.trans (q2.mono hb.out.size)
      clear q2 CF
      cases hp : p h with
      | true =>
        have R2 := RR.out
        rw [hp, if_pos rfl] at R2
        have R3 := Lib.hid R2
        clear R2 hp
        go_wp2
        go_roundw
        case rel => first | exact ⟨i, h, hh1, by omega, rfl, rfl, R3, B2⟩ | ((repeat apply Exists.intro); refine ⟨?_, rfl⟩; exact ⟨i, h, hh1, by omega, rfl, rfl, R3, B2⟩)
        case measure => simp [intOf]; omega
      | false =>
        have R2 := RR.out
        rw [hp, if_neg (by decide)] at R2
        have R3 := Lib.hid R2
        clear R2 hp
        go_wp2
        go_roundw
        case rel => first | exact ⟨h + 1, j, hh2, hj, by go_num, rfl, R3, B2⟩ | ((repeat apply Exists.intro); refine ⟨?_, rfl⟩; exact ⟨h + 1, j, hh2, hj, by go_num, rfl, R3, B2⟩)
        case measure => simp [intOf]; omega
    · have hji : i = j := by omega
      subst hji
      have R := hs.out
      rw [srch, if_neg (by omega)] at R
      have RR := Lib.hid R
      clear R hs
      go_wp2
      go_ret
      exact ⟨by rw [← RR.out]; rfl, hb.out⟩
end Go.Proofs.Ytoolkamajlgcbaa
/- ShB: a shelf's find, at and Get. -/
set_option linter.unusedVariables false
set_option linter.unusedSimpArgs false
namespace Go.Proofs.Ytoolkamajlgcbaa
open Go.RowKit

def keyA (l : PL) (k : Nat) : ByteArray := (l.getD k (ByteArray.empty, ByteArray.empty)).1
def lfA (sh : List (Nat × PL)) (i : Nat) : PL := (sh.getD i (0, [])).2
/-- The leaf where a key belongs. -/
def fI (sh : List (Nat × PL)) (key : ByteArray) : Nat := srch (fun i => gtB (keyA (lfA sh i) 0) key) 0 sh.length - 1
def fK (sh : List (Nat × PL)) (key : ByteArray) : Nat := if sh = [] then 0 else srch (fun k => geB (keyA (lfA sh (fI sh key)) k) key) 0 (lfA sh (fI sh key)).length
theorem keyA_get {l : PL} {k : Nat} (h : k < l.length) : keyA l k = l[k].1 := by unfold keyA; rw [List.getD_eq_getElem?_getD, List.getElem?_eq_getElem h]; rfl
theorem lfA_get {sh : List (Nat × PL)} {i : Nat} (h : i < sh.length) : lfA sh i = sh[i].2 := by unfold lfA; rw [List.getD_eq_getElem?_getD, List.getElem?_eq_getElem h]; rfl
/-- Leaves that may be: none is empty. -/
def Full (sh : List (Nat × PL)) : Prop := ∀ i, i < sh.length → 0 < (lfA sh i).length
theorem fI_lt {sh : List (Nat × PL)} {key : ByteArray} (h : 0 < sh.length) : fI sh key < sh.length := by
  unfold fI
  have := (srch_le (fun i => gtB (keyA (lfA sh i) 0) key) sh.length 0 sh.length (by omega) (Nat.zero_le _)).2
  omega
set_option maxHeartbeats 3200000 in
set_option maxRecDepth 100000 in
theorem find_any (w : World) (gs : Nat) (sh : List (Nat × PL)) (hs : ShRd w gs sh) (hf : Full sh) (hn : sh.length ≤ 1000000) (hn2 : ∀ i, (lfA sh i).length ≤ 1000000) (key : ByteArray) :
    Calls Try.prog 37 #[.pointer (some ⟨gs, 0, none⟩), .string key] w fun e w' => e = .returned (.tuple #[.int .i64 (fI sh key : Nat), .int .i64 (fK sh key : Nat)]) ∧ Below w.heap.size w w' := by
  have HS := Lib.hid hs
  obtain ⟨W0, hW0⟩ : ∃ W0, W0 = (w.alloc (.cells #[.pointer (some ⟨gs, 0, none⟩)] 25)).alloc (.cells #[.string key] 9) := ⟨_, rfl⟩
  have Q0 : Hid (Below w.heap.size w W0) := by rw [hW0]; exact ((Below.refl _ w).alloc (Nat.le_refl _) _).alloc (by simp) _
  have hb0 : W0.heap[w.heap.size]? = some (.cells #[.pointer (some ⟨gs, 0, none⟩)] 25 (0, 0)) := by rw [hW0]; exact blk_alloc (blk_new w _) _
  have hb1 : W0.heap[w.heap.size + 1]? = some (.cells #[.string key] 9 (0, 0)) := by
    rw [hW0]
    have e : w.heap.size + 1 = (w.alloc (.cells #[.pointer (some ⟨gs, 0, none⟩)] 25)).heap.size := by simp
    rw [e]
    exact blk_new _ _
  have a0 := blk_cell hb0 0; have a1 := blk_cell hb1 0
  simp at a0 a1
  obtain ⟨A, c, g1, g2, g3⟩ := hs.below Q0.out
  have g1w := hs
  obtain ⟨A', c', g1', _, _⟩ := g1w
  have S0 := Lib.hid (hs.below Q0.out)
  have A0 := Lib.hid a0; have A1 := Lib.hid a1
  clear hs
  by_cases hz : sh.length = 0
  · have hsh : sh = [] := List.eq_nil_of_length_eq_zero hz
    have r1 : Hid (fI sh key = 0 ∧ fK sh key = 0) := by unfold Hid fI fK; rw [hsh]; refine ⟨?_, rfl⟩; rw [srch]; rfl
    rw [hz] at g1
    rw [hW0] at a0 g1
    rw [hz] at g1'
    clear hz hsh g3
    go_enter Try.func37, Try.ntmps37
    go_wp2
    go_ret2
    exact ⟨by rw [r1.out.1, r1.out.2]; rfl, by have := Q0.out; rw [hW0] at this; exact this⟩
  · have hne : ¬ sh = [] := fun h => hz (by rw [h]; rfl)
    have hlp : 0 < sh.length := by omega
    have d0 : ((sh.length : Int) == 0) = false := by rw [beq_eq_false_iff_ne]; omega
    have d0' : (sh.length == 0) = false := by rw [beq_eq_false_iff_ne]; exact hz
    obtain ⟨i1, hi1⟩ : ∃ i1, i1 = srch (fun i => gtB (keyA (lfA sh i) 0) key) 0 sh.length := ⟨_, rfl⟩
    have hile : i1 ≤ sh.length := by rw [hi1]; exact (srch_le _ sh.length 0 sh.length (by omega) (Nat.zero_le _)).2
    have FI : Hid (fI sh key = i1 - 1) := by unfold Hid fI; rw [hi1]
    have SE1 := Lib.hid (search1_any W0 sh.length hn (.pointer (some ⟨w.heap.size, 0, none⟩)) (.pointer (some ⟨w.heap.size + 1, 0, none⟩)) (fun i => gtB (keyA (lfA sh i) 0) key) (fun h hh W hb => by
      have hne := hf h hh
      have := fkey_any W gs w.heap.size (w.heap.size + 1) sh (S0.out.below hb) key (cell_below hb A0.out) (cell_below hb A1.out) h hh (by rw [← lfA_get hh]; exact hne)
      simp only [lfA_get hh]
      rw [keyA_get (by rw [← lfA_get hh]; exact hne)]
      exact this))
    rw [← hi1] at SE1
    rw [hW0] at a0 g1 SE1
    clear hi1 g3
    go_enter Try.func37, Try.ntmps37
    go_wp2_with fail
    refine SE1.out.mono ?_
    rw [← hW0]
    rintro e w1 ⟨rfl, q1⟩
    have S1 := S0.out.below q1
    have Q1 : Hid (Below w.heap.size w w1) := Q0.out.trans (q1.mono Q0.out.size)
    replace a0 := cell_below q1 A0.out
    have a1' := cell_below q1 A1.out
    obtain ⟨i2, hi2⟩ : ∃ i2, i2 = i1 - 1 := ⟨_, rfl⟩
    have hi2l : i2 < sh.length := by omega
    obtain ⟨A3, c3, u1, u2, u3⟩ := S1
    obtain ⟨b, o, rfl, hc⟩ := u3 hlp
    obtain ⟨_, A4, c4, v2, v3, v4⟩ := hc i2 hi2l
    rw [← lfA_get hi2l] at v2 v3 v4
    have em : max ((i1 : Int) - 1) 0 = (i2 : Int) := by omega
    have em2 : (if (i1 : Int) - 1 < 0 then 0 else (i1 : Int) - 1) = (i2 : Int) := by split <;> omega
    have hil3 : (i2 : Int) < (sh.length : Int) := by omega
    have A1h := Lib.hid a1'
    have HI2 := Lib.hid hi2
    have V4 := Lib.hid v4
    clear q1 SE1 hc u3 hi2 g1 g1' a1 v4
    have FK : Hid (fK sh key = srch (fun k => geB (keyA (lfA sh i2) k) key) 0 (lfA sh i2).length) := by unfold Hid fK; rw [if_neg hne, FI.out, ← HI2.out]
    have HN2 := hn2 i2
    generalize lfA sh i2 = l at v2 v3 V4 FK HN2
    obtain ⟨W2, hW2⟩ : ∃ W2, W2 = w1.alloc (.cells #[.slice A4 l.length c4] 43) := ⟨_, rfl⟩
    have Q2 : Hid (Below w1.heap.size w1 W2) := by rw [hW2]; exact (Below.refl _ w1).alloc (Nat.le_refl _) _
    have x0 : W2.cell? ⟨w1.heap.size, 0, none⟩ = some (.slice A4 l.length c4) := by rw [hW2]; simp
    have X0 := Lib.hid x0
    have SE2 := Lib.hid (search2_any W2 l.length HN2 (.pointer (some ⟨w1.heap.size, 0, none⟩)) (.pointer (some ⟨w.heap.size + 1, 0, none⟩)) (fun k => geB (keyA l k) key) (fun h hh W hb => by
      have := fplace_any W w1.heap.size (w.heap.size + 1) l.length c4 A4 l rfl ((V4.out.below Q2.out).below hb) key (cell_below hb X0.out) (cell_below hb (cell_below Q2.out A1h.out)) h hh
      rw [keyA_get hh]
      exact this))
    have HW2 := Lib.hid hW2
    rw [hW2] at SE2
    clear x0 hW2 hne
    go_wp2_with fail
    refine SE2.out.mono ?_
    rw [← HW2.out]
    rintro e w3 ⟨rfl, q3⟩
    have Q3 : Hid (Below w.heap.size w w3) := (Q1.out.trans (Q2.out.mono Q1.out.size)).trans (q3.mono (Nat.le_trans Q1.out.size Q2.out.size))
    clear q3 SE2
    go_wp2
    go_ret2
    exact ⟨by rw [FI.out, ← HI2.out, FK.out]; rfl, Q3.out⟩
set_option maxRecDepth 100000 in
theorem find_nil (w : World) (key : ByteArray) : Calls Try.prog 37 #[.pointer none, .string key] w fun e w' => e = .returned (.tuple #[.int .i64 0, .int .i64 0]) ∧ Below w.heap.size w w' := by
  have Q0 : ∀ a b, Hid (Below w.heap.size w ((w.alloc a).alloc b)) := fun a b => ((Below.refl _ w).alloc (Nat.le_refl _) a).alloc (by simp) b
  go_enter Try.func37, Try.ntmps37
  go_wp2
  go_ret2
  exact ⟨rfl, (Q0 _ _).out⟩
set_option maxRecDepth 100000 in
theorem at_nil (w : World) (i k : Int) (key : ByteArray) : Calls Try.prog 38 #[.pointer none, .int .i64 i, .int .i64 k, .string key] w fun e w' => e = .returned (.pointer none) ∧ w = w' := by
  go_enter Try.func38, Try.ntmps38
  go_wp2
  go_ret
  exact ⟨rfl, rfl⟩
set_option maxRecDepth 100000 in
theorem get_nil (w : World) (key : ByteArray) : Calls Try.prog 15 #[.pointer none, .string key] w fun e w' => e = .returned (.tuple #[.string ByteArray.empty, .bool false]) ∧ Below w.heap.size w w' := by
  go_enter Try.func15, Try.ntmps15
  go_wp2_with fail
  refine (find_nil _ _).mono ?_
  rintro e w1 ⟨rfl, q1⟩
  have Q1 := Lib.hid q1
  clear q1
  go_wp2_with fail
  refine (at_nil _ _ _ _).mono ?_
  rintro e w' ⟨rfl, rfl⟩
  go_wp2
  go_ret2
  exact ⟨rfl, Q1.out⟩
set_option maxRecDepth 100000 in
theorem drop_nil (w : World) (key : ByteArray) : Calls Try.prog 12 #[.pointer none, .string key] w fun e w' => e = .returned (.bool false) ∧ Below w.heap.size w w' := by
  go_enter Try.func12, Try.ntmps12
  go_wp2_with fail
  refine (find_nil _ _).mono ?_
  rintro e w1 ⟨rfl, q1⟩
  have Q1 := Lib.hid q1
  clear q1
  go_wp2_with fail
  refine (at_nil _ _ _ _).mono ?_
  rintro e w' ⟨rfl, rfl⟩
  go_wp2
  go_ret
  exact ⟨rfl, Q1.out⟩
set_option maxRecDepth 100000 in
theorem put_nil (w : World) (a b : ByteArray) : Calls Try.prog 17 #[.pointer none, .string a, .string b] w fun e w' => e = .returned (.int .i64 1) ∧ w = w' := by
  go_enter Try.func17, Try.ntmps17
  go_wp2
  go_ret
  exact ⟨rfl, rfl⟩
set_option maxRecDepth 100000 in
theorem range_nil (w : World) (a b : ByteArray) (n : Int) : Calls Try.prog 19 #[.pointer none, .string a, .string b, .int .i64 n] w fun e w' => e = .returned (.slice none 0 0) ∧ w = w' := by
  go_enter Try.func19, Try.ntmps19
  go_wp2
  go_ret
  exact ⟨rfl, rfl⟩
set_option maxRecDepth 100000 in
theorem len_nil (w : World) : Calls Try.prog 25 #[.pointer none] w fun e w' => e = .returned (.int .i64 0) ∧ w = w' := by
  go_enter Try.func25, Try.ntmps25
  go_wp2
  go_ret
  exact ⟨rfl, rfl⟩
set_option maxRecDepth 100000 in
theorem ssize_nil (w : World) : Calls Try.prog 16 #[.pointer none] w fun e w' => e = .returned (.int .i64 0) ∧ w = w' := by
  go_enter Try.func16, Try.ntmps16
  go_wp2
  go_ret
  exact ⟨rfl, rfl⟩
set_option maxRecDepth 100000 in
theorem scommit_nil (w : World) : Calls Try.prog 30 #[.pointer none] w fun e w' => e = .returned (.int .i64 1) ∧ w = w' := by
  go_enter Try.func30, Try.ntmps30
  go_wp2
  go_ret
  exact ⟨rfl, rfl⟩
set_option maxRecDepth 100000 in
theorem abort_nil (w : World) : Calls Try.prog 31 #[.pointer none] w fun e w' => e = .returned (.tuple #[]) ∧ w = w' := by
  go_enter Try.func31, Try.ntmps31
  go_wp2
  go_end0
  exact ⟨rfl, rfl⟩
end Go.Proofs.Ytoolkamajlgcbaa
/- ShC: a shelf's sizes: size, sizes, Len, Size. -/
set_option linter.unusedVariables false
set_option linter.unusedSimpArgs false
namespace Go.Proofs.Ytoolkamajlgcbaa
open Go.RowKit

def szP (p : ByteArray × ByteArray) : Nat := 3 + p.1.size + p.2.size
def szL (l : PL) : Nat := (l.map szP).foldl (· + ·) 0
theorem szL_append (a : PL) (p : ByteArray × ByteArray) : szL (a ++ [p]) = szL a + szP p := by unfold szL; rw [List.map_append, List.foldl_append]; rfl
def Small (l : PL) : Prop := l.length ≤ 1000000 ∧ ∀ p ∈ l, p.1.size ≤ 1000000 ∧ p.2.size ≤ 1000000
theorem szL_le {l : PL} (h : ∀ p ∈ l, p.1.size ≤ 1000000 ∧ p.2.size ≤ 1000000) : szL l ≤ l.length * 3000000 := by
  have : ∀ (l : PL) (a : Nat), (∀ p ∈ l, p.1.size ≤ 1000000 ∧ p.2.size ≤ 1000000) → (l.map szP).foldl (· + ·) a ≤ a + l.length * 3000000 := by
    intro l
    induction l with
    | nil => intro a _; simp
    | cons p l ih =>
      intro a h
      have h1 := h p (List.mem_cons_self ..)
      have h2 := ih (a + szP p) (fun x hx => h x (List.mem_cons_of_mem _ hx))
      simp only [List.map_cons, List.foldl_cons, List.length_cons]
      unfold szP at *
      omega
  have := this l 0 h
  unfold szL
  omega
set_option maxRecDepth 100000 in
theorem size1_any (w : World) (a b : ByteArray) (ha : a.size ≤ 1000000) (hb : b.size ≤ 1000000) : Calls Try.prog 43 #[.agg #[.string a, .string b]] w fun e w' => e = .returned (.int .i64 (szP (a, b) : Nat)) ∧ Below w.heap.size w w' := by
  have Q0 : ∀ o, Hid (Below w.heap.size w (w.alloc o)) := fun o => (Below.refl _ w).alloc (Nat.le_refl _) _
  have e1 : Hid (3 + (a.size : Int) + (b.size : Int) = ((szP (a, b) : Nat) : Int)) := by unfold Hid szP; simp only; omega
  go_enter Try.func43, Try.ntmps43
  go_wp2
  go_ret
  exact ⟨by rw [← e1.out]; rfl, (Q0 _).out⟩
set_option maxHeartbeats 1600000 in
set_option maxRecDepth 100000 in
theorem sizes_any (w : World) (A : Option Addr) (n c : Nat) (l : PL) (hn : n = l.length) (hl : RdPr w A l) (hs : Small l) :
    Calls Try.prog 40 #[.slice A n c] w fun e w' => e = .returned (.int .i64 (szL l : Nat)) ∧ Below w.heap.size w w' := by
  subst hn
  have HL := Lib.hid hl; have HS := Lib.hid hs
  have hlen := hs.1
  clear hl hs
  go_enter Try.func40, Try.ntmps40
  go_wp2_with fail
  go_loopw [3, 8] (fun s i wr => ∃ k : Nat, k ≤ l.length ∧ i = .int .i64 k ∧ s = .int .i64 (szL (l.take k) : Nat) ∧ Hid (Below w.heap.size w wr)) (fun _ i _ => l.length - (intOf i).toNat)
  case atStart => exact ⟨0, Nat.zero_le _, rfl, rfl, Below.refl _ _⟩
  case round =>
    obtain ⟨k, hk, rfl, rfl, hb⟩ := hrel
    by_cases hlt : k < l.length
    · obtain ⟨b, o, rfl, hc⟩ := HL.out (by omega)
      obtain ⟨z0, z1⟩ := hc k hlt
      replace z0 := cell_below hb.out z0; replace z1 := cell_below hb.out z1
      have S1 := HS.out.2 l[k] (List.getElem_mem _)
      have ST : Hid (szL (l.take (k + 1)) = szL (l.take k) + szP l[k]) := by unfold Hid; rw [List.take_succ_eq_append_getElem hlt, szL_append]
      have SB : szL (l.take k) ≤ l.length * 3000000 := by
        have := szL_le (l := l.take k) (fun p hp => HS.out.2 p (List.mem_of_mem_take hp))
        rw [List.length_take] at this
        exact Nat.le_trans this (Nat.mul_le_mul_right _ (Nat.min_le_right _ _))
      generalize l[k] = x at z0 z1 S1 ST
      obtain ⟨x1, x2⟩ := x
      simp only at z0 z1 S1
      have SZ := fun W => Lib.hid (size1_any W x1 x2 S1.1 S1.2)
      have SP : szP (x1, x2) ≤ 3000000 := by unfold szP; simp only; omega
      generalize szL (l.take k) = acc at ST SB
      obtain ⟨acc2, hacc⟩ : ∃ a, a = szL (l.take (k + 1)) := ⟨_, rfl⟩
      rw [← hacc] at ST
      generalize szP (x1, x2) = sp at ST SP SZ
      have HA := Lib.hid hacc
      clear hc hacc S1
      have e1 : (acc : Int) + (sp : Int) = (acc2 : Int) := by have := ST.out; omega
      have hac : acc2 ≤ 3000000000000 + 3000000 := by have := ST.out; omega
      have hbz : Hid (w.heap.size ≤ wr.heap.size) := hb.out.size
      go_wp2_with fail
      refine (SZ _).out.mono ?_
      rintro e w2 ⟨rfl, q2⟩
      have B2 : Hid (Below w.heap.size w w2) := (hb.out.alloc hbz.out _).trans (q2.mono (by have := hbz.out; simp; omega))
      clear q2 SZ
      go_wp2
      go_roundw
      case rel => first | exact ⟨k + 1, hlt, by go_num, by rw [HA.out], B2⟩ | ((repeat apply Exists.intro); refine ⟨?_, rfl⟩; exact ⟨k + 1, hlt, by go_num, by rw [HA.out], B2⟩)
      case measure => simp [intOf]; omega
    · have hkl : k = l.length := by omega
      subst hkl
      rw [List.take_length]
      go_wp2
      go_ret
      exact ⟨rfl, hb.out⟩
end Go.Proofs.Ytoolkamajlgcbaa
