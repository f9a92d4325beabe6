/- ShC: a shelf's sizes: size, sizes, Len, Size. -/
import Derived.Test.YtoolkamajlgcbaaShB
set_option linter.unusedVariables false
set_option linter.unusedSimpArgs false
namespace Go.Proofs.Ytoolkamajlgcbaa
open Go.RowKit

def szP (p : ByteArray × ByteArray) : Nat := 3 + p.1.size + p.2.size
def szL (l : PL) : Nat := (l.map szP).foldl (· + ·) 0
theorem szL_append (a : PL) (p : ByteArray × ByteArray) : szL (a ++ [p]) = szL a + szP p := by unfold szL; rw [List.map_append, List.foldl_append]; rfl
def Small (l : PL) : Prop := l.length ≤ 1000000 ∧ ∀ p ∈ l, p.1.size ≤ 1000000 ∧ p.2.size ≤ 1000000
theorem szL_le {l : PL} (h : ∀ p ∈ l, p.1.size ≤ 1000000 ∧ p.2.size ≤ 1000000) : szL l ≤ l.length * 3000000 := by
  have : ∀ (l : PL) (a : Nat), (∀ p ∈ l, p.1.size ≤ 1000000 ∧ p.2.size ≤ 1000000) → (l.map szP).foldl (· + ·) a ≤ a + l.length * 3000000 := by
    intro l
    induction l with
    | nil => intro a _; simp
    | cons p l ih =>
      intro a h
      have h1 := h p (List.mem_cons_self ..)
      have h2 := ih (a + szP p) (fun x hx => h x (List.mem_cons_of_mem _ hx))
      simp only [List.map_cons, List.foldl_cons, List.length_cons]
      unfold szP at *
      omega
  have := this l 0 h
  unfold szL
  omega
set_option maxRecDepth 100000 in
theorem size1_any (w : World) (a b : ByteArray) (ha : a.size ≤ 1000000) (hb : b.size ≤ 1000000) : Calls Try.prog 43 #[.agg #[.string a, .string b]] w fun e w' => e = .returned (.int .i64 (szP (a, b) : Nat)) ∧ Below w.heap.size w w' := by
  have Q0 : ∀ o, Hid (Below w.heap.size w (w.alloc o)) := fun o => (Below.refl _ w).alloc (Nat.le_refl _) _
  have e1 : Hid (3 + (a.size : Int) + (b.size : Int) = ((szP (a, b) : Nat) : Int)) := by unfold Hid szP; simp only; omega
  go_enter Try.func43, Try.ntmps43
  go_wp2
  go_ret
  exact ⟨by rw [← e1.out]; rfl, (Q0 _).out⟩
set_option maxHeartbeats 1600000 in
set_option maxRecDepth 100000 in
theorem sizes_any (w : World) (A : Option Addr) (n c : Nat) (l : PL) (hn : n = l.length) (hl : RdPr w A l) (hs : Small l) :
    Calls Try.prog 40 #[.slice A n c] w fun e w' => e = .returned (.int .i64 (szL l : Nat)) ∧ Below w.heap.size w w' := by
  subst hn
  have HL := Lib.hid hl; have HS := Lib.hid hs
  have hlen := hs.1
  clear hl hs
  go_enter Try.func40, Try.ntmps40
  go_wp2_with fail
  go_loopw [3, 8] (fun s i wr => ∃ k : Nat, k ≤ l.length ∧ i = .int .i64 k ∧ s = .int .i64 (szL (l.take k) : Nat) ∧ Hid (Below w.heap.size w wr)) (fun _ i _ => l.length - (intOf i).toNat)
  case atStart => exact ⟨0, Nat.zero_le _, rfl, rfl, Below.refl _ _⟩
  case round =>
    obtain ⟨k, hk, rfl, rfl, hb⟩ := hrel
    by_cases hlt : k < l.length
    · obtain ⟨b, o, rfl, hc⟩ := HL.out (by omega)
      obtain ⟨z0, z1⟩ := hc k hlt
      replace z0 := cell_below hb.out z0; replace z1 := cell_below hb.out z1
      have S1 := HS.out.2 l[k] (List.getElem_mem _)
      have ST : Hid (szL (l.take (k + 1)) = szL (l.take k) + szP l[k]) := by unfold Hid; rw [List.take_succ_eq_append_getElem hlt, szL_append]
      have SB : szL (l.take k) ≤ l.length * 3000000 := by
        have := szL_le (l := l.take k) (fun p hp => HS.out.2 p (List.mem_of_mem_take hp))
        rw [List.length_take] at this
        exact Nat.le_trans this (Nat.mul_le_mul_right _ (Nat.min_le_right _ _))
      generalize l[k] = x at z0 z1 S1 ST
      obtain ⟨x1, x2⟩ := x
      simp only at z0 z1 S1
      have SZ := fun W => Lib.hid (size1_any W x1 x2 S1.1 S1.2)
      have SP : szP (x1, x2) ≤ 3000000 := by unfold szP; simp only; omega
      generalize szL (l.take k) = acc at ST SB
      obtain ⟨acc2, hacc⟩ : ∃ a, a = szL (l.take (k + 1)) := ⟨_, rfl⟩
      rw [← hacc] at ST
      generalize szP (x1, x2) = sp at ST SP SZ
      have HA := Lib.hid hacc
      clear hc hacc S1
      have e1 : (acc : Int) + (sp : Int) = (acc2 : Int) := by have := ST.out; omega
      have hac : acc2 ≤ 3000000000000 + 3000000 := by have := ST.out; omega
      have hbz : Hid (w.heap.size ≤ wr.heap.size) := hb.out.size
      go_wp2_with fail
      refine (SZ _).out.mono ?_
      rintro e w2 ⟨rfl, q2⟩
      have B2 : Hid (Below w.heap.size w w2) := (hb.out.alloc hbz.out _).trans (q2.mono (by have := hbz.out; simp; omega))
      clear q2 SZ
      go_wp2
      go_roundw
      case rel => first | exact ⟨k + 1, hlt, by go_num, by rw [HA.out], B2⟩ | ((repeat apply Exists.intro); refine ⟨?_, rfl⟩; exact ⟨k + 1, hlt, by go_num, by rw [HA.out], B2⟩)
      case measure => simp [intOf]; omega
    · have hkl : k = l.length := by omega
      subst hkl
      rw [List.take_length]
      go_wp2
      go_ret
      exact ⟨rfl, hb.out⟩
end Go.Proofs.Ytoolkamajlgcbaa
