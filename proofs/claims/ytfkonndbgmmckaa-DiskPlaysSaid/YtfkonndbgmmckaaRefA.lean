/- RefA: the document's disk, a value: what it is in memory; the walks of why and Read. -/
import Derived.Test.YtfkonndbgmmckaaLawC
set_option linter.unusedVariables false
set_option linter.unusedSimpArgs false
namespace Go.Proofs.Ytfkonndbgmmckaa
open Go.RowKit

/-- The document's disk d, a value of two slices that lie in blocks of F. -/
structure RefAt (w : World) (F : Nat → Prop) (d : Dk) (vl vw : Value) : Prop where
  own : w.ownsRow 0 9 1 vl d.l.length (strs d.l)
  ownW : w.ownsRow 0 73 2 vw d.waits.length (wcells d.waits)
  fl : ∀ k, vl.ownBlock = some k → F k
  fw : ∀ k, vw.ownBlock = some k → F k
  lt : ∀ k, F k → k < w.heap.size
  ok : d.Ok
  nil : d.waits = [] → vw = .slice none 0 0
def refV (d : Dk) (vl vw : Value) : Value := .agg #[vl, vw, .int .i64 d.fuse, .int .i64 d.writes, .bool d.down]
theorem RefAt.keep {w w' : World} {S F : Nat → Prop} {d : Dk} {vl vw : Value} (h : RefAt w F d vl vw) (ht : Touch S w w') (hS : ∀ k, F k → ¬ S k) : RefAt w' F d vl vw :=
  ⟨own_touch h.own ht (fun k hk => hS k (h.fl k hk)), own_touch h.ownW ht (fun k hk => hS k (h.fw k hk)), h.fl, h.fw, fun k hk => Nat.lt_of_lt_of_le (h.lt k hk) ht.size, h.ok, h.nil⟩
theorem RefAt.below {w w' : World} {F : Nat → Prop} {d : Dk} {vl vw : Value} (h : RefAt w F d vl vw) (hb : Below w.heap.size w w') : RefAt w' F d vl vw :=
  h.keep (S := fun _ => False) (Touch.of_below hb) (fun _ _ x => x)
theorem RefAt.wait {w : World} {F : Nat → Prop} {d : Dk} {vl vw : Value} (h : RefAt w F d vl vw) : ∀ A c, vw = .slice A d.waits.length c → ∀ k (hk : k < d.waits.length),
    ∃ gw, A = some ⟨gw, 0, none⟩ ∧ F gw ∧ w.cell? ⟨gw, k * 2, none⟩ = some (.int .i64 d.waits[k].1) ∧ w.cell? ⟨gw, k * 2 + 1, none⟩ = some (.string d.waits[k].2) := by
  intro A c e k hk
  subst e
  rcases h.ownW.2 with ⟨e, h0⟩ | ⟨gw, cap, cur, e, _⟩
  · omega
  · injection e with e1 e2 e3
    subst e1
    obtain ⟨a, b⟩ := wcells_at d.waits k hk
    exact ⟨gw, rfl, h.fw _ rfl, (h.ownW.cellAt (k * 2) (by omega)).trans a, (h.ownW.cellAt (k * 2 + 1) (by omega)).trans b⟩
theorem RefAt.sector {w : World} {F : Nat → Prop} {d : Dk} {vl vw : Value} (h : RefAt w F d vl vw) : ∃ gl c, vl = .slice (some ⟨gl, 0, none⟩) d.l.length c ∧ F gl ∧
    (∀ k, k < d.l.length → w.cell? ⟨gl, k, none⟩ = some (.string (d.l.getD k ByteArray.empty))) ∧ (∀ k, w.frozen? ⟨gl, k, none⟩ = false) := by
  rcases h.own.2 with ⟨e, h0⟩ | ⟨gl, cap, cur, rfl, _⟩
  · have := h.ok.pos; omega
  · refine ⟨gl, cap, rfl, h.fl _ rfl, fun k hk => (h.own.cellAt k (by omega)).trans ?_, fun k => h.own.frozenAt k⟩
    simp [strs, List.getElem?_map, List.getElem?_eq_getElem hk]

theorem why_any (w : World) (F : Nat → Prop) (d : Dk) (vl vw : Value) (h : RefAt w F d vl vw) (i : Int) :
    Calls Try.prog 38 #[refV d vl vw, .int .i64 i] w fun e w' => e = .returned (.int .i64 (d.use i)) ∧ Below w.heap.size w w' := by
  unfold refV
  have B0 : ∀ b, Hid (Below w.heap.size w (w.alloc b)) := fun b => (Below.refl _ w).alloc (Nat.le_refl _) b
  obtain ⟨A, c, rfl⟩ := own_slice h.own
  have hlen := h.ok.most
  by_cases hd : d.down = true
  · have hu : Hid (d.use i = 10) := by unfold Hid Dk.use; rw [if_pos hd]
    rw [hd]
    go_enter Try.func38, Try.ntmps38
    go_wp2
    go_ret
    exact ⟨by rw [hu.out]; rfl, (B0 _).out⟩
  · have hd' : d.down = false := by simpa using hd
    rw [hd']
    by_cases h0 : i < 0
    · have hu : Hid (d.use i = 9) := by unfold Hid Dk.use; rw [if_neg hd, if_pos (.inl h0)]
      go_enter Try.func38, Try.ntmps38
      go_wp2
      go_ret
      exact ⟨by rw [hu.out]; rfl, (B0 _).out⟩
    · have h0' : decide (i < 0) = false := by simpa using h0
      by_cases h1 : (d.l.length : Int) ≤ i
      · have hu : Hid (d.use i = 9) := by unfold Hid Dk.use; rw [if_neg hd, if_pos (.inr h1)]
        go_enter Try.func38, Try.ntmps38
        go_wp2
        go_ret
        exact ⟨by rw [hu.out]; rfl, (B0 _).out⟩
      · have hu : Hid (d.use i = 0) := by unfold Hid Dk.use; rw [if_neg hd, if_neg (by omega)]
        go_enter Try.func38, Try.ntmps38
        go_wp2
        go_ret
        exact ⟨by rw [hu.out]; rfl, (B0 _).out⟩

/-- The last write of all at i is the one that is found from the end. -/
theorem look_none (i : Int) (ws : List (Int × ByteArray)) : ∀ s, (∀ w ∈ ws, ¬ w.1 = i) → Dk.look i ws s = s := by
  induction ws with
  | nil => intro s _; rfl
  | cons x ws ih => intro s h; rw [Dk.look, if_neg (h x (by simp))]; exact ih s (fun w hw => h w (by simp [hw]))
theorem look_append (i : Int) (b : List (Int × ByteArray)) : ∀ (a : List (Int × ByteArray)) s, Dk.look i (a ++ b) s = Dk.look i b (Dk.look i a s) := by
  intro a
  induction a with
  | nil => intro s; rfl
  | cons x a ih => intro s; exact ih _
theorem look_last (i : Int) (ws : List (Int × ByteArray)) (s : ByteArray) (k : Nat) (hk : k < ws.length) (h : ws[k].1 = i) (hn : ∀ j (hj : j < ws.length), k < j → ¬ ws[j].1 = i) : Dk.look i ws s = ws[k].2 := by
  have e : Dk.look i ws s = Dk.look i ((ws.take k ++ [ws[k]]) ++ ws.drop (k + 1)) s := by rw [← List.take_succ_eq_append_getElem hk, List.take_append_drop]
  rw [e, look_append, look_snoc, if_pos h, look_none]
  intro w hw
  obtain ⟨j, hj, rfl⟩ := List.getElem_of_mem hw
  rw [List.length_drop] at hj
  rw [List.getElem_drop]
  exact hn _ (by omega) (by omega)
theorem look_all (i : Int) (ws : List (Int × ByteArray)) (s : ByteArray) (hn : ∀ j (hj : j < ws.length), ¬ ws[j].1 = i) : Dk.look i ws s = s := by
  refine look_none i ws s fun w hw => ?_
  obtain ⟨j, hj, rfl⟩ := List.getElem_of_mem hw
  exact hn j hj

set_option maxHeartbeats 800000 in
set_option maxRecDepth 100000 in
theorem rread_any (w : World) (F : Nat → Prop) (d : Dk) (vl vw : Value) (h : RefAt w F d vl vw) (i : Int) (hm : d.waits.length < 9223372036854775807) :
    Calls Try.prog 37 #[refV d vl vw, .int .i64 i] w fun e w' => e = .returned (.tuple #[.string (d.read i).1, .int .i64 (d.read i).2]) ∧ Below w.heap.size w w' := by
  have B0 : ∀ b, Hid (Below w.heap.size w (w.alloc b)) := fun b => (Below.refl _ w).alloc (Nat.le_refl _) b
  have H := Lib.hid h
  by_cases hu : d.use i = 0
  · obtain ⟨hd, hi0, hi1⟩ := Dk.use_zero hu
    obtain ⟨n, rfl⟩ := Int.eq_ofNat_of_zero_le hi0
    have hn : n < d.l.length := by omega
    have hr : Hid (d.read n = (Dk.look n d.waits (d.l.getD n ByteArray.empty), 0)) := by unfold Hid Dk.read; rw [if_pos hu]; simp
    have HU := Lib.hid hu
    clear hu hd
    obtain ⟨gl, cl, rfl, hfl, hcl, _⟩ := h.sector
    have hc := hcl n hn
    have hlen := h.ok.most
    clear hcl
    obtain ⟨A, c, rfl⟩ := own_slice h.ownW
    obtain ⟨s0, hs0⟩ : ∃ s0, s0 = d.l.getD n ByteArray.empty := ⟨_, rfl⟩
    rw [← hs0] at hc
    have HS := Lib.hid hs0
    clear hs0 h
    unfold refV
    go_enter Try.func37, Try.ntmps37
    go_wp2_with fail
    refine (why_any _ F d _ _ (H.out.below (B0 _).out) _).mono ?_
    rintro e w1 ⟨rfl, b1⟩
    rw [HU.out]
    have hsz : Hid (w.heap.size < w1.heap.size) := by have := b1.size; unfold Hid; simp at this; omega
    have q0 : w1.cell? ⟨w.heap.size, 0, none⟩ = some (.slice (some ⟨gl, 0, none⟩) d.l.length cl) := cell_below b1 (by go_simp)
    have q1 : w1.cell? ⟨w.heap.size, 1, none⟩ = some (.slice A d.waits.length c) := cell_below b1 (by go_simp)
    have B1 : Hid (Below w.heap.size w w1) := (B0 _).out.trans (b1.mono (by simp))
    have H1 : Hid (RefAt w1 F d _ _) := H.out.below B1.out
    have hc1 := cell_below B1.out hc
    clear b1 B0 hc
    go_wp2_with fail
    go_loopw [7, 18] (fun i i2 wr => ∃ k : Nat, k ≤ d.waits.length ∧ i = .int .i64 ((k : Int) - 1) ∧ Hid (∀ j (hj : j < d.waits.length), k ≤ j → ¬ d.waits[j].1 = (n : Int)) ∧ wr = w1) (fun i _ _ => (intOf i + 1).toNat)
    case atStart => exact ⟨d.waits.length, Nat.le_refl _, rfl, fun j hj h => by omega, rfl⟩
    case round =>
      obtain ⟨k, hk, rfl, hno, rfl⟩ := hrel
      cases k with
      | zero =>
        have hl : Hid (Dk.look n d.waits s0 = s0) := look_all _ _ _ fun j hj => hno.out j hj (Nat.zero_le _)
        rw [show ((0 : Nat) : Int) - 1 = -1 by omega]
        go_wp2
        go_ret2
        exact ⟨by rw [hr.out, HS.out.symm, hl.out]; rfl, B1.out⟩
      | succ m =>
        rw [show ((m + 1 : Nat) : Int) - 1 = (m : Int) by omega]
        obtain ⟨gw, rfl, _, a1, a2⟩ := H1.out.wait _ _ rfl m (by omega)
        have hm1 : m < d.waits.length := by omega
        by_cases heq : d.waits[m].1 = (n : Int)
        · have hl : Hid (Dk.look n d.waits s0 = d.waits[m].2) := look_last _ _ _ m hm1 heq fun j hj hlt => hno.out j hj (by omega)
          rw [heq] at a1
          clear heq
          go_wp2
          go_ret2
          exact ⟨by rw [hr.out, HS.out.symm, hl.out]; rfl, B1.out⟩
        · have q : (d.waits[m].1 == (n : Int)) = false := by simp [heq]
          have HQ := Lib.hid heq
          clear heq
          go_wp2
          go_roundw
          case rel =>
            refine ⟨m, by omega, rfl, fun j hj hle => ?_, by trivial⟩
            rcases Nat.lt_or_ge m j with h | h
            · exact hno.out j hj (by omega)
            · obtain rfl : m = j := by omega
              exact HQ.out
          case measure => first | (simp [intOf]; done) | (simp [intOf]; omega)
  · have hu1 : (d.use i == 0) = false := by simp [hu]
    have hr : Hid (d.read i = (ByteArray.empty, d.use i)) := by unfold Hid Dk.read; rw [if_neg hu]
    clear hu h
    unfold refV
    go_enter Try.func37, Try.ntmps37
    go_wp2_with fail
    refine (why_any _ F d _ _ (H.out.below (B0 _).out) _).mono ?_
    rintro e w1 ⟨rfl, b1⟩
    have B1 : Hid (Below w.heap.size w w1) := (B0 _).out.trans (b1.mono (by simp))
    clear b1
    go_wp2
    go_ret2
    exact ⟨by rw [hr.out]; rfl, B1.out⟩
end Go.Proofs.Ytfkonndbgmmckaa
