/- Disk3: the walk of (*disk.Disk).Read. -/
import Derived.Test.YtoolkamajlgcbaaDisk2
set_option linter.unusedVariables false
set_option linter.unusedSimpArgs false
namespace Go.Proofs.Ytoolkamajlgcbaa
open Go.RowKit

theorem look_snoc (i : Int) (w : Int × ByteArray) (ws : List (Int × ByteArray)) : ∀ s, Dk.look i (ws ++ [w]) s = if w.1 = i then w.2 else Dk.look i ws s := by
  induction ws with
  | nil => intro s; rfl
  | cons x ws ih => intro s; exact ih _
theorem wcells_at (ws : List (Int × ByteArray)) : ∀ (k : Nat) (h : k < ws.length), (wcells ws)[k * 2]? = some (.int .i64 ws[k].1) ∧ (wcells ws)[k * 2 + 1]? = some (.string ws[k].2) := by
  induction ws with
  | nil => intro k h; simp at h
  | cons x ws ih =>
    intro k h
    cases k with
    | zero => exact ⟨rfl, rfl⟩
    | succ k =>
      have := ih k (by simpa using h)
      rw [show (k + 1) * 2 = (k * 2) + 1 + 1 by omega]
      simpa [wcells] using this
theorem wcells_length (ws : List (Int × ByteArray)) : (wcells ws).length = ws.length * 2 := by
  induction ws with
  | nil => rfl
  | cons x ws ih => simp [wcells, ih]; omega

/-- A disk's waiting writes, read one by one. -/
theorem IsDisk.wait {w : World} {F : Nat → Prop} {g : Nat} {d : Dk} {vl vw : Value} (h : IsDisk w F g d vl vw) : ∀ A c, vw = .slice A d.waits.length c → ∀ k (hk : k < d.waits.length),
    ∃ gw, A = some ⟨gw, 0, none⟩ ∧ F gw ∧ w.cell? ⟨gw, k * 2, none⟩ = some (.int .i64 d.waits[k].1) ∧ w.cell? ⟨gw, k * 2 + 1, none⟩ = some (.string d.waits[k].2) := by
  intro A c e k hk
  subst e
  rcases h.ownW.2 with ⟨e, h0⟩ | ⟨gw, cap, cur, e, _⟩
  · omega
  · injection e with e1 e2 e3
    subst e1
    obtain ⟨a, b⟩ := wcells_at d.waits k hk
    exact ⟨gw, rfl, h.fw _ rfl, (h.ownW.cellAt (k * 2) (by omega)).trans a, (h.ownW.cellAt (k * 2 + 1) (by omega)).trans b⟩
theorem IsDisk.sector {w : World} {F : Nat → Prop} {g : Nat} {d : Dk} {vl vw : Value} (h : IsDisk w F g d vl vw) : ∃ gl c, vl = .slice (some ⟨gl, 0, none⟩) d.l.length c ∧ F gl ∧
    (∀ k, k < d.l.length → w.cell? ⟨gl, k, none⟩ = some (.string (d.l.getD k ByteArray.empty))) ∧ (∀ k, w.frozen? ⟨gl, k, none⟩ = false) := by
  rcases h.own.2 with ⟨e, h0⟩ | ⟨gl, cap, cur, rfl, _⟩
  · have := h.ok.pos; omega
  · refine ⟨gl, cap, rfl, h.fl _ rfl, fun k hk => (h.own.cellAt k (by omega)).trans ?_, fun k => h.own.frozenAt k⟩
    simp [strs, List.getElem?_map, List.getElem?_eq_getElem hk]

set_option maxHeartbeats 800000 in
set_option maxRecDepth 100000 in
theorem read_any (w : World) (F : Nat → Prop) (g : Nat) (d : Dk) (vl vw : Value) (h : IsDisk w F g d vl vw) (i : Int) (hm : d.waits.length < 9223372036854775807) :
    Calls Try.prog 65 #[.pointer (some ⟨g, 0, none⟩), .int .i64 i] w fun e w' => e = .returned (.tuple #[.string (d.read i).1, .int .i64 (d.read i).2]) ∧ Below w.heap.size w w' := by
  by_cases hu : d.use i = 0
  · obtain ⟨hd, hi0, hi1⟩ := Dk.use_zero hu
    obtain ⟨n, rfl⟩ := Int.eq_ofNat_of_zero_le hi0
    have hn : n < d.l.length := by omega
    have hr : Hid (d.read n = (Dk.look n d.waits (d.l.getD n ByteArray.empty), 0)) := by unfold Hid Dk.read; rw [if_pos hu]; simp
    have HU := Lib.hid hu
    clear hu hd
    obtain ⟨gl, cl, rfl, hfl, hcl, _⟩ := h.sector
    have hc := hcl n hn
    clear hcl
    have c0 := blk_cell h.blk 0
    have c1 := blk_cell h.blk 1
    simp at c0 c1
    obtain ⟨A, c, rfl⟩ := own_slice h.ownW
    obtain ⟨s0, hs0⟩ : ∃ s0, s0 = d.l.getD n ByteArray.empty := ⟨_, rfl⟩
    rw [← hs0] at hc
    have HS := Lib.hid hs0
    clear hs0
    go_enter Try.func65, Try.ntmps65
    go_wp2_with (first
      | (go_at_call 69; refine (use_any _ _ _ _ _ _ h _).mono ?_; rintro e w' ⟨rfl, rfl⟩; rw [HU.out]))
    go_loopw [7, 28] (fun s j wr => ∃ k : Nat, k ≤ d.waits.length ∧ j = .int .i64 k ∧ s = .string (Dk.look n (d.waits.take k) s0) ∧ Below w.heap.size w wr) (fun _ j _ => d.waits.length - (intOf j).toNat)
    case atStart => exact ⟨0, Nat.zero_le _, rfl, rfl, Below.refl _ _⟩
    case round =>
      obtain ⟨k, hk, rfl, rfl, hb⟩ := hrel
      have HB := Lib.hid hb
      by_cases hlt : k < d.waits.length
      · obtain ⟨gw, rfl, _, a1, a2⟩ := h.wait _ _ rfl k hlt
        have e1 := cell_below hb a1
        have e2 := cell_below hb a2
        have hsz := hb.size
        clear a1 a2 hb
        have hts : d.waits.take (k + 1) = d.waits.take k ++ [d.waits[k]] := by rw [List.take_succ_eq_append_getElem hlt]
        by_cases heq : d.waits[k].1 = (n : Int)
        · have q : (d.waits[k].1 == (n : Int)) = true := by simp [heq]
          have hl : Hid (Dk.look n (d.waits.take (k + 1)) s0 = d.waits[k].2) := by unfold Hid; rw [hts, look_snoc, if_pos heq]
          clear heq hts
          go_wp2
          go_roundw
          case rel => exact ⟨k + 1, by omega, by go_num, by rw [hl.out], HB.out.alloc hsz _⟩
          case measure => simp [intOf]; omega
        · have q : (d.waits[k].1 == (n : Int)) = false := by simp [heq]
          have hl : Hid (Dk.look n (d.waits.take (k + 1)) s0 = Dk.look n (d.waits.take k) s0) := by unfold Hid; rw [hts, look_snoc, if_neg heq]
          clear heq hts
          go_wp2
          go_roundw
          case rel => exact ⟨k + 1, by omega, by go_num, by rw [hl.out], HB.out.alloc hsz _⟩
          case measure => simp [intOf]; omega
      · have hl : Hid (d.waits.take k = d.waits) := List.take_of_length_le (by omega)
        clear hb
        go_wp2
        go_ret2
        exact ⟨by rw [hr.out, hl.out, HS.out]; rfl, HB.out⟩
  · have hu1 : (d.use i == 0) = false := by simp [hu]
    have hr : Hid (d.read i = (ByteArray.empty, d.use i)) := by unfold Hid Dk.read; rw [if_neg hu]
    clear hu
    go_enter Try.func65, Try.ntmps65
    go_wp2_with (first
      | (go_at_call 69; refine (use_any _ _ _ _ _ _ h _).mono ?_; rintro e w' ⟨rfl, rfl⟩))
    go_ret2
    exact ⟨by rw [hr.out]; rfl, Below.refl _ _⟩
end Go.Proofs.Ytoolkamajlgcbaa
