/- PathR: the walks of the document's Above and Moved. -/
import Derived.Test.YtmagidkgajmhoaaDoorPathQ
import Derived.Deep.Slices
set_option linter.unusedVariables false
set_option linter.unusedSimpArgs false
namespace Go.Proofs.YtmagidkgajmhoaaDoor
open Go.RowKit

theorem glue_le (ps : List ByteArray) (s : Bs) (h : bytes ps = (cut s).dropLast) (hs : s.length ≤ 32) : (glue (bytes ps)).length ≤ 32 := by
  have := glue_take_len (cut s) ((cut s).length - 1)
  rw [glue_cut, ← List.dropLast_eq_take, ← h] at this
  omega
set_option maxHeartbeats 1600000 in
set_option maxRecDepth 100000 in
theorem refabove_any (s : ByteArray) (w : World) : Calls Tryd.prog 18 #[.string s] w fun e w' => ∃ q, e = .returned (.string q) ∧ dat q = aboveB (dat s) ∧ Below w.heap.size w w' := by
  go_enter Tryd.func18, Tryd.ntmps18
  go_wp2_with fail
  refine (refparts_any s w).mono ?_
  rintro e w1 ⟨A, c, ps, rfl, hps, hc, hl, hr, b1⟩
  have B1 := Lib.hid b1
  clear b1
  cases hg : goodB (dat s) with
  | false =>
    have hp : ps = [] := by
      unfold partsB at hps
      rw [hg] at hps
      simpa [bytes] using hps
    subst hp
    have M : Hid (aboveB (dat s) = []) := by unfold Hid aboveB; rw [hg]; rfl
    clear hr hg hps
    go_wp2
    go_ret
    exact ⟨ByteArray.empty, rfl, by rw [M.out]; rfl, B1.out⟩
  | true =>
    have hp2 : bytes ps = cut (dat s) := by rw [hps]; unfold partsB; rw [if_pos hg]
    have hpos : 0 < ps.length := by
      have := cut_ne (dat s)
      cases hd : ps with
      | nil => rw [hd] at hp2; exact (this hp2.symm).elim
      | cons x l => simp
    obtain ⟨g, rfl, hrow, _⟩ := hr hpos
    have HR := Lib.hid hrow
    have M : Hid (aboveB (dat s) = glue (cut (dat s)).dropLast) := by unfold Hid aboveB; rw [hg]; rfl
    have hb : bytes ps.dropLast = (cut (dat s)).dropLast := by rw [← hp2]; unfold bytes; rw [List.map_dropLast]
    have HB := Lib.hid hb
    have HS := Lib.hid (names_small hp2 hg)
    have HL : Hid ((glue (bytes ps.dropLast)).length ≤ 32) := glue_le _ _ hb (by have := good_size hg; rw [Lib.size_eq] at this; exact this)
    have RD : Hid (RdT w1 (.slice (some ⟨g, 0, none⟩) (ps.length - 1) c) ps.dropLast) := by
      have e : ps.length - 1 = ps.dropLast.length := by rw [List.length_dropLast]
      unfold Hid
      rw [e]
      exact Row.rds (fun j hj => by
        have h3 : j < ps.length := by rw [List.length_dropLast] at hj; omega
        rw [hrow j h3, List.getElem_dropLast]) c (by rw [List.length_dropLast]; omega)
    have hne : ((ps.length : Int) == 0) = false := by simp only [beq_eq_false_iff_ne, ne_eq]; omega
    clear hrow hg hps hp2 hr hb
    go_wp2_with fail
    refine (refglue_any w1 _ ps.dropLast RD.out (by rw [List.length_dropLast]; omega) (fun p hp => HS.out p (List.dropLast_subset _ hp))).mono ?_
    rintro e w2 ⟨q, rfl, hq, _, rfl⟩
    have hq := Lib.hid (hq (Nat.le_trans HL.out (by decide)))
    go_wp2
    go_ret
    exact ⟨q, rfl, by rw [hq.out, M.out, HB.out], B1.out⟩

theorem own_grow {w w' : World} {b g : Nat} {ps : List ByteArray} (h : w.grownBy w' (some b)) (hr : Row w g ps) (hg : g ≠ b) : Row w' g ps := fun j hj => by
  have := hr j hj
  exact (World.cell?_of_block (w := w) (h.block g (World.block_lt_of_cell? _ _ this) (fun e => hg (by simpa using e)))).trans this

theorem row_drop {w : World} {g : Nat} {ps : List ByteArray} (h : Row w g ps) (k : Nat) : ∀ j u, (strsV (ps.drop k))[j]? = some u → w.cell? ((⟨g, k, none⟩ : Addr).add j) = some u := fun j u hu => by
  simp only [strsV, List.getElem?_map, List.getElem?_drop, Option.map_eq_some_iff] at hu
  obtain ⟨x, hx, rfl⟩ := hu
  obtain ⟨hj, rfl⟩ := List.getElem?_eq_some_iff.1 hx
  have := h (k + j) hj
  by_cases e : j = 0
  · subst e; simpa [Addr.add] using this
  · simpa [Addr.add, e] using this
theorem strs_one {l : List ByteArray} : ∀ u ∈ strsV l, u.oneCell' = true := fun u hu => by
  simp only [strsV, List.mem_map] at hu
  obtain ⟨x, _, rfl⟩ := hu
  rfl
theorem moved_ref {p a t : Bs} (hp : goodB p = true) (ha : goodB a = true) (ht : goodB t = true) (h : coversB a p = true) : movedB p a t = if (glue (cut t ++ (cut p).drop (cut a).length)).length ≤ 32 then (glue (cut t ++ (cut p).drop (cut a).length), 0) else ([], 2) := by
  obtain ⟨r, e1, e2⟩ := covers_rest (good_ne ha) h
  have e3 : (cut p).drop (cut a).length = r := by rw [e1]; simp
  rw [e3, (e2 t).2]
  unfold movedB
  rw [hp, ha, ht, h, good_moved hp ha ht h]
  simp

end Go.Proofs.YtmagidkgajmhoaaDoor
