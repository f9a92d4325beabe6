/- Sort: slices.SortedFunc of slices.Values at strongroom/journal.Change. (written by gen_sort.py) -/
import Derived.Test.YtpaabfadniakoaaJnE
import Derived.Test.YtpaabfadniakoaaJnF
import Derived.Test.YtpaabfadniakoaaJnShelf
import Derived.Shelf.SlSortCmp.WholeK
import Derived.Shelf.SlSortCmp.NoneTotal
import Derived.Sort.OwnSorted
set_option linter.unusedVariables false
set_option linter.unusedSimpArgs false
namespace Go.Proofs.Ytpaabfadniakoaa
open Go.RowKit

open Go.Shelf Go.Lib Go.Sort in
theorem flat (d : Array BCh) : (flatK encCh 2 d).toList = chv (d.toList.map (·.1)) := by
  apply List.ext_getElem?
  intro t
  by_cases ht : t < d.size * 2
  · have h1 : (flatK encCh 2 d).toList[t]? = some (encCh d[t / 2]!)[t % 2]! := by
      rw [Array.getElem?_toList, Array.getElem?_eq_getElem (by rw [size_flatK]; exact ht), ← get_flatK encCh 2 d t ht, getElem!_pos _ t (by rw [size_flatK]; exact ht)]
    rw [h1]
    have hj : t / 2 < (d.toList.map (·.1)).length := by simp; omega
    obtain ⟨g1, g2⟩ := chv_get (d.toList.map (·.1)) (t / 2) hj
    have e : (d.toList.map (·.1))[t / 2] = d[t / 2]!.1 := by
      rw [List.getElem_map, Array.getElem_toList, getElem!_pos d (t / 2) (by omega)]
    rw [e] at g1 g2
    rcases Nat.mod_two_eq_zero_or_one t with h | h
    · rw [show t / 2 * 2 = t by omega] at g1
      rw [g1, h]
      rfl
    · rw [show t / 2 * 2 + 1 = t by omega] at g2
      rw [g2, h]
      rfl
  · rw [List.getElem?_eq_none (by simp; omega), List.getElem?_eq_none (by rw [chv_length]; simp; omega)]

open Go.Shelf Go.Lib Go.Sort in
theorem take_put (cur F : Array Value) (h : F.size ≤ cur.size) : (putCells id 0 F cur).toList.take F.size = F.toList := by
  apply List.ext_getElem?
  intro j
  by_cases hj : j < F.size
  · rw [List.getElem?_take_of_lt hj, Array.getElem?_toList, Array.getElem?_toList]
    have h2 : j < cur.size := by omega
    simp [putCells, hj, h2]
  · rw [List.getElem?_take_eq_none (by omega), List.getElem?_eq_none (by simpa using hj)]

open Go.Shelf Go.Lib Go.Sort in
theorem heap_put {w : World} {g n : Nat} {os : Array Obj} {cur : Array Value} {e : TypeId} {fr : Nat × Nat} (F : Array Value) (hb : w.heap[g]? = some (.cells cur e fr)) :
    (grow (putRow id (Sort.ahead w n) g 0 F) os).heap[g]? = some (.cells (putCells id 0 F cur) e fr) := by
  have hg : g < w.heap.size := (Array.getElem?_eq_some_iff.1 hb).1
  rw [heap_grow_old _ _ (by simpa using hg)]
  simp [putRow, mapBlock, Sort.ahead, Array.getElem?_modify, hb, onCells]

open Go.Shelf Go.Lib Go.Sort in
theorem grown_put' {w : World} {g n : Nat} {os : Array Obj} (F : Array Value) : w.grownBy (grow (putRow id (Sort.ahead w n) g 0 F) os) (some g) := by
  refine ⟨rfl, rfl, rfl, by simp, fun k hk hne => ?_⟩
  rw [heap_grow_old _ _ (by simpa using hk)]
  have : g ≠ k := fun e => hne (by rw [e])
  simp [putRow, mapBlock, Sort.ahead, Array.getElem?_modify, this]

/-- In order of their places. -/
def Ord (M : List (Nat × ByteArray)) : Prop := M.Pairwise (fun x y => x.1 ≤ y.1)

open Go.Shelf Go.Lib Go.Sort in
set_option maxHeartbeats 1600000 in
theorem sort_any (w : World) (base : Nat) (v : Value) (L : List (Nat × ByteArray)) (h : w.ownsRow base 44 2 v L.length (chv L)) (hL : L.length ≤ 1048577) (hb : ∀ x ∈ L, x.1 ≤ 128) :
    Calls Try.prog 65 #[v, .func (.func 48) #[] #[]] w fun e w' => e = .returned (.tuple #[]) ∧ ∃ M : List (Nat × ByteArray), M.Perm L ∧ Ord M ∧ w'.ownsRow base 44 2 v M.length (chv M) ∧ w.grownBy w' v.ownBlock := by
  rcases h.2 with ⟨rfl, h0⟩ | ⟨g, cap, cur, rfl, hbase, hblk, h1, h2, h3, h4⟩
  · obtain rfl : L = [] := List.eq_nil_of_length_eq_zero h0
    have hn := AnyF.slices_SortFunc_none Try.sortCh none 0 (.func (.func 48) #[] #[]) w
    refine hn.mono ?_
    rintro e w' ⟨rfl, rfl⟩
    exact ⟨rfl, [], List.Perm.refl _, List.Pairwise.nil, h, ⟨rfl, rfl, rfl, Nat.le_refl _, fun k _ _ => rfl⟩⟩
  · obtain ⟨d, hd⟩ : ∃ d : Array BCh, d = (L.pmap (fun x hx => (⟨x, hx⟩ : BCh)) hb).toArray := ⟨_, rfl⟩
    have hdl : d.toList.map (·.1) = L := by
      rw [hd]
      show (L.pmap (fun x hx => (⟨x, hx⟩ : BCh)) hb).map (·.1) = L
      rw [List.map_pmap]
      exact (List.pmap_eq_map (f := fun x : Nat × ByteArray => x) hb).trans (List.map_id _)
    have hds : d.size = L.length := by rw [← hdl]; simp
    have hfl := flat d
    rw [hdl] at hfl
    have hcs : L.length * 2 ≤ cur.size := by rw [h3]; exact Nat.mul_le_mul_right 2 h1
    have hH : HoldsK encCh 2 w g 0 d := by
      intro t ht
      rw [size_flatK] at ht
      refine ⟨?_, by simp [World.frozen?, hblk]⟩
      have e1 : (cur.toList.take (L.length * 2))[t]? = (flatK encCh 2 d).toList[t]? := by rw [h4, hfl]
      rw [List.getElem?_take_of_lt (by omega), Array.getElem?_toList, Array.getElem?_toList] at e1
      rw [Nat.zero_add, blk_cell hblk, e1, Array.getElem?_eq_getElem (by rw [size_flatK]; exact ht), getElem!_pos _ t (by rw [size_flatK]; exact ht)]
      rfl
    have ec : ∀ args w, (callFunc 48 args).run Try.prog w = .ok (.enter 48 args) w := enters_of Try.func48 (by kernel_rfl) rfl
    have hcon := AnyQ.slices_SortFunc Try.sortCh 2 Try.isAgg44 Try.sizeOf44 encCh (fun _ => rfl) (fun x v hv => by simp [encCh] at hv; rcases hv with rfl | rfl <;> rfl) cfCh swoCh 48 #[] g 0 cap d w ec (cmpCh_lays g 0 d.size w) hH (lt_of_block hblk) (by omega)
    rw [hds] at hcon
    refine hcon.mono ?_
    rintro e w' ⟨rfl, d', n, os, hp, hs, rfl⟩
    obtain ⟨p1, _, p3⟩ := hp
    have full : ∀ a : Array BCh, a.size = L.length → (a.extract 0 L.length).toList = a.toList := fun a ha => by rw [← ha]; simp
    rw [full d' (by omega), full d hds] at p3
    have pm : (d'.toList.map (·.1)).Perm L := by rw [← hdl]; exact p3.map _
    have hfl' := flat d'
    have hl' : (d'.toList.map (·.1)).length = L.length := pm.length_eq
    refine ⟨rfl, d'.toList.map (·.1), pm, ?_, ?_, by have := grown_put' (w := w) (g := g) (n := n) (os := os) (flatK encCh 2 d'); exact this⟩
    · refine List.pairwise_iff_getElem.2 (fun i j hi hj hij => ?_)
      have hi' : i < d'.size := by simpa using hi
      have hj' : j < d'.size := by simpa using hj
      have := hs i j (Nat.zero_le _) hij (by omega)
      rw [ltCh] at this
      rw [List.getElem_map, List.getElem_map, Array.getElem_toList, Array.getElem_toList]
      rw [getElem!_pos d' i hi', getElem!_pos d' j hj'] at this
      simp at this
      exact this
    · have hz : (flatK encCh 2 d').size = L.length * 2 := by rw [size_flatK]; omega
      refine ⟨by rw [chv_length], .inr ⟨g, cap, _, by rw [hl'], hbase, heap_put (flatK encCh 2 d') hblk, by omega, h2, by rw [← h3]; simp [putCells], ?_⟩⟩
      have tp := take_put cur (flatK encCh 2 d') (by omega)
      rw [hz] at tp
      rw [hl', tp, hfl']

set_option maxHeartbeats 1600000 in
/-- slices.SortedFunc(slices.Values(s), ..). -/
theorem sorted_any (Bc : Nat) (A : Option Addr) (b off c : Nat) (L : List (Nat × ByteArray)) (w : World)
    (hbox : w.cell? ⟨Bc, 0, none⟩ = some (.slice A L.length c)) (hA : 0 < L.length → A = some ⟨b, off, none⟩)
    (hrd : ∀ (j : Nat) (h : j < L.length), w.cell? ⟨b, off + j * 2, none⟩ = some (.int .i64 (L[j].1 : Int)) ∧ w.cell? ⟨b, off + j * 2 + 1, none⟩ = some (.string L[j].2)) (hL : L.length ≤ 1048577) (hb : ∀ x ∈ L, x.1 ≤ 128) :
    Calls Try.prog 46 #[.func (.func 66) #[] #[.pointer (some ⟨Bc, 0, none⟩)], .func (.func 48) #[] #[]] w fun e w' => ∃ v M, e = .returned v ∧ M.Perm L ∧ Ord M ∧ w'.ownsRow w.heap.size 44 2 v M.length (chv M) ∧ Below w.heap.size w w' := by
  have CO := Lib.hid (collect_any Bc A b off c L w hbox hA hrd hL)
  have HB := Lib.hid hb
  clear hbox hA hrd hb
  go_enter Try.func46, Try.ntmps46
  go_wp2_with fail
  refine CO.out.mono ?_
  rintro e w1 ⟨v, rfl, ho, b1⟩
  have SO := Lib.hid (sort_any w1 w.heap.size v L ho hL HB.out)
  have B1 := Lib.hid b1
  have HO := Lib.hid ho
  clear ho b1 CO
  go_wp2_with fail
  refine SO.out.mono ?_
  rintro e w2 ⟨rfl, M, pm, om, ho2, hg⟩
  have HO2 := Lib.hid ho2
  have PM := Lib.hid pm; have OM := Lib.hid om
  have B2 : Hid (Below w.heap.size w w2) := B1.out.grown hg B1.out.size (fun k e => (HO.out.lt k e).1)
  clear ho2 pm om hg SO
  go_wp2
  go_ret
  exact ⟨v, M, rfl, PM.out, OM.out, HO2.out, B2.out⟩
end Go.Proofs.Ytpaabfadniakoaa
