/- JnShelf: Go's SortFunc at this program: the shelf's laying, as its tool writes it. -/
import Derived.Test.YtoolkamajlgcbaaMr23
import Derived.Shelf.SlSortCmp.WholeK
import Derived.Test.YtoolkamajlgcbaaProg
import Derived.Shelf.SlSortCmp.NoneTotal
import Derived.Sort.OwnSorted
namespace Go.Proofs
open Go.Shelf
def Try.sortCh_ren : Go.Shelf.Ren := ⟨fun | 6 => 74 | 15 => 82 | 14 => 81 | 28 => 92 | 29 => 93 | 20 => 84 | 21 => 85 | 22 => 86 | 23 => 87 | 24 => 88 | 25 => 89 | 26 => 90 | 27 => 91 | 46 => 94 | 47 => 95 | 48 => 96 | 49 => 97 | 50 => 98 | 57 => 99 | n => n, fun | 22 => 50 | 24 => 53 | 25 => 94 | 3 => 3 | 39 => 124 | 0 => 0 | 53 => 136 | 55 => 138 | 4 => 4 | 46 => 130 | 45 => 129 | 50 => 107 | 5 => 5 | 9 => 9 | 66 => 139 | 70 => 143 | 76 => 145 | 77 => 77 | n => n, fun | n => n⟩
theorem Try.sortCh : Go.Proofs.SlLaysF0.n6 Try.prog Try.sortCh_ren := {
  mixed := by kernel_rfl
  f6 := ⟨Try.f74.name, by decide, Try.func74.trans (congrArg some (by kernel_rfl))⟩
  f14 := ⟨Try.f81.name, by decide, Try.func81.trans (congrArg some (by kernel_rfl))⟩
  f15 := Try.func82.trans (congrArg some (by kernel_rfl))
  f20 := ⟨Try.f84.name, by decide, Try.func84.trans (congrArg some (by kernel_rfl))⟩
  f21 := ⟨Try.f85.name, by decide, Try.func85.trans (congrArg some (by kernel_rfl))⟩
  f22 := ⟨Try.f86.name, by decide, Try.func86.trans (congrArg some (by kernel_rfl))⟩
  f23 := ⟨Try.f87.name, by decide, Try.func87.trans (congrArg some (by kernel_rfl))⟩
  f24 := ⟨Try.f88.name, by decide, Try.func88.trans (congrArg some (by kernel_rfl))⟩
  f25 := ⟨Try.f89.name, by decide, Try.func89.trans (congrArg some (by kernel_rfl))⟩
  f26 := ⟨Try.f90.name, by decide, Try.func90.trans (congrArg some (by kernel_rfl))⟩
  f27 := ⟨Try.f91.name, by decide, Try.func91.trans (congrArg some (by kernel_rfl))⟩
  f28 := Try.func92.trans (congrArg some (by kernel_rfl))
  f29 := Try.func93.trans (congrArg some (by kernel_rfl))
  f46 := ⟨Try.f94.name, by decide, Try.func94.trans (congrArg some (by kernel_rfl))⟩
  f47 := Try.func95.trans (congrArg some (by kernel_rfl))
  f48 := Try.func96.trans (congrArg some (by kernel_rfl))
  f49 := ⟨Try.f97.name, by decide, Try.func97.trans (congrArg some (by kernel_rfl))⟩
  f50 := ⟨Try.f98.name, by decide, Try.func98.trans (congrArg some (by kernel_rfl))⟩
  f57 := ⟨Try.f99.name, by decide, Try.func99.trans (congrArg some (by kernel_rfl))⟩
  t0 := Try.underlying0
  a0 := Try.isAgg0
  z0 := Try.sizeOf0
  v0 := Try.zeroValue0
  t3 := Try.underlying3
  a3 := Try.isAgg3
  z3 := Try.sizeOf3
  v3 := Try.zeroValue3
  t4 := Try.underlying4
  a4 := Try.isAgg4
  z4 := Try.sizeOf4
  v4 := Try.zeroValue4
  t5 := Try.underlying5
  a5 := Try.isAgg5
  z5 := Try.sizeOf5
  v5 := Try.zeroValue5
  t9 := Try.underlying9
  a9 := Try.isAgg9
  z9 := Try.sizeOf9
  v9 := Try.zeroValue9
  t22 := Try.underlying50
  a22 := Try.isAgg50
  z22 := Try.sizeOf50
  v22 := Try.zeroValue50
  t25 := Try.underlying94
  a25 := Try.isAgg94
  z25 := Try.sizeOf94
  v25 := Try.zeroValue94
  t39 := Try.underlying124
  a39 := Try.isAgg124
  z39 := Try.sizeOf124
  v39 := Try.zeroValue124
  t45 := Try.underlying129
  a45 := Try.isAgg129
  z45 := Try.sizeOf129
  v45 := Try.zeroValue129
  t46 := Try.underlying130
  a46 := Try.isAgg130
  z46 := Try.sizeOf130
  v46 := Try.zeroValue130
  t50 := Try.underlying107
  a50 := Try.isAgg107
  z50 := Try.sizeOf107
  v50 := Try.zeroValue107
  t53 := Try.underlying136
  a53 := Try.isAgg136
  z53 := Try.sizeOf136
  v53 := Try.zeroValue136
  t55 := Try.underlying138
  a55 := Try.isAgg138
  z55 := Try.sizeOf138
  v55 := Try.zeroValue138
  t66 := Try.underlying139
  a66 := Try.isAgg139
  z66 := Try.sizeOf139
  v66 := Try.zeroValue139
  t70 := Try.underlying143
  a70 := Try.isAgg143
  z70 := Try.sizeOf143
  v70 := Try.zeroValue143
  t76 := Try.underlying145
  a76 := Try.isAgg145
  z76 := Try.sizeOf145
  v76 := Try.zeroValue145
  t77 := Try.underlying77
  a77 := Try.isAgg77
  z77 := Try.sizeOf77
  v77 := Try.zeroValue77 }
end Go.Proofs
/- Sort: slices.SortedFunc of slices.Values at strongroom/journal.Change. (written by gen_sort.py) -/
set_option linter.unusedVariables false
set_option linter.unusedSimpArgs false
namespace Go.Proofs.Ytoolkamajlgcbaa
open Go.RowKit

open Go.Shelf Go.Lib Go.Sort in
theorem flat (d : Array BCh) : (flatK encCh 2 d).toList = chv (d.toList.map (·.1)) := by
  apply List.ext_getElem?
  intro t
  by_cases ht : t < d.size * 2
  · have h1 : (flatK encCh 2 d).toList[t]? = some (encCh d[t / 2]!)[t % 2]! := by
      rw [Array.getElem?_toList, Array.getElem?_eq_getElem (by rw [size_flatK]; exact ht), ← get_flatK encCh 2 d t ht, getElem!_pos _ t (by rw [size_flatK]; exact ht)]
    rw [h1]
    have hj : t / 2 < (d.toList.map (·.1)).length := by simp; omega
    obtain ⟨g1, g2⟩ := chv_get (d.toList.map (·.1)) (t / 2) hj
    have e : (d.toList.map (·.1))[t / 2] = d[t / 2]!.1 := by
      rw [List.getElem_map, Array.getElem_toList, getElem!_pos d (t / 2) (by omega)]
    rw [e] at g1 g2
    rcases Nat.mod_two_eq_zero_or_one t with h | h
    · rw [show t / 2 * 2 = t by omega] at g1
      rw [g1, h]
      rfl
    · rw [show t / 2 * 2 + 1 = t by omega] at g2
      rw [g2, h]
      rfl
  · rw [List.getElem?_eq_none (by simp; omega), List.getElem?_eq_none (by rw [chv_length]; simp; omega)]

open Go.Shelf Go.Lib Go.Sort in
theorem take_put (cur F : Array Value) (h : F.size ≤ cur.size) : (putCells id 0 F cur).toList.take F.size = F.toList := by
  apply List.ext_getElem?
  intro j
  by_cases hj : j < F.size
  · rw [List.getElem?_take_of_lt hj, Array.getElem?_toList, Array.getElem?_toList]
    have h2 : j < cur.size := by omega
    simp [putCells, hj, h2]
  · rw [List.getElem?_take_eq_none (by omega), List.getElem?_eq_none (by simpa using hj)]

open Go.Shelf Go.Lib Go.Sort in
theorem heap_put {w : World} {g n : Nat} {os : Array Obj} {cur : Array Value} {e : TypeId} {fr : Nat × Nat} (F : Array Value) (hb : w.heap[g]? = some (.cells cur e fr)) :
    (grow (putRow id (Sort.ahead w n) g 0 F) os).heap[g]? = some (.cells (putCells id 0 F cur) e fr) := by
  have hg : g < w.heap.size := (Array.getElem?_eq_some_iff.1 hb).1
  rw [heap_grow_old _ _ (by simpa using hg)]
  simp [putRow, mapBlock, Sort.ahead, Array.getElem?_modify, hb, onCells]

open Go.Shelf Go.Lib Go.Sort in
theorem grown_put' {w : World} {g n : Nat} {os : Array Obj} (F : Array Value) : w.grownBy (grow (putRow id (Sort.ahead w n) g 0 F) os) (some g) := by
  refine ⟨rfl, rfl, rfl, by simp, fun k hk hne => ?_⟩
  rw [heap_grow_old _ _ (by simpa using hk)]
  have : g ≠ k := fun e => hne (by rw [e])
  simp [putRow, mapBlock, Sort.ahead, Array.getElem?_modify, this]

/-- In order of their places. -/
def Ord (M : List (Nat × ByteArray)) : Prop := M.Pairwise (fun x y => x.1 ≤ y.1)

open Go.Shelf Go.Lib Go.Sort in
set_option maxHeartbeats 1600000 in
theorem sort_any (w : World) (base : Nat) (v : Value) (L : List (Nat × ByteArray)) (h : w.ownsRow base 53 2 v L.length (chv L)) (hL : L.length ≤ 1048577) (hb : ∀ x ∈ L, x.1 ≤ 128) :
    Calls Try.prog 74 #[v, .func (.func 48) #[] #[]] w fun e w' => e = .returned (.tuple #[]) ∧ ∃ M : List (Nat × ByteArray), M.Perm L ∧ Ord M ∧ w'.ownsRow base 53 2 v M.length (chv M) ∧ w.grownBy w' v.ownBlock := by
  rcases h.2 with ⟨rfl, h0⟩ | ⟨g, cap, cur, rfl, hbase, hblk, h1, h2, h3, h4⟩
  · obtain rfl : L = [] := List.eq_nil_of_length_eq_zero h0
    have hn := AnyF.slices_SortFunc_none Try.sortCh none 0 (.func (.func 48) #[] #[]) w
    refine hn.mono ?_
    rintro e w' ⟨rfl, rfl⟩
    exact ⟨rfl, [], List.Perm.refl _, List.Pairwise.nil, h, ⟨rfl, rfl, rfl, Nat.le_refl _, fun k _ _ => rfl⟩⟩
  · obtain ⟨d, hd⟩ : ∃ d : Array BCh, d = (L.pmap (fun x hx => (⟨x, hx⟩ : BCh)) hb).toArray := ⟨_, rfl⟩
    have hdl : d.toList.map (·.1) = L := by
      rw [hd]
      show (L.pmap (fun x hx => (⟨x, hx⟩ : BCh)) hb).map (·.1) = L
      rw [List.map_pmap]
      exact (List.pmap_eq_map (f := fun x : Nat × ByteArray => x) hb).trans (List.map_id _)
    have hds : d.size = L.length := by rw [← hdl]; simp
    have hfl := flat d
    rw [hdl] at hfl
    have hcs : L.length * 2 ≤ cur.size := by rw [h3]; exact Nat.mul_le_mul_right 2 h1
    have hH : HoldsK encCh 2 w g 0 d := by
      intro t ht
      rw [size_flatK] at ht
      refine ⟨?_, by simp [World.frozen?, hblk]⟩
      have e1 : (cur.toList.take (L.length * 2))[t]? = (flatK encCh 2 d).toList[t]? := by rw [h4, hfl]
      rw [List.getElem?_take_of_lt (by omega), Array.getElem?_toList, Array.getElem?_toList] at e1
      rw [Nat.zero_add, blk_cell hblk, e1, Array.getElem?_eq_getElem (by rw [size_flatK]; exact ht), getElem!_pos _ t (by rw [size_flatK]; exact ht)]
      rfl
    have ec : ∀ args w, (callFunc 48 args).run Try.prog w = .ok (.enter 48 args) w := enters_of Try.func48 (by kernel_rfl) rfl
    have hcon := AnyQ.slices_SortFunc Try.sortCh 2 Try.isAgg53 Try.sizeOf53 encCh (fun _ => rfl) (fun x v hv => by simp [encCh] at hv; rcases hv with rfl | rfl <;> rfl) cfCh swoCh 48 #[] g 0 cap d w ec (cmpCh_lays g 0 d.size w) hH (lt_of_block hblk) (by omega)
    rw [hds] at hcon
    refine hcon.mono ?_
    rintro e w' ⟨rfl, d', n, os, hp, hs, rfl⟩
    obtain ⟨p1, _, p3⟩ := hp
    have full : ∀ a : Array BCh, a.size = L.length → (a.extract 0 L.length).toList = a.toList := fun a ha => by rw [← ha]; simp
    rw [full d' (by omega), full d hds] at p3
    have pm : (d'.toList.map (·.1)).Perm L := by rw [← hdl]; exact p3.map _
    have hfl' := flat d'
    have hl' : (d'.toList.map (·.1)).length = L.length := pm.length_eq
    refine ⟨rfl, d'.toList.map (·.1), pm, ?_, ?_, by have := grown_put' (w := w) (g := g) (n := n) (os := os) (flatK encCh 2 d'); exact this⟩
    · refine List.pairwise_iff_getElem.2 (fun i j hi hj hij => ?_)
      have hi' : i < d'.size := by simpa using hi
      have hj' : j < d'.size := by simpa using hj
      have := hs i j (Nat.zero_le _) hij (by omega)
      rw [ltCh] at this
      rw [List.getElem_map, List.getElem_map, Array.getElem_toList, Array.getElem_toList]
      rw [getElem!_pos d' i hi', getElem!_pos d' j hj'] at this
      simp at this
      exact this
    · have hz : (flatK encCh 2 d').size = L.length * 2 := by rw [size_flatK]; omega
      refine ⟨by rw [chv_length], .inr ⟨g, cap, _, by rw [hl'], hbase, heap_put (flatK encCh 2 d') hblk, by omega, h2, by rw [← h3]; simp [putCells], ?_⟩⟩
      have tp := take_put cur (flatK encCh 2 d') (by omega)
      rw [hz] at tp
      rw [hl', tp, hfl']

set_option maxHeartbeats 1600000 in
/-- slices.SortedFunc(slices.Values(s), ..). -/
theorem sorted_any (Bc : Nat) (A : Option Addr) (b off c : Nat) (L : List (Nat × ByteArray)) (w : World)
    (hbox : w.cell? ⟨Bc, 0, none⟩ = some (.slice A L.length c)) (hA : 0 < L.length → A = some ⟨b, off, none⟩)
    (hrd : ∀ (j : Nat) (h : j < L.length), w.cell? ⟨b, off + j * 2, none⟩ = some (.int .i64 (L[j].1 : Int)) ∧ w.cell? ⟨b, off + j * 2 + 1, none⟩ = some (.string L[j].2)) (hL : L.length ≤ 1048577) (hb : ∀ x ∈ L, x.1 ≤ 128) :
    Calls Try.prog 46 #[.func (.func 75) #[] #[.pointer (some ⟨Bc, 0, none⟩)], .func (.func 48) #[] #[]] w fun e w' => ∃ v M, e = .returned v ∧ M.Perm L ∧ Ord M ∧ w'.ownsRow w.heap.size 53 2 v M.length (chv M) ∧ Below w.heap.size w w' := by
  have CO := Lib.hid (collect_any Bc A b off c L w hbox hA hrd hL)
  have HB := Lib.hid hb
  clear hbox hA hrd hb
  go_enter Try.func46, Try.ntmps46
  go_wp2_with fail
  refine CO.out.mono ?_
  rintro e w1 ⟨v, rfl, ho, b1⟩
  have SO := Lib.hid (sort_any w1 w.heap.size v L ho hL HB.out)
  have B1 := Lib.hid b1
  have HO := Lib.hid ho
  clear ho b1 CO
  go_wp2_with fail
  refine SO.out.mono ?_
  rintro e w2 ⟨rfl, M, pm, om, ho2, hg⟩
  have HO2 := Lib.hid ho2
  have PM := Lib.hid pm; have OM := Lib.hid om
  have B2 : Hid (Below w.heap.size w w2) := B1.out.grown hg B1.out.size (fun k e => (HO.out.lt k e).1)
  clear ho2 pm om hg SO
  go_wp2
  go_ret
  exact ⟨v, M, rfl, PM.out, OM.out, HO2.out, B2.out⟩
end Go.Proofs.Ytoolkamajlgcbaa
/- JnH: the walks of layAll, at Commit's two places (written by gen_com.py). -/
set_option linter.unusedVariables false
set_option linter.unusedSimpArgs false
namespace Go.Proofs.Ytoolkamajlgcbaa
open Go.RowKit

theorem c2_any (W : World) (i : Nat) (hi : i ≤ 128) : Calls Try.prog 51 #[.int .i64 (i : Int)] W fun e w' => e = .returned (.int .i64 ((1 + 4 * i : Nat) : Int)) ∧ W = w' := by
  have e1 : ((1 + 4 * i : Nat) : Int) = 1 + 4 * (i : Int) := by omega
  rw [e1]
  clear e1
  go_enter Try.func51, Try.ntmps51
  go_wp2
  go_ret
  exact ⟨rfl, rfl⟩
def stepsA (l : List Chg) : List Stp := l.flatMap (fun c => laid ((1 + 4 * c.1 : Nat) : Int) c.2)
def stepsB (P : Nat) (l : List Chg) : List Stp := l.flatMap (fun c => laid ((1 + 4 * (P + c.1) : Nat) : Int) c.2)
theorem stepsA_take {l : List Chg} {k : Nat} (h : k < l.length) : stepsA (l.take (k + 1)) = stepsA (l.take k) ++ laid ((1 + 4 * l[k].1 : Nat) : Int) l[k].2 := by
  rw [List.take_succ_eq_append_getElem h, stepsA, List.flatMap_append]; simp [stepsA]
theorem stepsB_take (P : Nat) {l : List Chg} {k : Nat} (h : k < l.length) : stepsB P (l.take (k + 1)) = stepsB P (l.take k) ++ laid ((1 + 4 * (P + l[k].1) : Nat) : Int) l[k].2 := by
  rw [List.take_succ_eq_append_getElem h, stepsB, List.flatMap_append]; simp [stepsB]
theorem stepsA_len (l : List Chg) : (stepsA l).length = 4 * l.length := by
  induction l with
  | nil => rfl
  | cons x l ih => show (laid _ _ ++ stepsA l).length = _; rw [List.length_append, ih, laid, layK_len, List.length_cons]; omega
theorem stepsB_len (P : Nat) (l : List Chg) : (stepsB P l).length = 4 * l.length := by
  induction l with
  | nil => rfl
  | cons x l ih => show (laid _ _ ++ stepsB P l).length = _; rw [List.length_append, ih, laid, layK_len, List.length_cons]; omega
theorem stepsA_more (l : List Chg) (k : Nat) : ∃ r, stepsA l = stepsA (l.take k) ++ r := ⟨stepsA (l.drop k), by rw [stepsA, stepsA, stepsA, ← List.flatMap_append, List.take_append_drop]⟩
theorem stepsB_more (P : Nat) (l : List Chg) (k : Nat) : ∃ r, stepsB P l = stepsB P (l.take k) ++ r := ⟨stepsB P (l.drop k), by rw [stepsB, stepsB, stepsB, ← List.flatMap_append, List.take_append_drop]⟩
set_option maxHeartbeats 3200000 in
set_option maxRecDepth 100000 in
theorem layAllA_any (w : World) (F : Nat → Prop) (gj g P : Nat) (d : Dk) (h : HasDisk w F g d) (hj : Jb w gj g P) (hF : ¬ F gj) (hP : P ≤ 128) (l : List Chg) (b c : Nat) (cur : Array Value) (hb : w.heap[b]? = some (.cells cur 53 (0, 0))) (hFb : ¬ F b)
    (hcs : ∀ j (h : j < l.length), cur[j * 2]? = some (.int .i64 (l[j].1 : Int)) ∧ cur[j * 2 + 1]? = some (.string l[j].2)) (hS : ∀ x ∈ l, x.1 ≤ 127 ∧ x.2.size = 1024) (hf : Fw (4 * l.length) d) (hn : l.length ≤ 1000000) :
    Calls Try.prog 50 #[.pointer (some ⟨gj, 0, none⟩), .slice (some ⟨b, 0, none⟩) l.length c, .func (.func 51) #[] #[]] w fun e w' => JTo w F g d (stepsA l) e w' := by
  have H0 : Hid (DTo w F g d w F) := DTo.self h
  have HJ := Lib.hid hj; have HF := Lib.hid hF; have FW := Lib.hid hf; have HB := Lib.hid hb; have HFB := Lib.hid hFb; have HCS := Lib.hid hcs; have HS := Lib.hid hS
  clear h hj hF hf hb hFb hcs hS
  go_enter Try.func50, Try.ntmps50
  go_wp2_with fail
  go_loopw [12] (fun i wr => ∃ (k : Nat) (F' : Nat → Prop), k ≤ l.length ∧ i = .int .i64 k ∧ Hid ((run d (stepsA (l.take k))).2 = 0) ∧ Hid (DTo w F g (run d (stepsA (l.take k))).1 wr F')) (fun i _ => l.length - (intOf i).toNat)
  case atStart => exact ⟨0, F, Nat.zero_le _, rfl, rfl, H0⟩
  case round =>
    obtain ⟨k, F', hk, rfl, he, ht⟩ := hrel
    by_cases hlt : k < l.length
    · have hB := blk_touch ht.out.touch HB.out HFB.out
      obtain ⟨x0, x1⟩ := HCS.out k hlt
      have z0 := blk_cell hB (k * 2)
      have z1 := blk_cell hB (k * 2 + 1)
      rw [x0] at z0
      rw [x1] at z1
      obtain ⟨q1, q2⟩ := HS.out l[k] (List.getElem_mem hlt)
      have LK := Lib.hid (stepsA_take hlt)
      have FW2 : Hid (Fw (4 * (l.length - k)) (run d (stepsA (l.take k))).1) := fw_run _ (FW.out.mono (by rw [stepsA_len, List.length_take]; omega))
      have RS := fun b => Lib.hid (run_go he.out b)
      generalize hx : l[k] = x at z0 z1 q1 q2 LK
      obtain ⟨n, s⟩ := x
      simp only at z0 z1 q1 q2 LK
      have Q1 := Lib.hid q1
      obtain ⟨D, hD⟩ : ∃ D, D = (run d (stepsA (l.take k))).1 := ⟨_, rfl⟩
      rw [← hD] at FW2 ht RS
      have T1 : Hid (DTo w F g D (wr.alloc (.cells #[.int .i64 (n : Int), .string s] 53)).drew F') := ht.out.post ((Below.refl _ wr).alloc (Nat.le_refl _) _).drew
      have J1 : Hid (Jb (wr.alloc (.cells #[.int .i64 (n : Int), .string s] 53)).drew gj g P) := HJ.out.touch T1.out.touch HF.out
      have NF : Hid (¬ F' gj) := fun hh => by
        rcases ht.out.new gj hh with hh | hh
        · exact HF.out hh
        · exact absurd (lt_of_block HJ.out) (by omega)
      have N2 : Hid (¬ F' wr.heap.size) := fun hh => by
        have := ht.out.has.lt _ hh
        omega
      have g2 := blk_new wr (.cells #[.int .i64 (n : Int), .string s] 53)
      have G2 := Lib.hid g2
      have y0 : (wr.alloc (.cells #[.int .i64 (n : Int), .string s] 53)).drew.cell? ⟨wr.heap.size, 0, none⟩ = some (.int .i64 (n : Int)) := blk_cell g2 0
      have y1 : (wr.alloc (.cells #[.int .i64 (n : Int), .string s] 53)).drew.cell? ⟨wr.heap.size, 1, none⟩ = some (.string s) := blk_cell g2 1
      have PL := Lib.hid (c2_any (wr.alloc (.cells #[.int .i64 (n : Int), .string s] 53)).drew n (by omega))
      obtain ⟨q, hq⟩ : ∃ q : Nat, q = 1 + 4 * n := ⟨_, rfl⟩
      have hq4 : q ≤ 4096 := by omega
      rw [← hq] at PL LK
      have LY := Lib.hid (lay_any (wr.alloc (.cells #[.int .i64 (n : Int), .string s] 53)).drew F' gj g P D T1.out.has J1.out NF.out (FW2.out.mono (by omega)) q hq4 s q2)
      clear hB x0 x1 q1 q2 hx g2 hq
      unfold JTo at LY
      obtain ⟨r, hr⟩ : ∃ r, r = run D (laid (q : Int) s) := ⟨_, rfl⟩
      rw [← hr] at LY
      have HR := Lib.hid hr
      clear hr hD
      by_cases hw : r.2 = 0
      · have HW := Lib.hid hw
        rw [hw] at LY
        clear hw
        go_wp2_with fail
        refine wp_region_flag (fun w' => w'.cell? ⟨wr.heap.size, 0, none⟩ = some (.int .i64 (n : Int)) ∧ w'.cell? ⟨wr.heap.size, 1, none⟩ = some (.string s)) [(0, 1), (1, 1), (2, 1), (5, 1), (3, 2), (6, 2), (4, 0), (7, 0), (8, 1)] (by kernel_rfl) (by kernel_rfl) ⟨y0, y1⟩ ?_
        simp only [ordered, List.map_cons, List.map_nil, List.getD_cons_zero, List.getD_cons_succ]
        repeat (refine wpF_dry (fun K hK => ?_); go_simp; refine hK _ ?_; clear hK K)
        refine wpF_read (.int .i64 (n : Int)) rfl (fun w' hS => by obtain ⟨s1, s2⟩ := hS; go_simp) (fun K hK => ?_)
        go_simp
        refine hK _ ?_
        clear hK K
        refine wpF_read (.string s) rfl (fun w' hS => by obtain ⟨s1, s2⟩ := hS; go_simp) (fun K hK => ?_)
        go_simp
        refine hK _ ?_
        clear hK K
        refine wpF_do ?_
        go_wp2_with fail
        refine PL.out.mono ?_
        rintro e w3 ⟨rfl, rfl⟩
        clear PL
        go_wp2_with fail
        refine ⟨⟨y0, y1⟩, ?_⟩
        refine wpF_do ?_
        go_wp2_with fail
        refine LY.out.mono ?_
        rintro e w4 ⟨rfl, F4, ht4⟩
        have T4 : Hid (DTo w F g r.1 w4 F4) := T1.out.then ht4
        have g4 := blk_touch ht4.touch (show (wr.alloc (.cells #[.int .i64 (n : Int), .string s] 53)).drew.heap[wr.heap.size]? = _ from G2.out) N2.out
        have v0 : w4.cell? ⟨wr.heap.size, 0, none⟩ = some (.int .i64 (n : Int)) := blk_cell g4 0
        have v1 : w4.cell? ⟨wr.heap.size, 1, none⟩ = some (.string s) := blk_cell g4 1
        clear ht4 LY g4 y0 y1 z0 z1
        go_wp2_with fail
        refine ⟨⟨v0, v1⟩, ?_⟩
        repeat (refine wpF_dry (fun K hK => ?_); go_simp; refine hK _ ?_; clear hK K)
        refine wpF_nil ?_
        have R4 : Hid ((run d (stepsA (l.take (k + 1)))).2 = 0) := by unfold Hid; rw [LK.out, (RS _).out, ← HR.out, HW.out]
        have T5 : Hid (DTo w F g (run d (stepsA (l.take (k + 1)))).1 w4 F4) := by unfold Hid; rw [LK.out, (RS _).out, ← HR.out]; exact T4.out
        go_wp2
        go_roundw
        case rel => first | exact ⟨k + 1, F4, hlt, by go_num, R4, T5⟩ | ((repeat apply Exists.intro); refine ⟨?_, rfl⟩; exact ⟨k + 1, F4, hlt, by go_num, R4, T5⟩)
        case measure => simp [intOf]; omega
      · have R4 : Hid (run d (stepsA l) = r) := by
          obtain ⟨m, hm⟩ := stepsA_more l (k + 1)
          unfold Hid
          rw [hm, run_stop (by rw [LK.out, (RS _).out, ← HR.out]; exact hw), LK.out, (RS _).out, ← HR.out]
        clear HR
        obtain ⟨r1, r2⟩ := r
        simp only at hw LY
        have d0 : (r2 != 0) = true := by simpa using hw
        clear hw RS
        go_wp2_with fail
        refine wp_region_flag (fun w' => w'.cell? ⟨wr.heap.size, 0, none⟩ = some (.int .i64 (n : Int)) ∧ w'.cell? ⟨wr.heap.size, 1, none⟩ = some (.string s)) [(0, 1), (1, 1), (2, 1), (5, 1), (3, 2), (6, 2), (4, 0), (7, 0), (8, 1)] (by kernel_rfl) (by kernel_rfl) ⟨y0, y1⟩ ?_
        simp only [ordered, List.map_cons, List.map_nil, List.getD_cons_zero, List.getD_cons_succ]
        repeat (refine wpF_dry (fun K hK => ?_); go_simp; refine hK _ ?_; clear hK K)
        refine wpF_read (.int .i64 (n : Int)) rfl (fun w' hS => by obtain ⟨s1, s2⟩ := hS; go_simp) (fun K hK => ?_)
        go_simp
        refine hK _ ?_
        clear hK K
        refine wpF_read (.string s) rfl (fun w' hS => by obtain ⟨s1, s2⟩ := hS; go_simp) (fun K hK => ?_)
        go_simp
        refine hK _ ?_
        clear hK K
        refine wpF_do ?_
        go_wp2_with fail
        refine PL.out.mono ?_
        rintro e w3 ⟨rfl, rfl⟩
        clear PL
        go_wp2_with fail
        refine ⟨⟨y0, y1⟩, ?_⟩
        refine wpF_do ?_
        go_wp2_with fail
        refine LY.out.mono ?_
        rintro e w4 ⟨rfl, F4, ht4⟩
        have T4 : Hid (DTo w F g r1 w4 F4) := T1.out.then ht4
        have g4 := blk_touch ht4.touch (show (wr.alloc (.cells #[.int .i64 (n : Int), .string s] 53)).drew.heap[wr.heap.size]? = _ from G2.out) N2.out
        have v0 : w4.cell? ⟨wr.heap.size, 0, none⟩ = some (.int .i64 (n : Int)) := blk_cell g4 0
        have v1 : w4.cell? ⟨wr.heap.size, 1, none⟩ = some (.string s) := blk_cell g4 1
        clear ht4 LY g4 y0 y1 z0 z1
        go_wp2_with fail
        refine ⟨⟨v0, v1⟩, ?_⟩
        repeat (refine wpF_dry (fun K hK => ?_); go_simp; refine hK _ ?_; clear hK K)
        refine wpF_nil ?_
        go_wp2
        go_ret
        refine ⟨by rw [R4.out]; rfl, F4, ?_⟩
        rw [R4.out]
        exact T4.out
    · obtain rfl : k = l.length := by omega
      rw [List.take_length] at he ht
      go_wp2
      go_ret
      exact ⟨by rw [he.out]; rfl, F', ht.out⟩
set_option maxHeartbeats 3200000 in
set_option maxRecDepth 100000 in
theorem layAllB_any (w : World) (F : Nat → Prop) (gj g P : Nat) (d : Dk) (h : HasDisk w F g d) (hj : Jb w gj g P) (hF : ¬ F gj) (hP : P ≤ 128) (l : List Chg) (b c : Nat) (cur : Array Value) (hb : w.heap[b]? = some (.cells cur 53 (0, 0))) (hFb : ¬ F b)
    (hcs : ∀ j (h : j < l.length), cur[j * 2]? = some (.int .i64 (l[j].1 : Int)) ∧ cur[j * 2 + 1]? = some (.string l[j].2)) (hS : ∀ x ∈ l, x.1 ≤ 127 ∧ x.2.size = 1024) (hf : Fw (4 * l.length) d) (hn : l.length ≤ 1000000) :
    Calls Try.prog 50 #[.pointer (some ⟨gj, 0, none⟩), .slice (some ⟨b, 0, none⟩) l.length c, .func (.func 53) #[.pointer (some ⟨gj, 0, none⟩)] #[]] w fun e w' => JTo w F g d (stepsB P l) e w' := by
  have H0 : Hid (DTo w F g d w F) := DTo.self h
  have HJ := Lib.hid hj; have HF := Lib.hid hF; have FW := Lib.hid hf; have HB := Lib.hid hb; have HFB := Lib.hid hFb; have HCS := Lib.hid hcs; have HS := Lib.hid hS
  clear h hj hF hf hb hFb hcs hS
  go_enter Try.func50, Try.ntmps50
  go_wp2_with fail
  go_loopw [12] (fun i wr => ∃ (k : Nat) (F' : Nat → Prop), k ≤ l.length ∧ i = .int .i64 k ∧ Hid ((run d (stepsB P (l.take k))).2 = 0) ∧ Hid (DTo w F g (run d (stepsB P (l.take k))).1 wr F')) (fun i _ => l.length - (intOf i).toNat)
  case atStart => exact ⟨0, F, Nat.zero_le _, rfl, rfl, H0⟩
  case round =>
    obtain ⟨k, F', hk, rfl, he, ht⟩ := hrel
    by_cases hlt : k < l.length
    · have hB := blk_touch ht.out.touch HB.out HFB.out
      obtain ⟨x0, x1⟩ := HCS.out k hlt
      have z0 := blk_cell hB (k * 2)
      have z1 := blk_cell hB (k * 2 + 1)
      rw [x0] at z0
      rw [x1] at z1
      obtain ⟨q1, q2⟩ := HS.out l[k] (List.getElem_mem hlt)
      have LK := Lib.hid (stepsB_take P hlt)
      have FW2 : Hid (Fw (4 * (l.length - k)) (run d (stepsB P (l.take k))).1) := fw_run _ (FW.out.mono (by rw [stepsB_len, List.length_take]; omega))
      have RS := fun b => Lib.hid (run_go he.out b)
      generalize hx : l[k] = x at z0 z1 q1 q2 LK
      obtain ⟨n, s⟩ := x
      simp only at z0 z1 q1 q2 LK
      have Q1 := Lib.hid q1
      obtain ⟨D, hD⟩ : ∃ D, D = (run d (stepsB P (l.take k))).1 := ⟨_, rfl⟩
      rw [← hD] at FW2 ht RS
      have T1 : Hid (DTo w F g D (wr.alloc (.cells #[.int .i64 (n : Int), .string s] 53)).drew F') := ht.out.post ((Below.refl _ wr).alloc (Nat.le_refl _) _).drew
      have J1 : Hid (Jb (wr.alloc (.cells #[.int .i64 (n : Int), .string s] 53)).drew gj g P) := HJ.out.touch T1.out.touch HF.out
      have NF : Hid (¬ F' gj) := fun hh => by
        rcases ht.out.new gj hh with hh | hh
        · exact HF.out hh
        · exact absurd (lt_of_block HJ.out) (by omega)
      have N2 : Hid (¬ F' wr.heap.size) := fun hh => by
        have := ht.out.has.lt _ hh
        omega
      have g2 := blk_new wr (.cells #[.int .i64 (n : Int), .string s] 53)
      have G2 := Lib.hid g2
      have y0 : (wr.alloc (.cells #[.int .i64 (n : Int), .string s] 53)).drew.cell? ⟨wr.heap.size, 0, none⟩ = some (.int .i64 (n : Int)) := blk_cell g2 0
      have y1 : (wr.alloc (.cells #[.int .i64 (n : Int), .string s] 53)).drew.cell? ⟨wr.heap.size, 1, none⟩ = some (.string s) := blk_cell g2 1
      have PL := Lib.hid (own_any (wr.alloc (.cells #[.int .i64 (n : Int), .string s] 53)).drew gj g P J1.out hP n (by omega))
      rw [show 1 + 4 * ((P : Int) + (n : Int)) = ((1 + 4 * (P + n) : Nat) : Int) by omega] at PL
      obtain ⟨q, hq⟩ : ∃ q : Nat, q = 1 + 4 * (P + n) := ⟨_, rfl⟩
      have hq4 : q ≤ 4096 := by omega
      rw [← hq] at PL LK
      have LY := Lib.hid (lay_any (wr.alloc (.cells #[.int .i64 (n : Int), .string s] 53)).drew F' gj g P D T1.out.has J1.out NF.out (FW2.out.mono (by omega)) q hq4 s q2)
      clear hB x0 x1 q1 q2 hx g2 hq
      unfold JTo at LY
      obtain ⟨r, hr⟩ : ∃ r, r = run D (laid (q : Int) s) := ⟨_, rfl⟩
      rw [← hr] at LY
      have HR := Lib.hid hr
      clear hr hD
      by_cases hw : r.2 = 0
      · have HW := Lib.hid hw
        rw [hw] at LY
        clear hw
        go_wp2_with fail
        refine wp_region_flag (fun w' => w'.cell? ⟨wr.heap.size, 0, none⟩ = some (.int .i64 (n : Int)) ∧ w'.cell? ⟨wr.heap.size, 1, none⟩ = some (.string s)) [(0, 1), (1, 1), (2, 1), (5, 1), (3, 2), (6, 2), (4, 0), (7, 0), (8, 1)] (by kernel_rfl) (by kernel_rfl) ⟨y0, y1⟩ ?_
        simp only [ordered, List.map_cons, List.map_nil, List.getD_cons_zero, List.getD_cons_succ]
        repeat (refine wpF_dry (fun K hK => ?_); go_simp; refine hK _ ?_; clear hK K)
        refine wpF_read (.int .i64 (n : Int)) rfl (fun w' hS => by obtain ⟨s1, s2⟩ := hS; go_simp) (fun K hK => ?_)
        go_simp
        refine hK _ ?_
        clear hK K
        refine wpF_read (.string s) rfl (fun w' hS => by obtain ⟨s1, s2⟩ := hS; go_simp) (fun K hK => ?_)
        go_simp
        refine hK _ ?_
        clear hK K
        refine wpF_do ?_
        go_wp2_with fail
        refine PL.out.mono ?_
        rintro e w3 ⟨rfl, rfl⟩
        clear PL
        go_wp2_with fail
        refine ⟨⟨y0, y1⟩, ?_⟩
        refine wpF_do ?_
        go_wp2_with fail
        refine LY.out.mono ?_
        rintro e w4 ⟨rfl, F4, ht4⟩
        have T4 : Hid (DTo w F g r.1 w4 F4) := T1.out.then ht4
        have g4 := blk_touch ht4.touch (show (wr.alloc (.cells #[.int .i64 (n : Int), .string s] 53)).drew.heap[wr.heap.size]? = _ from G2.out) N2.out
        have v0 : w4.cell? ⟨wr.heap.size, 0, none⟩ = some (.int .i64 (n : Int)) := blk_cell g4 0
        have v1 : w4.cell? ⟨wr.heap.size, 1, none⟩ = some (.string s) := blk_cell g4 1
        clear ht4 LY g4 y0 y1 z0 z1
        go_wp2_with fail
        refine ⟨⟨v0, v1⟩, ?_⟩
        repeat (refine wpF_dry (fun K hK => ?_); go_simp; refine hK _ ?_; clear hK K)
        refine wpF_nil ?_
        have R4 : Hid ((run d (stepsB P (l.take (k + 1)))).2 = 0) := by unfold Hid; rw [LK.out, (RS _).out, ← HR.out, HW.out]
        have T5 : Hid (DTo w F g (run d (stepsB P (l.take (k + 1)))).1 w4 F4) := by unfold Hid; rw [LK.out, (RS _).out, ← HR.out]; exact T4.out
        go_wp2
        go_roundw
        case rel => first | exact ⟨k + 1, F4, hlt, by go_num, R4, T5⟩ | ((repeat apply Exists.intro); refine ⟨?_, rfl⟩; exact ⟨k + 1, F4, hlt, by go_num, R4, T5⟩)
        case measure => simp [intOf]; omega
      · have R4 : Hid (run d (stepsB P l) = r) := by
          obtain ⟨m, hm⟩ := stepsB_more P l (k + 1)
          unfold Hid
          rw [hm, run_stop (by rw [LK.out, (RS _).out, ← HR.out]; exact hw), LK.out, (RS _).out, ← HR.out]
        clear HR
        obtain ⟨r1, r2⟩ := r
        simp only at hw LY
        have d0 : (r2 != 0) = true := by simpa using hw
        clear hw RS
        go_wp2_with fail
        refine wp_region_flag (fun w' => w'.cell? ⟨wr.heap.size, 0, none⟩ = some (.int .i64 (n : Int)) ∧ w'.cell? ⟨wr.heap.size, 1, none⟩ = some (.string s)) [(0, 1), (1, 1), (2, 1), (5, 1), (3, 2), (6, 2), (4, 0), (7, 0), (8, 1)] (by kernel_rfl) (by kernel_rfl) ⟨y0, y1⟩ ?_
        simp only [ordered, List.map_cons, List.map_nil, List.getD_cons_zero, List.getD_cons_succ]
        repeat (refine wpF_dry (fun K hK => ?_); go_simp; refine hK _ ?_; clear hK K)
        refine wpF_read (.int .i64 (n : Int)) rfl (fun w' hS => by obtain ⟨s1, s2⟩ := hS; go_simp) (fun K hK => ?_)
        go_simp
        refine hK _ ?_
        clear hK K
        refine wpF_read (.string s) rfl (fun w' hS => by obtain ⟨s1, s2⟩ := hS; go_simp) (fun K hK => ?_)
        go_simp
        refine hK _ ?_
        clear hK K
        refine wpF_do ?_
        go_wp2_with fail
        refine PL.out.mono ?_
        rintro e w3 ⟨rfl, rfl⟩
        clear PL
        go_wp2_with fail
        refine ⟨⟨y0, y1⟩, ?_⟩
        refine wpF_do ?_
        go_wp2_with fail
        refine LY.out.mono ?_
        rintro e w4 ⟨rfl, F4, ht4⟩
        have T4 : Hid (DTo w F g r1 w4 F4) := T1.out.then ht4
        have g4 := blk_touch ht4.touch (show (wr.alloc (.cells #[.int .i64 (n : Int), .string s] 53)).drew.heap[wr.heap.size]? = _ from G2.out) N2.out
        have v0 : w4.cell? ⟨wr.heap.size, 0, none⟩ = some (.int .i64 (n : Int)) := blk_cell g4 0
        have v1 : w4.cell? ⟨wr.heap.size, 1, none⟩ = some (.string s) := blk_cell g4 1
        clear ht4 LY g4 y0 y1 z0 z1
        go_wp2_with fail
        refine ⟨⟨v0, v1⟩, ?_⟩
        repeat (refine wpF_dry (fun K hK => ?_); go_simp; refine hK _ ?_; clear hK K)
        refine wpF_nil ?_
        go_wp2
        go_ret
        refine ⟨by rw [R4.out]; rfl, F4, ?_⟩
        rw [R4.out]
        exact T4.out
    · obtain rfl : k = l.length := by omega
      rw [List.take_length] at he ht
      go_wp2
      go_ret
      exact ⟨by rw [he.out]; rfl, F', ht.out⟩
end Go.Proofs.Ytoolkamajlgcbaa
