/- PathB: the walks of path.Good, Place, Parts, Covers, Meet, Moved, Above; Go's Split, HasPrefix and LastIndex by the shelf. -/
import Derived.Test.YtmagidkgajmhoaaDoorPathA
import Derived.Lib.SplitLaws
import Derived.Lib.IndexLaws
import Derived.Laws.Rows
set_option linter.unusedVariables false
set_option linter.unusedSimpArgs false
namespace Go.Proofs.YtmagidkgajmhoaaDoor
open Go.RowKit

theorem splitK_cut : ∀ (n : Nat) (l : Bs), l.length ≤ n → Lib.splitK [47] 0 (Lib.count l [47]) l = cut l
  | 0, l, h => by
    obtain rfl := List.eq_nil_of_length_eq_zero (Nat.le_zero.1 h)
    rw [Lib.count_miss (by simp [Lib.index])]
    rfl
  | n + 1, l, h => by
    by_cases hm : Lib.index l [47] = -1
    · have h47 : (47 : UInt8) ∉ l := by
        intro hx
        obtain ⟨k, hk, e⟩ := List.mem_iff_getElem.1 hx
        rw [Lib.index_one] at hm
        exact Lib.indexByte_none hm k (by rw [List.getElem?_eq_getElem hk, e])
      rw [Lib.count_miss hm, cut_plain l h47]
      rfl
    · have hge := Lib.index_ge l [47]
      obtain ⟨i, hi⟩ : ∃ i : Nat, Lib.index l [47] = i := ⟨(Lib.index l [47]).toNat, by omega⟩
      have hs := Lib.indexByte_some (l := l) (c := 47) (o := i) (by rw [← Lib.index_one]; exact hi)
      obtain ⟨h1, h2⟩ := hs
      have hil : i < l.length := (List.getElem?_eq_some_iff.1 h1).1
      have e : l = l.take i ++ 47 :: l.drop (i + 1) := by
        have := (List.getElem?_eq_some_iff.1 h1).2
        rw [← this, List.getElem_cons_drop, List.take_append_drop]
      have hno : (47 : UInt8) ∉ l.take i := by
        intro hx
        obtain ⟨k, hk, e⟩ := List.mem_iff_getElem.1 hx
        rw [List.length_take] at hk
        refine h2 k (by omega) ?_
        rw [List.getElem_take] at e
        rw [List.getElem?_eq_getElem (by omega), e]
      rw [Lib.count_hit (by simp) hi, Nat.add_comm 1]
      unfold Lib.splitK
      rw [if_neg (fun x => hm (beq_iff_eq.1 x)), hi]
      simp only [Int.toNat_natCast, Nat.add_zero, List.length_singleton]
      rw [splitK_cut n _ (by rw [List.length_drop]; omega)]
      conv => rhs; rw [e]
      rw [cut_append, cut_plain _ hno]
      rfl
def bytes (ps : List ByteArray) : List Bs := ps.map (·.data.toList)
/-- The pieces of a text, laid in a block of the call's own. -/
def Row (w : World) (g : Nat) (ps : List ByteArray) : Prop := ∀ j (h : j < ps.length), w.cell? ⟨g, j, none⟩ = some (.string ps[j])
theorem infoStr : (Tryd.prog.info? 9).map (fun i => (i.zero, i.size, i.bytes)) = some (some (.string ByteArray.empty), 1, 16) := by kernel_rfl
theorem countB_one (s : ByteArray) : Lib.countB s ⟨#[47]⟩ = Lib.count s.data.toList [47] := rfl
set_option maxRecDepth 100000 in
theorem split_any (s : ByteArray) (w : World) (hs : s.size < 4294967281) :
    Calls Tryd.prog 31 #[.string s, .string ⟨#[47]⟩] w fun e w' =>
      ∃ g ps, e = .returned (.slice (some ⟨g, 0, none⟩) ps.length ps.length) ∧ bytes ps = cut s.data.toList ∧ Row w' g ps ∧ w.heap.size ≤ g ∧ Below w.heap.size w w' := by
  have h1 : 1 ≤ (⟨#[47]⟩ : ByteArray).size := by decide
  have hle := Lib.countB_le ⟨#[47]⟩ h1 s.size s (Nat.le_refl _)
  have hlen := Lib.splitB_all ⟨#[47]⟩ h1 0 _ s rfl
  have c := Any.strings_genSplit_core Tryd.lays221 infoStr s ⟨#[47]⟩ 0 (-1) (Lib.countB s ⟨#[47]⟩ + 1) w hs h1 (Nat.zero_le _)
    (fun x c hx => (Any.strings_Index_one Tryd.lays143 x 47 _).mono fun e w' ⟨a, b⟩ => ⟨by rw [a]; show _ = Ending.returned (Value.int .i64 (Lib.index x.data.toList [47])); rw [Lib.index_one], b⟩)
    ((Any.strings_Count_one Tryd.lays138 s 47 w).mono fun e w' ⟨a, b⟩ => ⟨by rw [a, countB_one, Lib.count_one]; rfl, b⟩) (by decide) (by decide) (by rw [if_pos (by decide)]; omega)
  rw [Nat.add_sub_cancel, hlen] at c
  have e2 : Lib.cellsOf (Lib.splitB ⟨#[47]⟩ 0 (Lib.countB s ⟨#[47]⟩) s) (Lib.countB s ⟨#[47]⟩ + 1) = ((Lib.splitB ⟨#[47]⟩ 0 (Lib.countB s ⟨#[47]⟩) s).map Value.string).toArray := by rw [← hlen]; exact Lib.cellsOf_full _
  rw [e2] at c
  have hb : bytes (Lib.splitB ⟨#[47]⟩ 0 (Lib.countB s ⟨#[47]⟩) s) = cut s.data.toList := by
    unfold bytes
    rw [Lib.splitB_data, countB_one]
    exact splitK_cut _ _ (Nat.le_refl _)
  generalize Lib.splitB ⟨#[47]⟩ 0 (Lib.countB s ⟨#[47]⟩) s = ps at c hb hlen
  have C := Lib.hid c
  clear c
  go_enter Tryd.func31, Tryd.ntmps31
  go_wp2_with fail
  refine C.out.mono ?_
  rintro e w' ⟨rfl, rfl⟩
  go_wp2
  go_ret
  refine ⟨w.heap.size, ps, ?_, hb, fun j h => ?_, Nat.le_refl _, (Below.refl _ w).alloc (Nat.le_refl _) _⟩
  · rw [hlen]; rfl
  · rw [World.cell?_alloc_new]
    simp [h]
end Go.Proofs.YtmagidkgajmhoaaDoor
