/- GlJ: Go's Split by any one byte, its pieces in a block; a path's names in a block. -/
import Derived.Test.YtmagidkgajmhoaaDoorGlIm
set_option linter.unusedVariables false
set_option linter.unusedSimpArgs false
namespace Go.Proofs.YtmagidkgajmhoaaDoor
open Go.RowKit

/-- A text's pieces between bytes of one kind. -/
def sep (z : UInt8) : Bs → List Bs
  | [] => [[]]
  | c :: l => if c = z then [] :: sep z l else (c :: (sep z l).headD []) :: (sep z l).tail
theorem sep_c (z c : UInt8) (l : Bs) : sep z (c :: l) = if c = z then [] :: sep z l else (c :: (sep z l).headD []) :: (sep z l).tail := rfl
theorem sep_cut : ∀ l : Bs, sep 47 l = cut l
  | [] => rfl
  | c :: l => by rw [sep_c, cut_c, sep_cut l]
theorem sep_ne (z : UInt8) : ∀ l, sep z l ≠ []
  | [] => by simp [sep]
  | c :: l => by unfold sep; split <;> simp
theorem sep_cons (z : UInt8) (l : Bs) : ∃ p ps, sep z l = p :: ps := by
  cases h : sep z l with
  | nil => exact (sep_ne z l h).elim
  | cons p ps => exact ⟨p, ps, rfl⟩
theorem sep_append (z : UInt8) (a b : Bs) : sep z (a ++ z :: b) = sep z a ++ sep z b := by
  induction a with
  | nil => simp [sep]
  | cons c a ih =>
    obtain ⟨p, ps, e⟩ := sep_cons z a
    rw [List.cons_append, sep_c, sep_c]
    split
    · rw [ih]; rfl
    · rw [ih, e]; rfl
theorem sep_plain (z : UInt8) (a : Bs) (h : z ∉ a) : sep z a = [a] := by
  induction a with
  | nil => rfl
  | cons c a ih =>
    simp only [List.mem_cons, not_or] at h
    unfold sep
    rw [if_neg (fun x => h.1 x.symm), ih h.2]; rfl
theorem sep_len (z : UInt8) : ∀ l : Bs, (sep z l).length ≤ l.length + 1
  | [] => by simp [sep]
  | c :: l => by
    have := sep_len z l
    rw [sep_c]
    split
    · simp; exact this
    · obtain ⟨p, ps, e⟩ := sep_cons z l
      rw [e] at this ⊢
      simp at this ⊢
      omega
theorem sep_mem (z : UInt8) : ∀ l : Bs, ∀ p ∈ sep z l, p.length ≤ l.length
  | [], p, h => by simp [sep] at h; simp [h]
  | c :: l, p, h => by
    obtain ⟨q, qs, e⟩ := sep_cons z l
    have ih := sep_mem z l
    rw [sep_c] at h
    split at h
    · rcases List.mem_cons.1 h with rfl | h
      · simp
      · have := ih p h; simp; omega
    · rw [e] at h ih
      simp at h
      rcases h with rfl | h
      · have := ih q (by simp); simpa using this
      · have := ih p (by simp [h]); simp; omega
theorem splitK_sep (z : UInt8) : ∀ (n : Nat) (l : Bs), l.length ≤ n → Lib.splitK [z] 0 (Lib.count l [z]) l = sep z l
  | 0, l, h => by
    obtain rfl := List.eq_nil_of_length_eq_zero (Nat.le_zero.1 h)
    rw [Lib.count_miss (by simp [Lib.index])]
    rfl
  | n + 1, l, h => by
    by_cases hm : Lib.index l [z] = -1
    · have h47 : z ∉ l := by
        intro hx
        obtain ⟨k, hk, e⟩ := List.mem_iff_getElem.1 hx
        rw [Lib.index_one] at hm
        exact Lib.indexByte_none hm k (by rw [List.getElem?_eq_getElem hk, e])
      rw [Lib.count_miss hm, sep_plain z l h47]
      rfl
    · have hge := Lib.index_ge l [z]
      obtain ⟨i, hi⟩ : ∃ i : Nat, Lib.index l [z] = i := ⟨(Lib.index l [z]).toNat, by omega⟩
      have hs := Lib.indexByte_some (l := l) (c := z) (o := i) (by rw [← Lib.index_one]; exact hi)
      obtain ⟨h1, h2⟩ := hs
      have hil : i < l.length := (List.getElem?_eq_some_iff.1 h1).1
      have e : l = l.take i ++ z :: l.drop (i + 1) := by
        have := (List.getElem?_eq_some_iff.1 h1).2
        conv => rhs; rw [← this, List.getElem_cons_drop, List.take_append_drop]
      have hno : z ∉ l.take i := by
        intro hx
        obtain ⟨k, hk, e⟩ := List.mem_iff_getElem.1 hx
        rw [List.length_take] at hk
        refine h2 k (by omega) ?_
        rw [List.getElem_take] at e
        rw [List.getElem?_eq_getElem (by omega), e]
      rw [Lib.count_hit (by simp) hi, Nat.add_comm 1]
      unfold Lib.splitK
      rw [if_neg (fun x => hm (beq_iff_eq.1 x)), hi]
      simp only [Int.toNat_natCast, Nat.add_zero, List.length_singleton]
      rw [splitK_sep z n _ (by rw [List.length_drop]; omega)]
      conv => rhs; rw [e]
      rw [sep_append, sep_plain z _ hno]
      rfl
theorem countB_oneZ (s : ByteArray) (z : UInt8) : Lib.countB s ⟨#[z]⟩ = Lib.count s.data.toList [z] := rfl
set_option maxRecDepth 100000 in
theorem split_blk (s : ByteArray) (z : UInt8) (w : World) (hs : s.size < 4294967281) :
    Calls Tryd.prog 31 #[.string s, .string ⟨#[z]⟩] w fun e w' =>
      ∃ g ps, e = .returned (.slice (some ⟨g, 0, none⟩) ps.length ps.length) ∧ bytes ps = sep z s.data.toList ∧ Blk w' 9 (some ⟨g, 0, none⟩) (strsV ps) ∧ w.heap.size ≤ g ∧ Below w.heap.size w w' := by
  have h1 : 1 ≤ (⟨#[z]⟩ : ByteArray).size := Nat.le_refl 1
  have hle := Lib.countB_le ⟨#[z]⟩ h1 s.size s (Nat.le_refl _)
  have hlen := Lib.splitB_all ⟨#[z]⟩ h1 0 _ s rfl
  have c := Any.strings_genSplit_core Tryd.lays221 infoStr s ⟨#[z]⟩ 0 (-1) (Lib.countB s ⟨#[z]⟩ + 1) w hs h1 (Nat.zero_le _)
    (fun x c hx => (Any.strings_Index_one Tryd.lays143 x z _).mono fun e w' ⟨a, b⟩ => ⟨by rw [a]; show _ = Ending.returned (Value.int .i64 (Lib.index x.data.toList [z])); rw [Lib.index_one], b⟩)
    ((Any.strings_Count_one Tryd.lays138 s z w).mono fun e w' ⟨a, b⟩ => ⟨by rw [a, countB_oneZ, Lib.count_one]; rfl, b⟩) (by decide) (by decide) (by rw [if_pos (by decide)]; omega)
  rw [Nat.add_sub_cancel, hlen] at c
  have e2 : Lib.cellsOf (Lib.splitB ⟨#[z]⟩ 0 (Lib.countB s ⟨#[z]⟩) s) (Lib.countB s ⟨#[z]⟩ + 1) = ((Lib.splitB ⟨#[z]⟩ 0 (Lib.countB s ⟨#[z]⟩) s).map Value.string).toArray := by rw [← hlen]; exact Lib.cellsOf_full _
  rw [e2] at c
  have hb : bytes (Lib.splitB ⟨#[z]⟩ 0 (Lib.countB s ⟨#[z]⟩) s) = sep z s.data.toList := by
    unfold bytes
    rw [Lib.splitB_data, countB_oneZ]
    exact splitK_sep z _ _ (Nat.le_refl _)
  generalize Lib.splitB ⟨#[z]⟩ 0 (Lib.countB s ⟨#[z]⟩) s = ps at c hb hlen
  have C := Lib.hid c
  clear c
  go_enter Tryd.func31, Tryd.ntmps31
  go_wp2_with fail
  refine C.out.mono ?_
  rintro e w' ⟨rfl, rfl⟩
  go_wp2
  go_ret
  refine ⟨w.heap.size, ps, ?_, hb, fun _ => ⟨w.heap.size, 0, _, rfl, blk_new w _, fun j u hj => by rw [Nat.zero_add, List.getElem?_toArray]; exact hj⟩, Nat.le_refl _, (Below.refl _ w).alloc (Nat.le_refl _) _⟩
  rw [hlen]; rfl
set_option maxRecDepth 100000 in
theorem parts_blk (s : ByteArray) (w : World) :
    Calls Tryd.prog 25 #[.string s] w fun e w' => ∃ A c ps, e = .returned (.slice A ps.length c) ∧ bytes ps = partsB (dat s) ∧ ps.length ≤ c ∧ ps.length ≤ 33 ∧ (∀ p ∈ ps, p.size ≤ 32) ∧ Blk w' 9 A (strsV ps) ∧ Below w.heap.size w w' := by
  go_enter Tryd.func25, Tryd.ntmps25
  go_wp2_with fail
  refine (good_any s w).mono ?_
  rintro e w1 ⟨rfl, b1⟩
  have B1 := Lib.hid b1
  clear b1
  cases hg : goodB (dat s) with
  | true =>
    have HG := Lib.hid hg
    have hsz : Hid (s.size ≤ 32) := by have := (good_iff.1 hg).1; rw [← Lib.size_eq] at this; exact this
    clear hg
    go_wp2_with fail
    refine (split_blk s 47 w1 (by have := hsz.out; omega)).mono ?_
    rintro e w2 ⟨g, ps, rfl, hb, hr, hgg, b2⟩
    have HR := Lib.hid hr; have HB := Lib.hid hb; have B2 := Lib.hid b2; have HGG := Lib.hid hgg
    clear hr hb b2 hgg
    go_wp2
    go_ret
    have h8 : bytes ps = cut (dat s) := by rw [HB.out, sep_cut]
    refine ⟨_, _, ps, rfl, by rw [h8]; unfold partsB; rw [if_pos HG.out], Nat.le_refl _, ?_, fun p hp => ?_, HR.out, B1.out.trans (B2.out.mono B1.out.size)⟩
    · have := bytes_len h8
      have := hsz.out
      omega
    · have h9 : dat p ∈ sep 47 (dat s) := by rw [← HB.out]; exact List.mem_map.2 ⟨p, hp, rfl⟩
      have := sep_mem 47 _ _ h9
      have h10 := hsz.out
      rw [Lib.size_eq] at h10 ⊢
      exact Nat.le_trans this h10
  | false =>
    have HG := Lib.hid hg
    clear hg
    go_wp2
    go_ret
    exact ⟨none, 0, [], rfl, by unfold partsB; rw [HG.out]; rfl, Nat.le_refl _, by decide, (fun p hp => by cases hp), (fun h => absurd rfl h), B1.out⟩
end Go.Proofs.YtmagidkgajmhoaaDoor
