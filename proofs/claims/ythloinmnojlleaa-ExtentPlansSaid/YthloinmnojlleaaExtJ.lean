/- ExtJ: what Give does; its walk where it refuses (written by gen_ext.py). -/
import Derived.Test.YthloinmnojlleaaExtI
set_option linter.unusedVariables false
set_option linter.unusedSimpArgs false
namespace Go.Proofs.Ythloinmnojlleaa
open Go.RowKit

/-- Does a hole meet the one behind it? -/
def joinsL (L : List (Nat × Nat)) (i f : Nat) : Bool := decide (0 < i) && decide ((L.getD (i - 1) (0, 0)).1 + (L.getD (i - 1) (0, 0)).2 = f)
def joinsR (L : List (Nat × Nat)) (i e : Nat) : Bool := decide (i < L.length) && decide ((L.getD i (0, 0)).1 = e)
/-- The holes behind giving a span back, at its place. -/
def giveL (L : List (Nat × Nat)) (i f s : Nat) : List (Nat × Nat) :=
  L.take (if joinsL L i f then i - 1 else i) ++
    ((if joinsL L i f then (L.getD (i - 1) (0, 0)).1 else f, (if joinsL L i f then (L.getD (i - 1) (0, 0)).2 + s else s) + (if joinsR L i (f + s) then (L.getD i (0, 0)).2 else 0)) ::
      L.drop (if joinsR L i (f + s) then i + 1 else i))
/-- What Give answers. -/
def Ar.giveE (a : Ar) (f s : Int) : Int :=
  if a.within f s = false then 9 else if behindI a.holes f < a.holes.length ∧ ((a.holes.getD (behindI a.holes f) (0, 0)).1 : Int) < f + s then 8 else 0
theorem within_iff {a : Ar} {f s : Int} (h : a.within f s = true) : 1 ≤ s ∧ 0 ≤ f ∧ f < a.size ∧ s ≤ a.size - f := by
  unfold Ar.within at h
  simp only [Bool.and_eq_true, decide_eq_true_eq] at h
  exact ⟨h.1.1.1, h.1.1.2, h.1.2, h.2⟩
set_option maxRecDepth 100000 in
theorem give_nil (w : World) (f s : Int) : Calls Try.prog 13 #[.pointer none, .agg #[.int .i64 f, .int .i64 s]] w fun e w' => e = .returned (.int .i64 1) ∧ Below w.heap.size w w' := by
  have B1 : ∀ x, Hid (Below w.heap.size w (w.alloc x)) := fun x => (Below.refl _ w).alloc (Nat.le_refl _) x
  go_enter Try.func13, Try.ntmps13
  go_wp2
  go_ret
  exact ⟨rfl, (B1 _).out⟩

set_option maxHeartbeats 6400000 in
set_option maxRecDepth 100000 in
theorem give_no (w : World) (F : Nat → Prop) (g : Nat) (a : Ar) (v : Value) (h : IsAr w F g a v) (f s : Int) (hE : a.giveE f s ≠ 0) :
    Calls Try.prog 13 #[.pointer (some ⟨g, 0, none⟩), .agg #[.int .i64 f, .int .i64 s]] w fun e w' => e = .returned (.int .i64 (a.giveE f s)) ∧ Below w.heap.size w w' := by
  obtain ⟨i0, hif, hz0, hz1, hz2⟩ := info_parts infoSp
  have H := Lib.hid h
  have few := h.ok.few
  have hmost := h.ok.most
  have hgs := blk_lt h.blk
  have B0 : Hid (Below w.heap.size w (w.alloc (.cells #[.int .i64 f, .int .i64 s] 30))) := (Below.refl _ w).alloc (Nat.le_refl _) _
  have r0 := blk_new w (.cells #[.int .i64 f, .int .i64 s] 30)
  have R0 := Lib.hid r0
  have k0 := blk_cell r0 0; have k1 := blk_cell r0 1
  simp only [List.getElem?_toArray, List.getElem?_cons_zero, List.getElem?_cons_succ] at k0 k1
  obtain ⟨A, cc, rfl⟩ := own_slice h.own
  have HE := Lib.hid hE
  clear h r0 hE
  go_enter Try.func13, Try.ntmps13
  go_wp2_with fail
  refine (within_any _ F g a _ (H.out.below B0.out) f s).mono ?_
  rintro e w1 ⟨rfl, b1⟩
  have B1 : Hid (Below w.heap.size w w1) := B0.out.trans (b1.mono B0.out.size)
  have k0 := cell_below b1 k0; have k1 := cell_below b1 k1
  have R1 : Hid (w1.heap[w.heap.size]? = some (.cells #[.int .i64 f, .int .i64 s] 30 (0, 0))) := (b1.block _ (by simp)).trans R0.out
  clear b1 R0 B0
  cases hw : a.within f s with
  | false =>
    have E : Hid (a.giveE f s = 9) := by unfold Hid Ar.giveE; rw [if_pos hw]
    clear hw
    go_wp2
    go_ret
    rw [E.out]
    exact ⟨rfl, B1.out⟩
  | true =>
    have HW := Lib.hid hw
    have hb := within_iff hw
    clear hw
    go_wp2_with fail
    refine (behind_any _ F g a _ (H.out.below B1.out) f).mono ?_
    rintro e w2 ⟨rfl, b2⟩
    have B2 : Hid (Below w.heap.size w w2) := B1.out.trans (b2.mono B1.out.size)
    have k0 := cell_below b2 k0; have k1 := cell_below b2 k1
    have R2 : Hid (w2.heap[w.heap.size]? = some (.cells #[.int .i64 f, .int .i64 s] 30 (0, 0))) := (b2.block _ (blk_lt R1.out)).trans R1.out
    clear b2 R1 B1
    obtain ⟨_, c1, _⟩ := (H.out.below B2.out).cells
    have ile := behind_le a.holes f
    have GE : Hid (a.giveE f s = if behindI a.holes f < a.holes.length ∧ ((a.holes.getD (behindI a.holes f) (0, 0)).1 : Int) < f + s then 8 else 0) := by unfold Hid Ar.giveE; rw [if_neg (by rw [HW.out]; simp)]
    generalize hi : behindI a.holes f = i at ile GE ⊢
    have HI := Lib.hid hi
    clear hi
    obtain ⟨fs, hfs⟩ : ∃ fs, fs = f + s := ⟨_, rfl⟩
    have ew : IntKind.i64.wrap (f + s) = fs := by rw [IntKind.wrap_i64]; omega
    have HFS := Lib.hid hfs
    clear hfs
    by_cases hil : i < a.holes.length
    · have d1 : decide ((i : Int) < a.holes.length) = true := by simp; omega
      have d1' : decide (i < a.holes.length) = true := by simp; omega
      obtain ⟨g1, c1', e1, _, _, hc⟩ := row_at H.out.own (by omega)
      injection e1 with e1 e2 e3
      subst e1 e3
      obtain ⟨z1, z2⟩ := hc i hil
      have z1 := cell_below B2.out z1
      have z2 := cell_below B2.out z2
      have eg : a.holes.getD i (0, 0) = a.holes[i] := by simp [hil]
      rw [eg] at GE
      have EG := Lib.hid eg
      clear hc e2 eg
      generalize a.holes[i] = x at z1 z2 GE EG
      by_cases hlt : (x.1 : Int) < fs
      · have d2 : decide ((x.1 : Int) < fs) = true := by simpa using hlt
        have E : Hid (a.giveE f s = 8) := by unfold Hid; rw [GE.out, if_pos ⟨hil, by have := HFS.out; omega⟩]
        clear GE hlt
        go_wp2_with fail
        refine wp_region_flag (fun w' => w'.cell? ⟨g, 1, none⟩ = some (.slice (some ⟨g1, 0, none⟩) a.holes.length cc) ∧ w'.cell? ⟨g1, i * 2, none⟩ = some (.int .i64 x.1) ∧ w'.cell? ⟨w.heap.size, 0, none⟩ = some (.int .i64 f)) [(0, 1), (1, 1), (2, 1), (3, 1), (4, 0), (5, 1), (6, 1), (7, 1), (8, 1), (9, 1), (10, 1), (12, 1), (16, 1), (18, 1), (11, 2), (13, 1), (14, 1), (15, 2), (17, 2), (19, 0), (20, 1), (21, 1), (22, 1)] (by kernel_rfl) (by kernel_rfl) ⟨c1, z1, k0⟩ ?_
        simp only [ordered, List.map_cons, List.map_nil, List.getD_cons_zero, List.getD_cons_succ]
        repeat (refine wpF_dry (fun K hK => ?_); go_simp; refine hK _ ?_; clear hK K)
        refine wpF_do ?_
        go_wp2_with fail
        refine ⟨⟨c1, z1, k0⟩, ?_⟩
        repeat (refine wpF_dry (fun K hK => ?_); go_simp; refine hK _ ?_; clear hK K)
        refine wpF_read (.slice (some ⟨g1, 0, none⟩) a.holes.length cc) rfl (fun w' hS => by obtain ⟨s1, s2, s3⟩ := hS; go_simp) (fun K hK => ?_)
        go_simp
        refine hK _ ?_
        clear hK K
        repeat (refine wpF_dry (fun K hK => ?_); go_simp; refine hK _ ?_; clear hK K)
        refine wpF_read (.int .i64 x.1) rfl (fun w' hS => by obtain ⟨s1, s2, s3⟩ := hS; go_simp) (fun K hK => ?_)
        go_simp
        refine hK _ ?_
        clear hK K
        refine wpF_read (.int .i64 f) rfl (fun w' hS => by obtain ⟨s1, s2, s3⟩ := hS; go_simp) (fun K hK => ?_)
        go_simp
        refine hK _ ?_
        clear hK K
        refine wpF_do ?_
        go_wp2_with fail
        refine ⟨⟨c1, z1, k0⟩, ?_⟩
        repeat (refine wpF_dry (fun K hK => ?_); go_simp; refine hK _ ?_; clear hK K)
        refine wpF_nil ?_
        go_wp2
        go_ret
        rw [E.out]
        exact ⟨rfl, B2.out.drew⟩
      · have d2 : decide ((x.1 : Int) < fs) = false := by simpa using hlt
        have E : Hid (a.giveE f s = 0) := by unfold Hid; rw [GE.out, if_neg (fun hh => hlt (by have := HFS.out; have := hh.2; omega))]
        exact absurd E.out HE.out
    · have d1 : decide ((i : Int) < a.holes.length) = false := by simp; omega
      have d1' : decide (i < a.holes.length) = false := by simp; omega
      have E : Hid (a.giveE f s = 0) := by unfold Hid; rw [GE.out, if_neg (fun hh => hil hh.1)]
      exact absurd E.out HE.out
theorem set2_blk {w : World} {g : Nat} {t : TypeId} {a b a' b' : Value} (h : w.heap[g]? = some (.cells #[a, b] t (0, 0))) : ((w.setCell ⟨g, 0, none⟩ a').setCell ⟨g, 1, none⟩ b').heap[g]? = some (.cells #[a', b'] t (0, 0)) := by
  rw [blk_set (blk_set h 0 a') 1 b']; rfl
theorem set1_blk {w : World} {g : Nat} {t : TypeId} {a b b' : Value} (h : w.heap[g]? = some (.cells #[a, b] t (0, 0))) : (w.setCell ⟨g, 1, none⟩ b').heap[g]? = some (.cells #[a, b'] t (0, 0)) := by
  rw [blk_set h 1 b']; rfl
theorem rdsp_nil (w : World) {L : List (Nat × Nat)} (h : L.length = 0) {ad : Addr} {c : Nat} : RdSp w (.slice (some ad) 0 c) L := by
  obtain rfl := List.eq_nil_of_length_eq_zero h
  exact ⟨some ad, c, rfl, Nat.zero_le _, (fun e => by cases e), fun ad e j u hu => by simp [sp] at hu⟩
theorem rdsp_nil' (w : World) {L : List (Nat × Nat)} (h : L.length = 0) : RdSp w (.slice none 0 0) L := by
  obtain rfl := List.eq_nil_of_length_eq_zero h
  exact ⟨none, 0, rfl, Nat.le_refl _, fun _ => rfl, fun ad e => by cases e⟩
theorem concat_give (w : World) (s0 s2 : Value) (t : TypeId) (L0 L2 : List (Nat × Nat)) (bf bs : Nat) (r0 : RdSp w s0 L0) (r2 : RdSp w s2 L2) (l0 : L0.length ≤ 1048578) (l2 : L2.length ≤ 1048578) :
    Calls Try.prog 32 #[.slice (some ⟨w.heap.size + 1, 0, none⟩) 3 3] ((w.alloc (.cells #[.int .i64 (bf : Nat), .int .i64 (bs : Nat)] 30)).alloc (.cells #[s0, .slice (some ⟨w.heap.size, 0, none⟩) 1 1, s2] t)).drew
      fun e w' => ∃ v, e = .returned v ∧ w'.ownsRow w.heap.size 30 2 v (L0 ++ ([(bf, bs)] ++ L2)).length (sp (L0 ++ ([(bf, bs)] ++ L2))) ∧ Below w.heap.size w w' := by
  have b1 : Below w.heap.size w (w.alloc (.cells #[.int .i64 (bf : Nat), .int .i64 (bs : Nat)] 30)) := (Below.refl _ w).alloc (Nat.le_refl _) _
  have b2 := (b1.alloc (by simp) (.cells #[s0, .slice (some ⟨w.heap.size, 0, none⟩) 1 1, s2] t)).drew
  have b3 := b2
  have hn := blk_new (w.alloc (.cells #[.int .i64 (bf : Nat), .int .i64 (bs : Nat)] 30)) (.cells #[s0, .slice (some ⟨w.heap.size, 0, none⟩) 1 1, s2] t)
  rw [World.size_alloc] at hn
  have r1 : RdSp ((w.alloc (.cells #[.int .i64 (bf : Nat), .int .i64 (bs : Nat)] 30)).alloc (.cells #[s0, .slice (some ⟨w.heap.size, 0, none⟩) 1 1, s2] t)).drew (.slice (some ⟨w.heap.size, 0, none⟩) 1 1) [(bf, bs)] := by
    refine RdSp.below (w := w.alloc (.cells #[.int .i64 (bf : Nat), .int .i64 (bs : Nat)] 30)) ⟨_, 1, rfl, Nat.le_refl _, (fun e => by cases e), fun ad e j u hu => ?_⟩ (((Below.refl _ _).alloc (Nat.le_refl _) _).drew)
    injection e with e
    subst e
    exact rdsp_lit w bf bs _ j u hu
  refine (concat3 ((w.alloc (.cells #[.int .i64 (bf : Nat), .int .i64 (bs : Nat)] 30)).alloc (.cells #[s0, .slice (some ⟨w.heap.size, 0, none⟩) 1 1, s2] t)).drew (w.heap.size + 1) 3 _ _ _ L0 [(bf, bs)] L2 (blk_cell hn 0) (blk_cell hn 1) (blk_cell hn 2) (r0.below b3) r1 (r2.below b3) l0 (by simp) l2).mono ?_
  rintro e w' ⟨v, rfl, ho, hb⟩
  exact ⟨v, rfl, own_base ho b2.size, b2.trans (hb.mono b2.size)⟩
theorem wp_at {P : Program} {c : Code} {Q : Exit → Act → World → Prop} {a : Act} {W : World} (R : World → Prop) (h : R W) (k : ∀ w', R w' → c.wp P Q a w') : c.wp P Q a W := k W h
end Go.Proofs.Ythloinmnojlleaa
