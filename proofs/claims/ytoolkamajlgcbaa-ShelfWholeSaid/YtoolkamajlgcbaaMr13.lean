/- ShI: the second Put, behind the first entry. -/
import Derived.Test.YtoolkamajlgcbaaMr12
import Derived.Lib.Strings
set_option linter.unusedVariables false
set_option linter.unusedSimpArgs false
namespace Go.Proofs.Ytoolkamajlgcbaa
open Go.RowKit

theorem one_rd {w : World} {base gs gj bl c n c2 : Nat} {A : Option Addr} {l : PL} (h : OneS w base gs gj bl c A n c2 l) : ShRd w gs [(1, l)] ∧ w.cell? ⟨gs, 1, none⟩ = some (.slice (some ⟨bl, 0, none⟩) 1 c) ∧ w.cell? ⟨bl, 1, none⟩ = some (.slice A l.length c2) ∧ w.frozen? ⟨bl, 1, none⟩ = false ∧ bl < w.heap.size ∧ gs < w.heap.size ∧ bl ≠ gs := by
  have hb := blk_cell h.box 1
  simp at hb
  rcases h.row.2 with ⟨he, _⟩ | ⟨g', cap', cur, he, hbs, hblk, q1, q2, q3, q4⟩
  · cases he
  · cases he
    have hl := h.hlen
    have x0 : cur[0]? = some (.int .i64 1) := by
      have : (cur.toList.take (1 * 2))[0]? = some (.int .i64 1) := by rw [q4]; rfl
      rwa [List.getElem?_take_of_lt (by decide), Array.getElem?_toList] at this
    have x1 : cur[1]? = some (.slice A n c2) := by
      have : (cur.toList.take (1 * 2))[1]? = some (.slice A n c2) := by rw [q4]; rfl
      rwa [List.getElem?_take_of_lt (by decide), Array.getElem?_toList] at this
    have y0 : w.cell? ⟨bl, 0, none⟩ = some (.int .i64 1) := by rw [blk_cell hblk]; exact x0
    have y1 : w.cell? ⟨bl, 1, none⟩ = some (.slice A l.length c2) := by rw [blk_cell hblk, ← hl]; exact x1
    refine ⟨⟨_, c, hb, q1, fun _ => ⟨bl, 0, rfl, fun i hi => ?_⟩⟩, hb, y1, blk_free hblk 1, lt_of_block hblk, lt_of_block h.box, fun e => ?_⟩
    · obtain rfl : i = 0 := by simpa using hi
      exact ⟨y0, A, c2, y1, by have := h.cap; rw [hl] at this; exact this, h.rd⟩
    · subst e
      have := h.box
      unfold ShB at this
      rw [hblk] at this
      simp at this
theorem one_find {a x b : ByteArray} (hgt : gtB a b = false) (hge : geB a b = false) : fI [(1, [(a, x)])] b = 0 ∧ fK [(1, [(a, x)])] b = 1 := by
  have e1 : fI [(1, [(a, x)])] b = 0 := by
    unfold fI
    rw [show [(1, [(a, x)])].length = 1 from rfl, srch, if_pos (by decide), if_neg (by show ¬ gtB a b = true; rw [hgt]; decide), srch, if_neg (by decide)]
  refine ⟨e1, ?_⟩
  unfold fK
  rw [if_neg (by simp), e1]
  show srch (fun k => geB (keyA [(a, x)] k) b) 0 1 = 1
  rw [srch, if_pos (by decide), if_neg (by show ¬ geB a b = true; rw [hge]; decide), srch, if_neg (by decide)]
theorem two_at {w : World} {g : Nat} {a b : Value} {t : TypeId} (h : w.heap[g]? = some (.cells #[a, b] t (0, 0))) : ∀ j u, [a, b][j]? = some u → w.cell? ((⟨g, 0, none⟩ : Addr).add j) = some u := by
  intro j u hj
  match j, hj with
  | 0, hj => rw [show (⟨g, 0, none⟩ : Addr).add 0 = ⟨g, 0, none⟩ from rfl, blk_cell h 0]; simpa using hj
  | 1, hj => rw [show (⟨g, 0, none⟩ : Addr).add 1 = ⟨g, 1, none⟩ from rfl, blk_cell h 1]; simpa using hj
  | j + 2, hj => simp at hj
set_option maxHeartbeats 6400000 in
set_option maxRecDepth 100000 in
theorem put_second (w : World) (base gs gj bl c bp : Nat) (a x b y : ByteArray) (h : OneS w base gs gj bl c (some ⟨bp, 0, none⟩) 1 1 [(a, x)]) (hbs : base ≤ w.heap.size) (ha : a.size ≤ 64) (hx : x.size ≤ 400) (h1 : 1 ≤ b.size) (h2 : b.size ≤ 64) (h3 : y.size ≤ 400) (hgt : gtB a b = false) (hge : geB a b = false) :
    Calls Try.prog 17 #[.pointer (some ⟨gs, 0, none⟩), .string b, .string y] w fun e w' => e = .returned (.int .i64 0) ∧ Touch (fun k => k = bl) w w' ∧ ∃ bq c3, OneS w' base gs gj bl c (some ⟨bq, 0, none⟩) 2 c3 [(a, x), (b, y)] := by
  obtain ⟨i0, hi, hz0, hz1, hz2⟩ := info_parts infoPr
  have MY := Lib.hid (may_ok w b y h1 h2 h3)
  have H := Lib.hid h
  obtain ⟨W1, hW1⟩ : ∃ W1, W1 = w.alloc (.cells #[.string b, .string y] 47) := ⟨_, rfl⟩
  have Q1 : Below w.heap.size w W1 := by rw [hW1]; exact (Below.refl _ w).alloc (Nat.le_refl _) _
  have hp1 : W1.heap[w.heap.size]? = some (.cells #[.string b, .string y] 47 (0, 0)) := by rw [hW1]; exact blk_new w _
  obtain ⟨r0, r1, r2, r3, r4, r5, r6⟩ := one_rd h
  have FN := Lib.hid (find_any W1 gs [(1, [(a, x)])] (r0.below Q1) (fun i hi => by
    obtain rfl : i = 0 := by simpa using hi
    show 0 < 1
    omega) (by show 1 ≤ 1000000; omega) (fun i => by
    match i with
    | 0 => show 1 ≤ 1000000; omega
    | i + 1 => simp [lfA]) b)
  have rr := one_find (x := x) hgt hge
  rw [rr.1, rr.2, hW1] at FN
  have Q1h := Lib.hid Q1; have HP1 := Lib.hid hp1
  have R4 := Lib.hid r4; have R5 := Lib.hid r5; have R6 := Lib.hid r6; have R0 := Lib.hid r0
  have HRD := Lib.hid h.rd
  clear rr Q1 hp1 h r4 r5 r6
  have HR1 := Lib.hid r1; have HR2 := Lib.hid r2; have HR3 := Lib.hid r3
  go_enter Try.func17, Try.ntmps17
  go_wp2_with fail
  refine MY.out.mono ?_
  rintro e w' ⟨rfl, rfl⟩
  clear r1 r2 r3 r0
  go_wp2_with fail
  refine FN.out.mono ?_
  rw [← hW1]
  rintro e w2 ⟨rfl, q2⟩
  have Q2 : Hid (Below w.heap.size w w2) := Q1h.out.trans (q2.mono Q1h.out.size)
  have hp2 : w2.heap[w.heap.size]? = some (.cells #[.string b, .string y] 47 (0, 0)) := (q2.block _ (lt_of_block HP1.out)).trans HP1.out
  have r1 := cell_below Q2.out HR1.out; have r2 := cell_below Q2.out HR2.out
  have p0 := blk_cell hp2 0; have p1 := blk_cell hp2 1
  simp at p0 p1
  simp only [List.length_singleton] at r2
  have HP2 := Lib.hid hp2
  have AF := Lib.hid (at_far w2 gs [(1, [(a, x)])] (R0.out.below Q2.out) 0 1 (by show 0 < 1; omega) (by show 1 ≤ 1; omega) b)
  have RD2 : Hid (RdPr w2 (some ⟨bp, 0, none⟩) [(a, x)]) := HRD.out.below Q2.out
  clear q2 FN hp2 hW1
  go_wp2_with fail
  refine AF.out.mono ?_
  rintro e w' ⟨rfl, rfl⟩
  go_wp2_with fail
  have SRC : Hid (∀ W, Below w2.heap.size w2 W → ∀ j u, [Value.string a, .string x][j]? = some u → W.cell? ((⟨bp, 0, none⟩ : Addr).add j) = some u) := fun W hW j u hj => by
    obtain ⟨b', o', e1, hc⟩ := RD2.out (by show 0 < 1; omega)
    cases e1
    obtain ⟨k0, k1⟩ := hc 0 (by show 0 < 1; omega)
    replace k0 := cell_below hW k0; replace k1 := cell_below hW k1
    match j, hj with
    | 0, hj => cases hj; exact k0
    | 1, hj => cases hj; exact k1
  refine wp_region_plan (fun w' => w'.cell? ⟨w.heap.size, 0, none⟩ = some (.string b) ∧ w'.cell? ⟨w.heap.size, 1, none⟩ = some (.string y)) (.op 1 1 (.op 2 1 (.op 3 1 (.op 8 1 (.op 5 2 (.two 0 (.two 4 (.op 6 0 (.op 7 0 (.op 9 0 (.op 10 1 .done)))) 6 (.op 4 0 (.op 7 0 (.op 9 0 (.op 10 1 .done))))) 6 (.op 0 0 (.op 4 0 (.op 7 0 (.op 9 0 (.op 10 1 .done))))))))))) (by kernel_rfl) (by kernel_rfl) ⟨p0, p1⟩ ?_
  repeat (refine wpP_dry (fun K hK => ?_); simp only [List.getD_cons_zero, List.getD_cons_succ]; go_simp; refine hK _ ?_; clear hK K)
  refine wpP_read (.agg #[.string b, .string y]) rfl (fun w' hS => by obtain ⟨s1, s2⟩ := hS; simp only [List.getD_cons_zero, List.getD_cons_succ]; go_simp) (fun K hK => ?_)
  simp only [List.getD_cons_zero, List.getD_cons_succ]
  go_simp
  refine hK _ ?_
  clear hK K
  refine wpP_two ?_ ?_
  focus
    simp only [List.getD_cons_zero, List.getD_cons_succ]
    go_wp2_with fail
    obtain ⟨A1, hA1⟩ : ∃ A1, A1 = (w2.alloc (.cells #[] 47)).drew := ⟨_, rfl⟩
    have kA1 : Below w2.heap.size w2 A1 := by rw [hA1]; exact ((Below.refl _ w2).alloc (Nat.le_refl _) _).drew
    have E1 : A1.ownsRow w2.heap.size 47 2 (.slice (some ⟨w2.heap.size, 0, none⟩) 0 0) 0 [] := by rw [hA1]; exact own_touch (World.ownsRow_made w2 #[] 0 (Nat.le_refl _) (by decide) rfl) (Touch.of_below (Below.refl _ _).drew : Touch (fun _ => False) _ (w2.alloc (.cells #[] 47)).drew) (fun _ _ x => x)
    have KA1 := Lib.hid kA1; have HE1 := Lib.hid E1; have HA1 := Lib.hid hA1
    rw [← hA1]
    clear kA1 E1 hA1
    refine ⟨⟨cell_below KA1.out p0, cell_below KA1.out p1⟩, ?_⟩
    refine wpP_two ?_ ?_
    focus
      simp only [List.getD_cons_zero, List.getD_cons_succ]
      refine (wpList_append_own_at _ rfl (.tmp 73) (.tmp 76) 43 rfl w2.heap.size 47 i0 _ 2 32 Try.underlying43 hi hz0 hz1 hz2 rfl (by decide) (.slice (some ⟨w2.heap.size, 0, none⟩) 0 0) 0 [] rfl HE1.out ⟨bp, 0, none⟩ 1 1 [.string a, .string x] rfl rfl (SRC.out A1 KA1.out) (by simp [Value.oneCell']) (by decide) (by decide) KA1.out.size ?_)
      intro v1 w4 ho1 hg4 _ hat4
      have KG : Below w2.heap.size A1 w4 := (Below.refl w2.heap.size A1).grown hg4 KA1.out.size (fun j hj => by cases hj; exact Nat.le_refl _)
      have K4 := Lib.hid (KA1.out.trans KG)
      have HO4 := Lib.hid ho1
      clear KG hg4 ho1
      go_wp2_with fail
      refine ⟨⟨cell_below K4.out p0, cell_below K4.out p1⟩, ?_⟩
      refine wpP_do ?_
      simp only [List.getD_cons_zero, List.getD_cons_succ]
      go_wp2_with fail
      obtain ⟨pb2, hpb⟩ : ∃ p, p = w4.heap.size := ⟨_, rfl⟩
      obtain ⟨Wz, hWz⟩ : ∃ Wz, Wz = w4.alloc (.cells #[.string b, .string y] 47) := ⟨_, rfl⟩
      have KZ : Hid (Below w2.heap.size w2 Wz) := by rw [hWz]; exact K4.out.alloc K4.out.size _
      have PB : Hid (Wz.heap[pb2]? = some (.cells #[.string b, .string y] 47 (0, 0))) := by rw [hWz, hpb]; exact blk_new w4 _
      have HO1 : Hid (Wz.ownsRow w2.heap.size 47 2 v1 1 [.string a, .string x]) := by rw [hWz]; exact HO4.out.alloc _
      rw [← hWz, ← hpb]
      clear hWz hpb K4 HO4
      refine ⟨⟨cell_below KZ.out p0, cell_below KZ.out p1⟩, ?_⟩
    rotate_left
    focus
      simp only [List.getD_cons_zero, List.getD_cons_succ]
      go_wp2_with fail
      obtain ⟨pb2, hpb⟩ : ∃ p, p = A1.heap.size := ⟨_, rfl⟩
      obtain ⟨A2, hA2⟩ : ∃ A2, A2 = A1.alloc (.cells #[.string b, .string y] 47) := ⟨_, rfl⟩
      have KA2 : Hid (Below w2.heap.size w2 A2) := by rw [hA2]; exact KA1.out.alloc KA1.out.size _
      have PB2 : Hid (A2.heap[pb2]? = some (.cells #[.string b, .string y] 47 (0, 0))) := by rw [hA2, hpb]; exact blk_new A1 _
      have HE2 : Hid (A2.ownsRow w2.heap.size 47 2 (.slice (some ⟨w2.heap.size, 0, none⟩) 0 0) 0 []) := by rw [hA2]; exact HE1.out.alloc _
      have NPB : Hid (pb2 ≠ w2.heap.size) := by have := (HE1.out.lt w2.heap.size rfl).2; unfold Hid; omega
      rw [← hA2, ← hpb]
      clear hA2 hpb
      refine ⟨⟨cell_below KA2.out p0, cell_below KA2.out p1⟩, ?_⟩
      refine wpP_do ?_
      simp only [List.getD_cons_zero, List.getD_cons_succ]
      refine (wpList_append_own_at _ rfl (.tmp 73) (.tmp 76) 43 rfl w2.heap.size 47 i0 _ 2 32 Try.underlying43 hi hz0 hz1 hz2 rfl (by decide) (.slice (some ⟨w2.heap.size, 0, none⟩) 0 0) 0 [] rfl HE2.out ⟨bp, 0, none⟩ 1 1 [.string a, .string x] rfl rfl (SRC.out A2 KA2.out) (by simp [Value.oneCell']) (by decide) (by decide) KA2.out.size ?_)
      intro v1 Wz ho1 hg4 _ hat4
      have KG : Below w2.heap.size A2 Wz := (Below.refl w2.heap.size A2).grown hg4 KA2.out.size (fun j hj => by cases hj; exact Nat.le_refl _)
      have KZ := Lib.hid (KA2.out.trans KG)
      have HO1 := Lib.hid ho1
      have PB : Hid (Wz.heap[pb2]? = some (.cells #[.string b, .string y] 47 (0, 0))) := (hg4.block _ (lt_of_block PB2.out) (fun e => by cases e; exact NPB.out rfl)).trans PB2.out
      clear KG hg4 ho1 PB2 NPB
      go_wp2_with fail
      refine ⟨⟨cell_below KZ.out p0, cell_below KZ.out p1⟩, ?_⟩
  rotate_left
  rotate_left
  focus
    simp only [List.getD_cons_zero, List.getD_cons_succ]
    go_wp2_with fail
    obtain ⟨pb2, hpb⟩ : ∃ p, p = w2.heap.size := ⟨_, rfl⟩
    obtain ⟨B1, hB1⟩ : ∃ B1, B1 = (w2.alloc (.cells #[.string b, .string y] 47)).drew := ⟨_, rfl⟩
    have KB1 : Hid (Below w2.heap.size w2 B1) := by rw [hB1]; exact ((Below.refl _ w2).alloc (Nat.le_refl _) _).drew
    have PB1 : Hid (B1.heap[pb2]? = some (.cells #[.string b, .string y] 47 (0, 0))) := by rw [hB1, hpb]; exact blk_new w2 _
    have HPB := Lib.hid hpb
    rw [← hB1, ← hpb]
    clear hB1 hpb
    refine ⟨⟨cell_below KB1.out p0, cell_below KB1.out p1⟩, ?_⟩
    refine wpP_do ?_
    simp only [List.getD_cons_zero, List.getD_cons_succ]
    go_wp2_with fail
    obtain ⟨B2, hB2⟩ : ∃ B2, B2 = B1.alloc (.cells #[] 47) := ⟨_, rfl⟩
    have KB2 : Hid (Below w2.heap.size w2 B2) := by rw [hB2]; exact KB1.out.alloc KB1.out.size _
    have PB2 : Hid (B2.heap[pb2]? = some (.cells #[.string b, .string y] 47 (0, 0))) := by rw [hB2]; exact blk_alloc PB1.out _
    have HE2 : Hid (B2.ownsRow w2.heap.size 47 2 (.slice (some ⟨B1.heap.size, 0, none⟩) 0 0) 0 []) := by rw [hB2]; exact World.ownsRow_made B1 #[] 0 KB1.out.size (by decide) rfl
    have NPB : Hid (pb2 ≠ B1.heap.size) := by have := lt_of_block PB1.out; unfold Hid; omega
    rw [← hB2]
    clear hB2
    refine ⟨⟨cell_below KB2.out p0, cell_below KB2.out p1⟩, ?_⟩
    refine wpP_do ?_
    simp only [List.getD_cons_zero, List.getD_cons_succ]
    refine (wpList_append_own_at _ rfl (.tmp 73) (.tmp 76) 43 rfl w2.heap.size 47 i0 _ 2 32 Try.underlying43 hi hz0 hz1 hz2 rfl (by decide) (.slice (some ⟨B1.heap.size, 0, none⟩) 0 0) 0 [] rfl HE2.out ⟨bp, 0, none⟩ 1 1 [.string a, .string x] rfl rfl (SRC.out B2 KB2.out) (by simp [Value.oneCell']) (by decide) (by decide) KB2.out.size ?_)
    intro v1 Wz ho1 hg4 _ hat4
    have KG : Below w2.heap.size B2 Wz := (Below.refl w2.heap.size B2).grown hg4 KB2.out.size (fun j hj => by cases hj; exact KB1.out.size)
    have KZ := Lib.hid (KB2.out.trans KG)
    have HO1 := Lib.hid ho1
    have PB : Hid (Wz.heap[pb2]? = some (.cells #[.string b, .string y] 47 (0, 0))) := (hg4.block _ (lt_of_block PB2.out) (fun e => by cases e; exact NPB.out rfl)).trans PB2.out
    clear KG hg4 ho1 PB2 NPB
    go_wp2_with fail
    refine ⟨⟨cell_below KZ.out p0, cell_below KZ.out p1⟩, ?_⟩
  all_goals
    refine wpP_do ?_
    simp only [List.getD_cons_zero, List.getD_cons_succ]
    refine (wpList_append_own_at _ rfl (.tmp 77) (.tmp 79) 43 rfl w2.heap.size 47 i0 _ 2 32 Try.underlying43 hi hz0 hz1 hz2 rfl (by decide) v1 1 [.string a, .string x] rfl HO1.out ⟨pb2, 0, none⟩ 1 1 [.string b, .string y] rfl rfl (two_at PB.out) (by simp [Value.oneCell']) (by decide) (by decide) KZ.out.size ?_)
    intro v2 w5 ho2 hg5 _ hat5
    have K5 : Hid (Below w2.heap.size w2 w5) := KZ.out.trans ((Below.refl w2.heap.size Wz).grown hg5 KZ.out.size (fun j hj => (HO1.out.lt j hj).1))
    have HO2 : Hid (w5.ownsRow w2.heap.size 47 2 v2 2 [.string a, .string x, .string b, .string y]) := ho2
    clear ho2 hg5 hat5
    go_wp2_with fail
    refine ⟨⟨cell_below K5.out p0, cell_below K5.out p1⟩, ?_⟩
    refine wpP_do ?_
    simp only [List.getD_cons_zero, List.getD_cons_succ]
    refine (wpList_append_own_at _ rfl (.tmp 80) (.tmp 81) 43 rfl w2.heap.size 47 i0 _ 2 32 Try.underlying43 hi hz0 hz1 hz2 rfl (by decide) v2 2 [.string a, .string x, .string b, .string y] rfl HO2.out ⟨bp, 0, none⟩ 0 0 [] rfl rfl (fun j u hj => by simp at hj) (fun u hu => by cases hu) (by decide) (by decide) K5.out.size ?_)
    intro v3 w6 ho3 hg6 _ hat6
    have K6 : Hid (Below w2.heap.size w2 w6) := K5.out.trans ((Below.refl w2.heap.size w5).grown hg6 K5.out.size (fun j hj => (HO2.out.lt j hj).1))
    have HO3 : Hid (w6.ownsRow w2.heap.size 47 2 v3 2 [.string a, .string x, .string b, .string y]) := ho3
    obtain ⟨bq, c3, rfl⟩ := own_shape HO3.out
    clear ho3 hg6 hat6
    go_wp2_with fail
    refine ⟨⟨cell_below K6.out p0, cell_below K6.out p1⟩, ?_⟩
    repeat (refine wpP_dry (fun K hK => ?_); simp only [List.getD_cons_zero, List.getD_cons_succ]; go_simp; refine hK _ ?_; clear hK K)
    refine wpP_done ?_
    have RQ : RdPr w6 (some ⟨bq, 0, none⟩) [(a, x), (b, y)] := fun _ => ⟨bq, 0, rfl, fun k hk => by
      have cc := HO3.out.cells (g := bq) rfl
      match k, hk with
      | 0, _ => exact ⟨by simpa [Addr.add] using cc 0 _ rfl, by simpa [Addr.add] using cc 1 _ rfl⟩
      | 1, _ => exact ⟨by simpa [Addr.add] using cc 2 _ rfl, by simpa [Addr.add] using cc 3 _ rfl⟩⟩
    have HSM : Small [(a, x), (b, y)] := ⟨by show 2 ≤ 1000000; omega, fun p hp => by
      simp only [List.mem_cons, List.not_mem_nil, or_false] at hp
      rcases hp with rfl | rfl
      · exact ⟨by show a.size ≤ 1000000; omega, by show x.size ≤ 1000000; omega⟩
      · exact ⟨by show b.size ≤ 1000000; omega, by show y.size ≤ 1000000; omega⟩⟩
    have SZ := Lib.hid (sizes_any w6 (some ⟨bq, 0, none⟩) 2 c3 [(a, x), (b, y)] rfl RQ HSM)
    have hsz : szL [(a, x), (b, y)] ≤ 1020 := by
      show 0 + (3 + a.size + x.size) + (3 + b.size + y.size) ≤ 1020
      omega
    have RQh := Lib.hid RQ
    have BQ : Hid (w2.heap.size ≤ bq) := (HO3.out.lt bq rfl).1
    generalize szL [(a, x), (b, y)] = sz at SZ hsz
    have dsz : decide ((sz : Int) ≤ 1020) = true := by simp; omega
    have dsz' : decide (sz ≤ 1020) = true := by simpa using hsz
    clear RQ HSM hsz
    go_wp2_with fail
    refine SZ.out.mono ?_
    rintro e w7 ⟨rfl, q7⟩
    have K7 : Hid (Below w2.heap.size w2 w7) := K6.out.trans (q7.mono K6.out.size)
    have KW7 : Hid (Below w.heap.size w w7) := Q2.out.trans (K7.out.mono Q2.out.size)
    have RQ7 := Lib.hid (RQh.out.below q7)
    have hc3 : Hid (2 ≤ c3) := by
      rcases HO3.out.2 with ⟨he, _⟩ | ⟨_, _, _, he, _, _, q1, _⟩
      · cases he
      · cases he; exact q1
    replace r1 := cell_below KW7.out HR1.out
    replace r2 := cell_below KW7.out HR2.out
    have fz : w7.frozen? ⟨bl, 1, none⟩ = false := (World.frozen?_of_block (KW7.out.block bl R4.out)).trans HR3.out
    simp only [List.length_singleton] at r2
    have u1 : (w7.setCell ⟨bl, 1, none⟩ (.slice (some ⟨bq, 0, none⟩) 2 c3)).cell? ⟨gs, 1, none⟩ = some (.slice (some ⟨bl, 0, none⟩) 1 c) := (World.cell?_of_block (blk_set_ne (fun e => R6.out e) _)).trans r1
    have TD := Lib.hid (tidy_one _ gs (some ⟨bl, 0, none⟩) c u1)
    clear q7 SZ u1
    go_wp2_with fail
    refine TD.out.mono ?_
    rintro e w9 ⟨rfl, q9⟩
    have tt : Touch (fun k => k = bl) w7 (w7.setCell ⟨bl, 1, none⟩ (.slice (some ⟨bq, 0, none⟩) 2 c3)) := (Touch.refl (fun k => k = bl) w7).setCell (p := ⟨bl, 1, none⟩) (.inl rfl) _
    have OWN7 := own_touch H.out.row (Touch.of_below KW7.out : Touch (fun _ => False) w w7) (fun _ _ x => x)
    have OWN8 := (OWN7.stored 1 (.slice (some ⟨bq, 0, none⟩) 2 c3)).1
    have t9 : Touch (fun k => k = bl) w w9 := ((Touch.of_below KW7.out : Touch (fun k => k = bl) w w7).trans tt (fun _ _ h => h)).trans (Touch.of_below q9 : Touch (fun _ => False) _ w9) (fun _ _ x => x.elim)
    have F1 : Hid (OneS w9 base gs gj bl c (some ⟨bq, 0, none⟩) 2 c3 [(a, x), (b, y)]) := ⟨blk_touch t9 H.out.box (fun e => R6.out e.symm), own_touch OWN8 (Touch.of_below q9 : Touch (fun _ => False) _ w9) (fun _ _ x => x), rfl, hc3.out, by
      intro hp
      obtain ⟨b', o', e1, hc⟩ := RQ7.out hp
      cases e1
      have nb : bq ≠ bl := by have := BQ.out; have := R4.out; have := Q2.out.size; omega
      refine ⟨bq, 0, rfl, fun k hk => ?_⟩
      obtain ⟨k0, k1⟩ := hc k hk
      exact ⟨cell_below q9 ((World.cell?_of_block (blk_set_ne (fun e => nb e.symm) _)).trans k0), cell_below q9 ((World.cell?_of_block (blk_set_ne (fun e => nb e.symm) _)).trans k1)⟩⟩
    have T9 := Lib.hid t9
    clear q9 tt OWN7 OWN8 t9 TD
    go_wp2
    go_ret
    exact ⟨rfl, T9.out, bq, c3, F1.out⟩
end Go.Proofs.Ytoolkamajlgcbaa
/- ShJ: a shelf's Range. -/
set_option linter.unusedVariables false
set_option linter.unusedSimpArgs false
namespace Go.Proofs.Ytoolkamajlgcbaa
open Go.RowKit

def prv : PL → List Value
  | [] => []
  | x :: l => .string x.1 :: .string x.2 :: prv l
theorem prv_append : ∀ a b : PL, prv (a ++ b) = prv a ++ prv b
  | [], b => rfl
  | x :: a, b => by simp only [List.cons_append, prv, prv_append a b]
def rngK (to : ByteArray) (most : Int) : PL → PL → PL × Bool
  | [], out => (out, false)
  | p :: l, out => if gtB p.1 to = true ∨ most ≤ (out.length : Int) then (out, true) else rngK to most l (out ++ [p])
/-- The entries from a leaf's place on. -/
def tailS (sh : List (Nat × PL)) (i k : Nat) : PL := (lfA sh i).drop k ++ (sh.drop (i + 1)).flatMap (·.2)
theorem tail_end {sh : List (Nat × PL)} {i k : Nat} (h : sh.length ≤ i) : tailS sh i k = [] := by
  unfold tailS
  have e : lfA sh i = [] := by unfold lfA; rw [List.getD_eq_getElem?_getD, List.getElem?_eq_none h]; rfl
  rw [e, List.drop_nil, List.nil_append, List.drop_eq_nil_of_le (by omega)]
  rfl
theorem tail_leaf {sh : List (Nat × PL)} {i k : Nat} (hi : i < sh.length) (hk : (lfA sh i).length ≤ k) : tailS sh i k = tailS sh (i + 1) 0 := by
  unfold tailS
  rw [List.drop_eq_nil_of_le hk, List.nil_append, List.drop_zero]
  by_cases h : i + 1 < sh.length
  · rw [List.drop_eq_getElem_cons h, List.flatMap_cons, lfA_get h]
  · rw [List.drop_eq_nil_of_le (by omega), List.drop_eq_nil_of_le (by omega)]
    have e : lfA sh (i + 1) = [] := by unfold lfA; rw [List.getD_eq_getElem?_getD, List.getElem?_eq_none (by omega)]; rfl
    rw [e]
    rfl
theorem tail_step {sh : List (Nat × PL)} {i k : Nat} (hk : k < (lfA sh i).length) : tailS sh i k = (lfA sh i)[k] :: tailS sh i (k + 1) := by
  unfold tailS
  rw [List.drop_eq_getElem_cons hk, List.cons_append]
def rngR (sh : List (Nat × PL)) (frm to : ByteArray) (most : Int) : PL := (rngK to most (tailS sh (fI sh frm) (fK sh frm)) []).1
theorem fK_le {sh : List (Nat × PL)} {key : ByteArray} : fK sh key ≤ (lfA sh (fI sh key)).length := by
  unfold fK
  split
  · exact Nat.zero_le _
  · exact (srch_le _ _ 0 _ (Nat.le_refl _) (Nat.zero_le _)).2
set_option maxHeartbeats 6400000 in
set_option maxRecDepth 100000 in
theorem range_any (w : World) (gs : Nat) (sh : List (Nat × PL)) (hs : ShRd w gs sh) (hf : Full sh) (hn : sh.length ≤ 1000000) (hn2 : ∀ i, (lfA sh i).length ≤ 1000000) (hT : ∀ i k, (tailS sh i k).length ≤ 1000000000) (frm to : ByteArray) (most : Int) :
    Calls Try.prog 19 #[.pointer (some ⟨gs, 0, none⟩), .string frm, .string to, .int .i64 most] w fun e w' => ∃ v, e = .returned v ∧ w'.ownsRow w.heap.size 47 2 v (rngR sh frm to most).length (prv (rngR sh frm to most)) ∧ Below w.heap.size w w' := by
  obtain ⟨i0, hi, hz0, hz1, hz2⟩ := info_parts infoPr
  have FN := Lib.hid (find_any w gs sh hs hf hn hn2 frm)
  obtain ⟨fi, hfi⟩ : ∃ x, x = fI sh frm := ⟨_, rfl⟩
  obtain ⟨fk, hfk⟩ : ∃ x, x = fK sh frm := ⟨_, rfl⟩
  have hkle : fk ≤ (lfA sh fi).length := by rw [hfi, hfk]; exact fK_le
  have hile : fi ≤ sh.length := by
    rw [hfi]
    by_cases h : 0 < sh.length
    · exact Nat.le_of_lt (fI_lt h)
    · have : fI sh frm ≤ sh.length := by unfold fI; have := (srch_le (fun i => gtB (keyA (lfA sh i) 0) frm) sh.length 0 sh.length (by omega) (Nat.zero_le _)).2; omega
      exact this
  have RR : Hid ((rngK to most (tailS sh fi fk) []).1 = rngR sh frm to most) := by unfold Hid rngR; rw [hfi, hfk]
  rw [← hfi, ← hfk] at FN
  generalize rngR sh frm to most = R at RR ⊢
  have HS := Lib.hid hs
  clear hfi hfk hs
  go_enter Try.func19, Try.ntmps19
  go_wp2_with fail
  refine FN.out.mono ?_
  rintro e w1 ⟨rfl, q1⟩
  have Q1 := Lib.hid q1
  clear q1 FN
  go_wp2_with fail
  go_loopw [9, 10, 11] (fun v iv kv wr => ∃ (i k : Nat) (out : PL), i ≤ sh.length ∧ k ≤ 1000000 ∧ (i < sh.length → k ≤ (lfA sh i).length) ∧ iv = .int .i64 i ∧ kv = .int .i64 k ∧ Hid ((rngK to most (tailS sh i k) out).1 = R) ∧ Hid (out.length + (tailS sh i k).length ≤ 1000000000) ∧ Hid (wr.ownsRow w.heap.size 47 2 v out.length (prv out)) ∧ Hid (Below w.heap.size w wr)) (fun _ iv _ _ => sh.length - (intOf iv).toNat)
  case atStart => exact ⟨fi, fk, [], hile, Nat.le_trans hkle (hn2 fi), fun _ => hkle, rfl, rfl, RR, by unfold Hid; have := hT fi fk; simp; omega, World.ownsRow_nil _ _ _ _, Q1⟩
  case round =>
    obtain ⟨i, k, out, hi1, hk1, hk2, rfl, rfl, hr, hb1, ho, hb⟩ := hrel
    obtain ⟨A, c, g1, g2, g3⟩ := HS.out
    replace g1 := cell_below hb.out g1
    by_cases hlt : i < sh.length
    · obtain ⟨b, o, rfl, hc⟩ := g3 (by omega)
      obtain ⟨_, A', c', z1, zc, zr⟩ := hc i hlt
      rw [← lfA_get hlt] at z1 zc zr
      replace z1 := cell_below hb.out z1
      have hkl2 := hk2 hlt
      have TL := Lib.hid (@tail_leaf sh i (lfA sh i).length hlt (Nat.le_refl _))
      have TS := Lib.hid (fun k (hk : k < (lfA sh i).length) => tail_step hk)
      have hlm := hn2 i
      generalize lfA sh i = l at z1 zc zr hkl2 TL TS hlm
      have ZR := Lib.hid zr
      have zc' := zc
      clear hc zr g3 hk2
      by_cases hkl : k < l.length
      · obtain ⟨b', o', rfl, hcc⟩ := ZR.out (by omega)
        have CC := Lib.hid hcc
        have hz : ¬ c' - k = 0 := by omega
        have hzk : ¬ c' ≤ k := by omega
        have hkc : k ≤ c' := by omega
        clear hcc
        go_wp2_with fail
        go_loopw [9, 43] (fun v jv wr => ∃ (j : Nat) (out : PL), j ≤ l.length - k ∧ jv = .int .i64 j ∧ Hid ((rngK to most (tailS sh i (k + j)) out).1 = R) ∧ Hid (out.length + (tailS sh i (k + j)).length ≤ 1000000000) ∧ Hid (wr.ownsRow w.heap.size 47 2 v out.length (prv out)) ∧ Hid (Below w.heap.size w wr)) (fun _ jv _ => (l.length - k) - (intOf jv).toNat)
        case atStart => exact ⟨0, out, Nat.zero_le _, rfl, hr, hb1, ho, hb⟩
        case round =>
          obtain ⟨j, out, hj, rfl, hr, hb1, ho, hb⟩ := hrel
          by_cases hjl : j < l.length - k
          · obtain ⟨y0, y1⟩ := CC.out (k + j) (by omega)
            have TSj := Lib.hid (TS.out (k + j) (by omega))
            generalize l[k + j] = pp at y0 y1 TSj
            obtain ⟨p1, p2⟩ := pp
            simp only at y0 y1 TSj
            rw [Nat.add_mul, ← Nat.add_assoc] at y0 y1
            replace y0 := cell_below hb.out y0; replace y1 := cell_below hb.out y1
            have hj3 : (j : Int) < (l.length : Int) - (k : Int) := by omega
            have hj4 : (j : Int) < ((l.length - k : Nat) : Int) := by omega
            have hbz : Hid (w.heap.size ≤ wr.heap.size) := hb.out.size
            have hr0 := hr.out
            rw [TSj.out] at hr0
            unfold rngK at hr0
            obtain ⟨A9, c9, rfl⟩ := own_slice ho.out
            by_cases hst : gtB p1 to = true ∨ most ≤ (out.length : Int)
            · rw [if_pos hst] at hr0
              have R2 : Hid (out = R) := hr0
              have hex : (!Op.bytesLess p1.toList to.toList && !p1.toList == to.toList) = true ∨ ((!Op.bytesLess p1.toList to.toList && !p1.toList == to.toList) = false ∧ decide (most ≤ (out.length : Int)) = true) := by
                by_cases hg : gtB p1 to = true
                · exact .inl hg
                · exact .inr ⟨by simpa [gtB] using hg, by simpa using hst.resolve_left hg⟩
              clear hst hr0 hr
              rcases hex with x1 | ⟨x1, x2⟩
              all_goals
                go_wp2
                go_ret
                exact ⟨_, rfl, by rw [← R2.out]; exact ho.out.alloc _, hb.out.alloc hbz.out _⟩
            · rw [if_neg hst] at hr0
              have HR0 := Lib.hid hr0
              have x1 : (!Op.bytesLess p1.toList to.toList && !p1.toList == to.toList) = false := by
                have : ¬ gtB p1 to = true := fun h => hst (.inl h)
                simpa [gtB] using this
              have x2 : decide (most ≤ (out.length : Int)) = false := by simp; omega
              have hb3 := hb1.out
              rw [TSj.out, List.length_cons] at hb3
              obtain ⟨W3, hW3⟩ : ∃ W3, W3 = (wr.alloc (.cells #[.string p1, .string p2] 47)).alloc (.cells #[.string p1, .string p2] 47) := ⟨_, rfl⟩
              have e1 : Hid ((wr.alloc (.cells #[.string p1, .string p2] 47)).heap.size = wr.heap.size + 1) := by unfold Hid; simp
              clear hst hr0 hr
              have NW : ∀ j u, [Value.string p1, .string p2][j]? = some u → ((wr.alloc (.cells #[.string p1, .string p2] 47)).alloc (.cells #[.string p1, .string p2] 47)).cell? ((⟨wr.heap.size + 1, 0, none⟩ : Addr).add j) = some u := by
                rw [← e1.out]
                exact two_new _ _ _ _
              have OA : ((wr.alloc (.cells #[.string p1, .string p2] 47)).alloc (.cells #[.string p1, .string p2] 47)).ownsRow w.heap.size 47 2 (.slice A9 out.length c9) out.length (prv out) := World.ownsRow.alloc (World.ownsRow.alloc ho.out _) _
              have hz9 : w.heap.size ≤ ((wr.alloc (.cells #[.string p1, .string p2] 47)).alloc (.cells #[.string p1, .string p2] 47)).heap.size := by have := hbz.out; simp; omega
              have l9 : out.length + 1 ≤ maxLen := by unfold maxLen; omega
              have l10 : (out.length + 1) * 32 ≤ 140737488355328 := by omega
              have NWh := Lib.hid NW; have OAh := Lib.hid OA; have HZ9 := Lib.hid hz9
              clear NW OA hz9
              go_wp2_with (at_builtin; refine wpList_append_own_at _ rfl (.tmp 58) (.tmp 60) 43 rfl w.heap.size 47 i0 _ 2 32 Try.underlying43 hi hz0 hz1 hz2 rfl (by decide) _ out.length (prv out) rfl OAh.out ⟨wr.heap.size + 1, 0, none⟩ 1 1 [.string p1, .string p2] rfl rfl NWh.out (by simp [Value.oneCell']) l9 l10 HZ9.out ?_)
              intro v4 w4 ho4 hg4 _ _
              have B4 : Hid (Below w.heap.size w w4) := ((hb.out.alloc hbz.out _).alloc (by have := hbz.out; simp; omega) _).grown hg4 (by have := hbz.out; simp; omega) (fun j hj => (ho.out.lt j hj).1)
              have O4 : Hid (w4.ownsRow w.heap.size 47 2 v4 (out ++ [(p1, p2)]).length (prv (out ++ [(p1, p2)]))) := by unfold Hid; rw [prv_append, List.length_append]; exact ho4
              have hb5 : Hid ((out ++ [(p1, p2)]).length + (tailS sh i (k + (j + 1))).length ≤ 1000000000) := by unfold Hid; rw [List.length_append]; show out.length + 1 + (tailS sh i (k + j + 1)).length ≤ _; omega
              clear ho4 hg4 hb3
              go_wp2
              go_roundw
              case rel => first | exact ⟨j + 1, out ++ [(p1, p2)], hjl, by go_num, HR0, hb5, O4, B4⟩ | ((repeat apply Exists.intro); refine ⟨?_, rfl⟩; exact ⟨j + 1, out ++ [(p1, p2)], hjl, by go_num, HR0, hb5, O4, B4⟩)
              case measure => simp [intOf]; omega
          · have hjn : j = l.length - k := by omega
            have TE : Hid (tailS sh i (k + j) = tailS sh (i + 1) 0) := by
              unfold Hid
              rw [show k + j = l.length by omega]
              exact TL.out
            have hr2 : Hid ((rngK to most (tailS sh (i + 1) 0) out).1 = R) := by rw [← TE.out]; exact hr
            have hb2 : Hid (out.length + (tailS sh (i + 1) 0).length ≤ 1000000000) := by rw [← TE.out]; exact hb1
            clear hr hb1
            have hjl3 : ¬ (j : Int) < (l.length : Int) - (k : Int) := by omega
            have hjl4 : ¬ (j : Int) < ((l.length - k : Nat) : Int) := by omega
            go_wp2
            go_roundw
            case rel => first | exact ⟨i + 1, 0, out, hlt, by decide, fun _ => Nat.zero_le _, by go_num, rfl, hr2, hb2, ho, hb⟩ | ((repeat apply Exists.intro); refine ⟨?_, rfl⟩; exact ⟨i + 1, 0, out, hlt, by decide, fun _ => Nat.zero_le _, by go_num, rfl, hr2, hb2, ho, hb⟩)
            case measure => simp [intOf]; omega
      · have hkl3 : k = l.length := by omega
        subst hkl3
        have hr2 : Hid ((rngK to most (tailS sh (i + 1) 0) out).1 = R) := by rw [← TL.out]; exact hr
        have hb2 : Hid (out.length + (tailS sh (i + 1) 0).length ≤ 1000000000) := by rw [← TL.out]; exact hb1
        have hkc : l.length ≤ c' := zc'
        have hss : l.length - l.length = 0 := by omega
        have hss2 : (l.length : Int) - (l.length : Int) = 0 := by omega
        clear hr hb1
        by_cases hz : c' - l.length = 0
        all_goals
          go_wp2_with fail
          go_loopw [9, 43] (fun v jv wr' => jv = .int .i64 0 ∧ Hid (wr'.ownsRow w.heap.size 47 2 v out.length (prv out)) ∧ Hid (Below w.heap.size w wr')) (fun _ jv _ => 0)
          case atStart => exact ⟨rfl, ho, hb⟩
          case round =>
            obtain ⟨rfl, ho, hb⟩ := hrel
            go_wp2
            go_roundw
            case rel => first | exact ⟨i + 1, 0, out, hlt, by decide, fun _ => Nat.zero_le _, by go_num, rfl, hr2, hb2, ho, hb⟩ | ((repeat apply Exists.intro); refine ⟨?_, rfl⟩; exact ⟨i + 1, 0, out, hlt, by decide, fun _ => Nat.zero_le _, by go_num, rfl, hr2, hb2, ho, hb⟩)
            case measure => simp [intOf]; omega
    · have hil : i = sh.length := by omega
      subst hil
      have R2 : Hid (out = R) := by
        have := hr.out
        rw [tail_end (Nat.le_refl _)] at this
        exact this
      go_wp2
      go_ret
      exact ⟨_, rfl, by rw [← R2.out]; exact ho.out, hb.out⟩
end Go.Proofs.Ytoolkamajlgcbaa
/- ShM: a shelf's at and Get. -/
set_option linter.unusedVariables false
set_option linter.unusedSimpArgs false
namespace Go.Proofs.Ytoolkamajlgcbaa
open Go.RowKit

/-- The value of the entry at a place, if it has this key. -/
def hitK (sh : List (Nat × PL)) (i k : Nat) (key : ByteArray) : Option ByteArray := if h : k < (lfA sh i).length then (if (lfA sh i)[k].1 = key then some (lfA sh i)[k].2 else none) else none
theorem lfA_out {sh : List (Nat × PL)} {i : Nat} (h : sh.length ≤ i) : lfA sh i = [] := by unfold lfA; rw [List.getD_eq_getElem?_getD, List.getElem?_eq_none h]; rfl
theorem toListB_inj {a b : ByteArray} (h : a.toList = b.toList) : a = b := by
  rw [Lib.toList_data, Lib.toList_data] at h
  cases a; cases b
  simp only [ByteArray.mk.injEq]
  exact Array.toList_inj.1 h
theorem bneS {a b : ByteArray} : (a.toList != b.toList) = !decide (a = b) := by
  rw [Bool.eq_iff_iff]
  simp only [bne_iff_ne, Bool.not_eq_true', decide_eq_false_iff_not, ne_eq]
  exact ⟨fun h e => h (by rw [e]), fun h e => h (toListB_inj e)⟩
set_option maxHeartbeats 1600000 in
set_option maxRecDepth 100000 in
theorem at_any (w : World) (gs : Nat) (sh : List (Nat × PL)) (hs : ShRd w gs sh) (i k : Nat) (hi : i ≤ 1000000) (hk : k ≤ 1000000) (key : ByteArray) :
    Calls Try.prog 38 #[.pointer (some ⟨gs, 0, none⟩), .int .i64 (i : Int), .int .i64 (k : Int), .string key] w fun e w' => w = w' ∧ ((hitK sh i k key = none ∧ e = .returned (.pointer none)) ∨ ∃ b o val, hitK sh i k key = some val ∧ e = .returned (.pointer (some ⟨b, o, none⟩)) ∧ w.cell? ⟨b, o + 1, none⟩ = some (.string val)) := by
  obtain ⟨A, c, g1, g2, g3⟩ := hs
  by_cases hlt : i < sh.length
  · obtain ⟨b, o, rfl, hc⟩ := g3 (by omega)
    obtain ⟨_, A', c', z1, zc, zr⟩ := hc i hlt
    rw [← lfA_get hlt] at z1 zc zr
    have hil : (i : Int) < (sh.length : Int) := by omega
    have d1 : decide ((sh.length : Int) ≤ (i : Int)) = false := by simp; omega
    have d1' : decide (sh.length ≤ i) = false := by simp; omega
    unfold hitK
    generalize lfA sh i = l at z1 zc zr ⊢
    clear hc g3
    by_cases hkl : k < l.length
    · rw [dif_pos hkl]
      obtain ⟨b', o', rfl, hcc⟩ := zr (by omega)
      obtain ⟨y0, y1⟩ := hcc k hkl
      generalize l[k] = p at y0 y1 ⊢
      obtain ⟨p1, p2⟩ := p
      simp only at y0 y1 ⊢
      have d2 : decide ((l.length : Int) ≤ (k : Int)) = false := by simp; omega
      have d2' : decide (l.length ≤ k) = false := by simp; omega
      have hkl2 : (k : Int) < (l.length : Int) := by omega
      clear hcc zr
      by_cases hp : p1 = key
      · rw [if_pos hp]
        have dn : (p1.toList != key.toList) = false := by rw [bneS]; simpa using hp
        have de : (p1.toList == key.toList) = true := by rw [hp]; simp
        have Y1 := Lib.hid y1
        clear hp
        go_enter Try.func38, Try.ntmps38
        go_wp2
        go_ret
        exact ⟨rfl, .inr ⟨b', o' + k * 2, p2, rfl, rfl, Y1.out⟩⟩
      · rw [if_neg hp]
        have dn : (p1.toList != key.toList) = true := by rw [bneS]; simpa using hp
        have de : (p1.toList == key.toList) = false := by rw [beq_eq_false_iff_ne]; exact fun h => hp (toListB_inj h)
        clear hp
        go_enter Try.func38, Try.ntmps38
        go_wp2
        go_ret
        exact ⟨rfl, .inl ⟨by trivial, rfl⟩⟩
    · rw [dif_neg hkl]
      have d2 : decide ((l.length : Int) ≤ (k : Int)) = true := by simp; omega
      have d2' : decide (l.length ≤ k) = true := by simp; omega
      clear zr
      go_enter Try.func38, Try.ntmps38
      go_wp2
      go_ret
      exact ⟨rfl, .inl ⟨by trivial, rfl⟩⟩
  · have e : hitK sh i k key = none := by unfold hitK; rw [dif_neg (by rw [lfA_out (by omega)]; simp)]
    have d1 : decide ((sh.length : Int) ≤ (i : Int)) = true := by simp; omega
    have d1' : decide (sh.length ≤ i) = true := by simp; omega
    rw [e]
    clear g3 e
    go_enter Try.func38, Try.ntmps38
    go_wp2
    go_ret
    exact ⟨rfl, .inl ⟨by trivial, rfl⟩⟩
/-- What a shelf has of a key. -/
def getK (sh : List (Nat × PL)) (key : ByteArray) : Option ByteArray := hitK sh (fI sh key) (fK sh key) key
set_option maxHeartbeats 1600000 in
set_option maxRecDepth 100000 in
theorem get_any (w : World) (gs : Nat) (sh : List (Nat × PL)) (hs : ShRd w gs sh) (hf : Full sh) (hn : sh.length ≤ 1000000) (hn2 : ∀ i, (lfA sh i).length ≤ 1000000) (key : ByteArray) :
    Calls Try.prog 15 #[.pointer (some ⟨gs, 0, none⟩), .string key] w fun e w' => e = .returned (.tuple #[.string ((getK sh key).getD ByteArray.empty), .bool (getK sh key).isSome]) ∧ Below w.heap.size w w' := by
  have FN := Lib.hid (find_any w gs sh hs hf hn hn2 key)
  have hkle : fK sh key ≤ (lfA sh (fI sh key)).length := fK_le
  have hile : fI sh key ≤ 1000000 := by
    unfold fI
    have := (srch_le (fun i => gtB (keyA (lfA sh i) 0) key) sh.length 0 sh.length (by omega) (Nat.zero_le _)).2
    omega
  have hk2 : fK sh key ≤ 1000000 := Nat.le_trans hkle (hn2 _)
  have HS := Lib.hid hs
  have AT := fun W hW => Lib.hid (at_any W gs sh (HS.out.below hW) (fI sh key) (fK sh key) hile hk2 key)
  unfold getK
  generalize fI sh key = i at FN AT ⊢
  generalize fK sh key = k at FN AT ⊢
  generalize hitK sh i k key = hh at AT ⊢
  clear hkle hile hk2 hs
  go_enter Try.func15, Try.ntmps15
  go_wp2_with fail
  refine FN.out.mono ?_
  rintro e w1 ⟨rfl, q1⟩
  have Q1 := Lib.hid q1
  have AT1 := AT w1 q1
  clear q1 FN AT
  go_wp2_with fail
  refine AT1.out.mono ?_
  rintro e w' ⟨rfl, h⟩
  rcases h with ⟨rfl, rfl⟩ | ⟨b, o, val, rfl, rfl, hcell⟩
  · go_wp2
    go_ret2
    exact ⟨rfl, Q1.out⟩
  · clear AT1
    go_wp2
    go_ret2
    exact ⟨rfl, Q1.out⟩
end Go.Proofs.Ytoolkamajlgcbaa
