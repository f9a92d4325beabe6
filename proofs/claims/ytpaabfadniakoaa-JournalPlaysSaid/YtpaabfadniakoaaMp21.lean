/- JpD: the document's Run. -/
import Derived.Test.YtpaabfadniakoaaMp20
set_option linter.unusedVariables false
set_option linter.unusedSimpArgs false
namespace Go.Proofs.Ytpaabfadniakoaa
open Go.RowKit

theorem wcells_civ (l : List Stp) : wcells l = civ l := by
  induction l with
  | nil => rfl
  | cons x l ih => simp only [wcells, civ, ih]
theorem steps_rd {w : World} {B : Nat} {A : Option Addr} {c : Nat} {l : List Stp} (h : StepsAt w B (.slice A l.length c) l) : RdC w A l := by
  unfold StepsAt at h
  rw [wcells_civ] at h
  exact rdC_gen h
/-- Run's state: the disk's box, the result's box. -/
structure RunAt (w : World) (F : Nat → Prop) (D : Dk) (vl vw : Value) (F' : Nat → Prop) (W : World) : Prop where
  box : BxD W w.heap.size D vl vw
  res : W.heap[w.heap.size + 1]? = some (.cells #[.slice none 0 0, .slice none 0 0, .int .i64 0, .int .i64 0, .bool false] 57 (0, 0))
  ref : RefAt W F' D vl vw
  new : ∀ k, F' k → F k ∨ w.heap.size + 2 ≤ k
  bel : Below w.heap.size w W
theorem RunAt.store {w w2 W : World} {F F' F2 : Nat → Prop} {D D2 : Dk} {vl vw vl2 vw2 : Value} (h : RunAt w F D vl vw F' W) (hF : ∀ k, F k → k < w.heap.size) (t : RTo W F' D2 w2 F2 vl2 vw2) :
    RunAt w F D2 vl2 vw2 F2 (set5 w2 w.heap.size vl2 vw2 (.int .i64 D2.fuse) (.int .i64 D2.writes) (.bool D2.down)) := by
  have hb : w2.heap[w.heap.size]? = some _ := (t.bel.block _ (lt_of_block h.box)).trans h.box
  have hr : w2.heap[w.heap.size + 1]? = some _ := (t.bel.block _ (lt_of_block h.res)).trans h.res
  have hs : w.heap.size + 2 ≤ W.heap.size := by have := lt_of_block h.res; omega
  have ht : Touch (fun k => k = w.heap.size) w2 (set5 w2 w.heap.size vl2 vw2 (.int .i64 D2.fuse) (.int .i64 D2.writes) (.bool D2.down)) := set5_touch (Touch.refl _ _) rfl
  have hn : ∀ k, F2 k → F k ∨ w.heap.size + 2 ≤ k := fun k hk => (t.new k hk).elim (h.new k) (fun x => .inr (by omega))
  exact ⟨set5_blk hb, blk_touch ht hr (by omega), t.has.keep ht (fun k hk e => by
    rcases hn k hk with x | x
    · have := hF k x; omega
    · omega), hn, set5_below (h.bel.trans (t.bel.mono h.bel.size)) (Nat.le_refl _)⟩
theorem RunAt.done {w W : World} {F F' : Nat → Prop} {D : Dk} {vl vw : Value} (h : RunAt w F D vl vw F' W) {a b c d e : Value} (hF : ∀ k, F k → k < w.heap.size) : RTo w F D (set5 W (w.heap.size + 1) a b c d e) F' vl vw :=
  ⟨h.ref.keep (S := fun k => k = w.heap.size + 1) (set5_touch (Touch.refl _ _) rfl) (fun k hk e => by
    rcases h.new k hk with x | x
    · have := hF k x; omega
    · omega), fun k hk => (h.new k hk).imp id (fun x => by omega), set5_below h.bel (by omega)⟩
theorem run_snoc' {d : Dk} {l : List Stp} {k : Nat} (hk : k < l.length) (h : (run d (l.take k)).2 = 0) : run d (l.take (k + 1)) = (step (run d (l.take k)).1 l[k], stepE (run d (l.take k)).1 l[k]) := by
  rw [List.take_succ_eq_append_getElem hk, run_snoc h]
theorem run_stop' {d : Dk} {l : List Stp} {k : Nat} (h : (run d (l.take k)).2 ≠ 0) : run d l = run d (l.take k) := by
  have := run_stop h (l.drop k)
  rwa [List.take_append_drop] at this
set_option maxHeartbeats 3200000 in
set_option maxRecDepth 100000 in
theorem rrun_any (w : World) (F : Nat → Prop) (d : Dk) (vl vw : Value) (h : RefAt w F d vl vw) (B : Nat) (v : Value) (l : List Stp) (hl : StepsAt w B v l) (hn : l.length ≤ 10000) (hf : Fw l.length d) (hs : ∀ x ∈ l, x.2.size ≤ 100000) :
    Calls Try.prog 27 #[refV d vl vw, v] w fun e w' => ∃ F' vl' vw', e = .returned (.tuple #[refV (run d l).1 vl' vw', .int .i64 (run d l).2]) ∧ RTo w F (run d l).1 w' F' vl' vw' := by
  have H := Lib.hid h; have HS := Lib.hid hs; have FW := Lib.hid hf
  obtain ⟨A, c, rfl⟩ := own_slice hl
  have HL := Lib.hid (steps_rd hl)
  have HFL : Hid (∀ k, F k → k < w.heap.size) := fun k hk => h.lt k hk
  have S0 : Hid (RunAt w F d vl vw F ((w.alloc (.cells #[vl, vw, .int .i64 d.fuse, .int .i64 d.writes, .bool d.down] 57)).alloc (.cells #[.slice none 0 0, .slice none 0 0, .int .i64 0, .int .i64 0, .bool false] 57))) := by
    obtain ⟨g0, g1, bb⟩ := keep2 (Below.refl _ ((w.alloc (.cells #[vl, vw, .int .i64 d.fuse, .int .i64 d.writes, .bool d.down] 57)).alloc (.cells #[.slice none 0 0, .slice none 0 0, .int .i64 0, .int .i64 0, .bool false] 57)))
    exact ⟨g0, g1, h.below bb, fun k hk => .inl hk, bb⟩
  clear h hl hs hf
  unfold refV
  go_enter Try.func27, Try.ntmps27
  go_wp2_with fail
  go_loopw [6, 7] (fun e i wr => ∃ (k : Nat) (F' : Nat → Prop) (vl' vw' : Value), k ≤ l.length ∧ i = .int .i64 k ∧ e = .int .i64 (run d (l.take k)).2 ∧ Hid (RunAt w F (run d (l.take k)).1 vl' vw' F' wr)) (fun _ i _ => l.length - (intOf i).toNat)
  case atStart => exact ⟨0, F, vl, vw, Nat.zero_le _, rfl, by simp [run], by simpa [run] using S0⟩
  case round =>
    obtain ⟨k, F', vl', vw', hk, rfl, rfl, hS⟩ := hrel
    by_cases he : (run d (l.take k)).2 = 0
    · by_cases hlt : k < l.length
      · obtain ⟨b, off, e1, hcs⟩ := HL.out (by omega)
        subst e1
        obtain ⟨y0, y1⟩ := hcs k hlt
        replace y0 := cell_below hS.out.bel y0
        replace y1 := cell_below hS.out.bel y1
        have RS := Lib.hid (run_snoc' hlt he)
        have FK : Hid (Fw 1 (run d (l.take k)).1) := fw_run _ (FW.out.mono (by rw [List.length_take]; omega))
        have SX := HS.out l[k] (List.getElem_mem _)
        rw [he]
        clear hcs he
        generalize (run d (l.take k)).1 = D at hS RS FK
        generalize l[k] = x at y0 y1 RS SX
        obtain ⟨xi, xs⟩ := x
        simp only at y0 y1 SX
        obtain ⟨c0, c1, c2, c3, c4⟩ := hS.out.box.cells
        by_cases hx : xi < 0
        · have SD : Hid (step D (xi, xs) = D.flush) := by unfold Hid step; rw [if_pos hx]
          have SE : Hid (stepE D (xi, xs) = D.use 0) := by unfold Hid stepE; rw [if_pos hx]
          rw [SD.out, SE.out] at RS
          have FL := Lib.hid (rflush_any wr F' D vl' vw' hS.out.ref (by have := FK.out.w; omega))
          unfold refV at FL
          go_wp2_with fail
          refine FL.out.mono ?_
          rintro e w2 ⟨F2, vl2, vw2, rfl, t2⟩
          obtain ⟨A3, q3, rfl⟩ := own_slice t2.has.own
          obtain ⟨A4, q4, rfl⟩ := own_slice t2.has.ownW
          have r1 := hS.out.box.below t2.bel
          obtain ⟨z0, z1, z2, z3, z4⟩ := r1.cells
          have f0 := blk_free r1 0; have f1 := blk_free r1 1; have f2 := blk_free r1 2; have f3 := blk_free r1 3; have f4 := blk_free r1 4
          have S2 := Lib.hid (hS.out.store HFL.out t2)
          have E1 : Hid ((run d (l.take (k + 1))).1 = D.flush) := by unfold Hid; rw [RS.out]
          clear t2 r1 FL y0 y1 c0 c1 c2 c3 c4
          go_wp2
          go_roundw
          case rel => exact ⟨k + 1, F2, _, _, hlt, by go_num, by rw [RS.out], by rw [E1.out]; exact S2⟩
          case measure => simp [intOf]; omega
        · have SD : Hid (step D (xi, xs) = D.write xi xs) := by unfold Hid step; rw [if_neg hx]
          have SE : Hid (stepE D (xi, xs) = D.writeE xi xs) := by unfold Hid stepE; rw [if_neg hx]
          rw [SD.out, SE.out] at RS
          have WR := Lib.hid (rwrite_any wr.drew F' D vl' vw' (hS.out.ref.below (Below.refl _ wr).drew) xi xs (by omega) (by have := FK.out.w; omega) (by have := FK.out.c; omega))
          unfold refV at WR
          have v0 : wr.drew.cell? ⟨b, off + k * 2, none⟩ = some (.int .i64 xi) := y0
          have v1 : wr.drew.cell? ⟨b, off + k * 2 + 1, none⟩ = some (.string xs) := y1
          have SD2 : Hid (RunAt w F D vl' vw' F' wr.drew) := ⟨hS.out.box, hS.out.res, hS.out.ref.below (Below.refl _ wr).drew, hS.out.new, hS.out.bel.drew⟩
          obtain ⟨b0, b1, b2, b3, b4⟩ := SD2.out.box.cells
          clear hS SD SE
          go_wp2_with fail
          refine wp_region_tail (fun w' => w'.cell? ⟨b, off + k * 2, none⟩ = some (.int .i64 xi) ∧ w'.cell? ⟨b, off + k * 2 + 1, none⟩ = some (.string xs) ∧ w'.cell? ⟨w.heap.size, 0, none⟩ = some vl' ∧ w'.cell? ⟨w.heap.size, 1, none⟩ = some vw' ∧ w'.cell? ⟨w.heap.size, 2, none⟩ = some (.int .i64 D.fuse) ∧ w'.cell? ⟨w.heap.size, 3, none⟩ = some (.int .i64 D.writes) ∧ w'.cell? ⟨w.heap.size, 4, none⟩ = some (.bool D.down)) [(1, 1), (2, 1), (3, 1), (4, 1), (6, 1), (7, 1), (8, 1), (9, 1), (0, 2), (5, 2), (10, 0), (11, 0), (12, 1), (13, 1), (14, 1)] [15, 16] (by kernel_rfl) (by kernel_rfl) ⟨v0, v1, b0, b1, b2, b3, b4⟩ ?_
          repeat (refine wpT_dry (fun K hK => ?_); go_simp; refine hK _ ?_; clear hK K)
          refine wpT_read (.agg #[vl', vw', .int .i64 D.fuse, .int .i64 D.writes, .bool D.down]) rfl (fun w' hS => by obtain ⟨s1, s2, s3, s4, s5, s6, s7⟩ := hS; go_simp) (fun K hK => ?_)
          go_simp
          refine hK _ ?_
          clear hK K
          refine wpT_read (.int .i64 xi) rfl (fun w' hS => by obtain ⟨s1, s2, s3, s4, s5, s6, s7⟩ := hS; go_simp) (fun K hK => ?_)
          go_simp
          refine hK _ ?_
          clear hK K
          refine wpT_do ?_
          go_wp2_with fail
          refine ⟨⟨v0, v1, b0, b1, b2, b3, b4⟩, ?_⟩
          refine wpT_do ?_
          go_wp2_with fail
          refine WR.out.mono ?_
          rintro e w2 ⟨F2, vl2, vw2, rfl, t2⟩
          obtain ⟨A3, q3, rfl⟩ := own_slice t2.has.own
          obtain ⟨A4, q4, rfl⟩ := own_slice t2.has.ownW
          have r1 := SD2.out.box.below t2.bel
          obtain ⟨z0, z1, z2, z3, z4⟩ := r1.cells
          have f0 := blk_free r1 0; have f1 := blk_free r1 1; have f2 := blk_free r1 2; have f3 := blk_free r1 3; have f4 := blk_free r1 4
          have S2 := Lib.hid (SD2.out.store HFL.out t2)
          have E1 : Hid ((run d (l.take (k + 1))).1 = D.write xi xs) := by unfold Hid; rw [RS.out]
          have x0 := cell_below t2.bel v0; have x1 := cell_below t2.bel v1
          clear t2 r1 WR y0 y1 v0 v1 b0 b1 b2 b3 b4 c0 c1 c2 c3 c4
          go_wp2_with fail
          refine ⟨⟨x0, x1, z0, z1, z2, z3, z4⟩, ?_⟩
          repeat (refine wpT_dry (fun K hK => ?_); go_simp; refine hK _ ?_; clear hK K)
          refine wpT_tail ?_
          refine wpE_do ?_
          go_wp2_with fail
          refine ⟨trivial, ?_⟩
          refine wpE_do ?_
          go_wp2_with fail
          refine ⟨trivial, ?_⟩
          refine wpE_nil ?_
          go_wp2
          go_roundw
          case rel => exact ⟨k + 1, F2, _, _, hlt, by go_num, by rw [RS.out], by rw [E1.out]; exact S2⟩
          case measure => simp [intOf]; omega
      · have hkl : k = l.length := by omega
        subst hkl
        rw [List.take_length] at hS he ⊢
        obtain ⟨c0, c1, c2, c3, c4⟩ := hS.out.box.cells
        rw [he]
        have r1 := hS.out.res
        have f0 := blk_free r1 0; have f1 := blk_free r1 1; have f2 := blk_free r1 2; have f3 := blk_free r1 3; have f4 := blk_free r1 4
        have z0 := blk_cell r1 0; have z1 := blk_cell r1 1; have z2 := blk_cell r1 2; have z3 := blk_cell r1 3; have z4 := blk_cell r1 4
        simp at z0 z1 z2 z3 z4
        have E := Lib.hid he
        obtain ⟨D, hD⟩ : ∃ D, D = (run d l).1 := ⟨_, rfl⟩
        rw [← hD] at hS c2 c3 c4
        have HD := Lib.hid hD
        clear hD
        obtain ⟨A3, q3, rfl⟩ := own_slice hS.out.ref.own
        obtain ⟨A4, q4, rfl⟩ := own_slice hS.out.ref.ownW
        clear he
        go_wp2
        refine bodyPost_ret (ret_ref rfl _ rfl (set5_blk hS.out.res)) rfl ?_
        exact ⟨F', _, _, by rw [← HD.out, E.out]; rfl, by rw [← HD.out]; exact hS.out.done HFL.out⟩
    · have RS := run_stop' he
      rw [← RS] at hS he ⊢
      obtain ⟨c0, c1, c2, c3, c4⟩ := hS.out.box.cells
      have r1 := hS.out.res
      have f0 := blk_free r1 0; have f1 := blk_free r1 1; have f2 := blk_free r1 2; have f3 := blk_free r1 3; have f4 := blk_free r1 4
      have z0 := blk_cell r1 0; have z1 := blk_cell r1 1; have z2 := blk_cell r1 2; have z3 := blk_cell r1 3; have z4 := blk_cell r1 4
      simp at z0 z1 z2 z3 z4
      obtain ⟨A3, q3, rfl⟩ := own_slice hS.out.ref.own
      obtain ⟨A4, q4, rfl⟩ := own_slice hS.out.ref.ownW
      obtain ⟨D, hD⟩ : ∃ D, D = (run d l).1 := ⟨_, rfl⟩
      obtain ⟨x, hX⟩ : ∃ x, x = (run d l).2 := ⟨_, rfl⟩
      rw [← hD] at hS c2 c3 c4
      rw [← hX] at he ⊢
      have HD := Lib.hid hD; have HX := Lib.hid hX
      clear hD hX RS
      have de : (x == 0) = false := by simpa using he
      clear he
      by_cases hlt : k < l.length
      · go_wp2
        refine bodyPost_ret (ret_ref rfl _ rfl (set5_blk hS.out.res)) rfl ?_
        exact ⟨F', _, _, by rw [← HD.out, ← HX.out]; rfl, by rw [← HD.out]; exact hS.out.done HFL.out⟩
      · go_wp2
        refine bodyPost_ret (ret_ref rfl _ rfl (set5_blk hS.out.res)) rfl ?_
        exact ⟨F', _, _, by rw [← HD.out, ← HX.out]; rfl, by rw [← HD.out]; exact hS.out.done HFL.out⟩
end Go.Proofs.Ytpaabfadniakoaa
/- JpE: the document's Commit (written by gen_rcom.py). -/
set_option linter.unusedVariables false
set_option linter.unusedSimpArgs false
namespace Go.Proofs.Ytpaabfadniakoaa
open Go.RowKit

/-- The writes of page i out of the first k changes. -/
def pgS (l : List (Int × ByteArray)) (q i k : Nat) : List Stp := ((l.take k).filter (fun c => decide (c.1 = (i : Int)))).flatMap (fun c => laid ((1 + 4 * (q + i) : Nat) : Int) c.2)
def docS (l : List (Int × ByteArray)) (q n : Nat) : List Stp := (List.range n).flatMap (fun i => pgS l q i l.length)
theorem pgS_zero (l : List (Int × ByteArray)) (q i : Nat) : pgS l q i 0 = [] := rfl
theorem pgS_yes {l : List (Int × ByteArray)} (q : Nat) {i k : Nat} (hk : k < l.length) : pgS l q i (k + 1) = pgS l q i k ++ (if l[k].1 = (i : Int) then laid ((1 + 4 * (q + i) : Nat) : Int) l[k].2 else []) := by
  unfold pgS
  rw [List.take_succ_eq_append_getElem hk, List.filter_append, List.flatMap_append]
  congr 1
  by_cases h : l[k].1 = (i : Int)
  · rw [if_pos h, List.filter_cons_of_pos (by simpa using h)]; simp
  · rw [if_neg h, List.filter_cons_of_neg (by simpa using h)]; rfl
theorem pgS_no {l : List (Int × ByteArray)} (q : Nat) {i k : Nat} (hk : k < l.length) : pgS l q i (k + 1) = if l[k].1 = (i : Int) then pgS l q i (k + 1) else pgS l q i k := by
  split
  · rfl
  · rename_i h
    rw [pgS_yes q hk, if_neg h, List.append_nil]
theorem docS_succ (l : List (Int × ByteArray)) (q n : Nat) : docS l q (n + 1) = docS l q n ++ pgS l q n l.length := by
  unfold docS
  rw [List.range_succ, List.flatMap_append]
  simp
theorem pgS_len (l : List (Int × ByteArray)) (q i k : Nat) : (pgS l q i k).length ≤ 4 * l.length := by
  unfold pgS
  rw [flat_len _ _ (fun x => laid_len _ _)]
  have h1 := List.length_filter_le (fun c : Int × ByteArray => decide (c.1 = (i : Int))) (l.take k)
  rw [List.length_take] at h1
  omega
theorem docS_len (l : List (Int × ByteArray)) (q : Nat) : ∀ n, (docS l q n).length ≤ n * (4 * l.length)
  | 0 => by simp [docS]
  | n + 1 => by
    rw [docS_succ, List.length_append]
    have := docS_len l q n
    have := pgS_len l q n l.length
    rw [Nat.succ_mul]
    omega
theorem new_at (w : World) (xs : List Value) (t : TypeId) : ∀ j u, xs[j]? = some u → (w.alloc (.cells xs.toArray t)).cell? ((⟨w.heap.size, 0, none⟩ : Addr).add j) = some u := by
  intro j u hj
  have h := blk_new w (.cells xs.toArray t)
  rw [show (⟨w.heap.size, 0, none⟩ : Addr).add j = ⟨w.heap.size, j, none⟩ by simp [Addr.add]; omega, blk_cell h j]
  simpa using hj
theorem mkB_nil : mkB [] = Dk.sector0 := rfl
def docC (P : Nat) (l : List (Int × ByteArray)) (m : ByteArray) : List Stp := docS l 0 P ++ [flushS, (0, m), flushS] ++ docS l P P ++ [flushS, (0, Dk.sector0), flushS]
set_option maxHeartbeats 6400000 in
set_option maxRecDepth 100000 in
theorem rcommit_any (w : World) (P : Nat) (hP : P ≤ 128) (A : Option Addr) (c : Nat) (l : List (Int × ByteArray)) (hl : RdC w A l) (hn : l.length ≤ 12) (hw : whyE P l = 0) (M : List Chg) (hM : (M.map upc).Perm l) :
    Calls Try.prog 28 #[.int .i64 (P : Int), .slice A l.length c] w fun e w' => ∃ v, e = .returned v ∧ StepsAt w' w.heap.size v (docC P l (mkB M)) ∧ Below w.heap.size w w' := by
  obtain ⟨i0, hi0, hz0, hz1, hz2⟩ := info_parts infoStep
  have HL := Lib.hid hl
  have HE : Hid (∀ x ∈ l, 0 ≤ x.1 ∧ x.1 < (P : Int) ∧ x.2.size = 1024) := why_each hw
  have MK : ∀ W, Below w.heap.size w W → Hid (Calls Try.prog 57 #[.slice A l.length c] W fun e w' => e = .returned (.string (mkB M)) ∧ Below W.heap.size W w') := fun W hb =>
    rmark_any W A c l (hl.below hb) (by omega) (fun x hx => by have := HE.out x hx; omega) (pages_pair (why_ok hw).2.1) M (fun j => by
      rw [Bool.eq_iff_iff, List.any_eq_true, List.any_eq_true]
      constructor
      · rintro ⟨x, hx, e⟩
        refine ⟨upc x, hM.mem_iff.1 (List.mem_map_of_mem hx), ?_⟩
        rw [decide_eq_true_eq] at e ⊢
        show (x.1 : Int) = _
        omega
      · rintro ⟨x, hx, e⟩
        obtain ⟨y, hy, rfl⟩ := List.mem_map.1 (hM.mem_iff.2 hx)
        refine ⟨y, hy, ?_⟩
        rw [decide_eq_true_eq] at e ⊢
        have e2 : (y.1 : Int) = (j : Int) := e
        omega) (fun x hx => by have := (commit_mem hw hM x hx).1; omega)
  have MZ : ∀ W, Hid (Calls Try.prog 57 #[.slice none 0 0] W fun e w' => e = .returned (.string Dk.sector0) ∧ Below W.heap.size W w') := fun W => by
    have := rmark_any W none 0 [] (fun h => by simp at h) (by decide) (fun x hx => by cases hx) List.Pairwise.nil [] (fun j => rfl) (fun x hx => by cases hx)
    rw [mkB_nil] at this
    exact this
  have DL0 := Lib.hid (Nat.le_trans (docS_len l 0 P) (Nat.mul_le_mul (show P ≤ 128 from hP) (show 4 * l.length ≤ 48 by omega)))
  clear hl hw hM
  go_enter Try.func28, Try.ntmps28
  go_wp2_with fail
  have V0 : Hid (StepsAt w w.heap.size (.slice none 0 0) []) := World.ownsRow_nil _ _ _ _
  have B0 : Hid (Below w.heap.size w w) := Below.refl _ _
  focus
    go_loopw [5, 6] (fun v iv wr => ∃ I : Nat, I ≤ P ∧ iv = .int .i64 I ∧ Hid (StepsAt wr w.heap.size v (docS l 0 I)) ∧ Hid (Below w.heap.size w wr)) (fun _ iv _ => P - (intOf iv).toNat)
    case atStart => exact ⟨0, Nat.zero_le _, rfl, by unfold Hid docS; simpa using V0.out, B0.out⟩
    case round =>
      obtain ⟨I, hi, rfl, ho, hb⟩ := hrel
      clear V0 B0
      by_cases hlt : I < P
      · go_wp2_with fail
        go_loopw [5, 7] (fun v kv wr => ∃ k : Nat, k ≤ l.length ∧ kv = .int .i64 k ∧ Hid (StepsAt wr w.heap.size v ((docS l 0 I) ++ pgS l 0 I k)) ∧ Hid (Below w.heap.size w wr)) (fun _ kv _ => l.length - (intOf kv).toNat)
        case atStart => exact ⟨0, Nat.zero_le _, rfl, by unfold Hid; rw [pgS_zero, List.append_nil]; exact ho.out, hb⟩
        case round =>
          obtain ⟨k, hk, rfl, ho2, hb2⟩ := hrel
          clear ho hb
          by_cases hkl : k < l.length
          · obtain ⟨b, off, e1, hcs⟩ := HL.out (by omega)
            subst e1
            obtain ⟨z0, z1⟩ := hcs k hkl
            replace z0 := cell_below hb2.out z0
            replace z1 := cell_below hb2.out z1
            have SZ := (HE.out l[k] (List.getElem_mem _)).2.2
            have PY := Lib.hid (@pgS_yes l 0 I k hkl)
            have PN := Lib.hid (@pgS_no l 0 I k hkl)
            have PL := Lib.hid (pgS_len l 0 I k)
            have DL := Lib.hid (docS_len l 0 I)
            generalize l[k] = x at z0 z1 SZ PY PN
            obtain ⟨x1, x2⟩ := x
            simp only at z0 z1 SZ PY PN
            clear hcs
            by_cases he : x1 = (I : Int)
            · subst he
              rw [if_pos rfl] at PY
              obtain ⟨p, hp⟩ : ∃ p : Nat, p = 1 + 4 * (0 + I) := ⟨_, rfl⟩
              have eq1 : 1 + 4 * (I : Int) = (p : Int) := by omega
              rw [← hp] at PY
              have hp2 : p ≤ 4096 := by omega
              have LD := fun v (hv : StepsAt wr w.heap.size v ((docS l 0 I) ++ pgS l 0 I k)) => Lib.hid (laid_any wr w.heap.size hb2.out.size v _ hv (by (try simp only [List.length_append, List.length_cons, List.length_nil]); have := PL.out; have := DL.out; have := DL0.out; have : I * (4 * l.length) ≤ 128 * 48 := Nat.mul_le_mul (by omega) (by omega); omega) p hp2 x2 SZ)
              have LDv := LD _ ho2.out
              clear hp LD
              go_wp2_with fail
              refine LDv.out.mono ?_
              rintro e w2 ⟨v2, rfl, hs2, b2⟩
              have S2 : Hid (StepsAt w2 w.heap.size v2 ((docS l 0 I) ++ pgS l 0 I (k + 1))) := by unfold Hid; rw [PY.out, ← List.append_assoc]; exact hs2
              have B2 : Hid (Below w.heap.size w w2) := hb2.out.trans b2
              clear hs2 b2 LDv
              go_wp2
              go_roundw
              case rel => first | exact ⟨k + 1, hkl, by go_num, S2, B2⟩ | ((repeat apply Exists.intro); refine ⟨?_, rfl⟩; exact ⟨k + 1, hkl, by go_num, S2, B2⟩)
              case measure => simp [intOf]; omega
            · have he2 : (x1 == (I : Int)) = false := by simpa using he
              rw [if_neg he] at PN
              have E2 : Hid (((docS l 0 I) ++ pgS l 0 I (k + 1)) = ((docS l 0 I) ++ pgS l 0 I k)) := by unfold Hid; rw [PN.out]
              clear he
              go_wp2
              go_roundw
              case rel => first | exact ⟨k + 1, hkl, by go_num, by rw [E2.out]; exact ho2, hb2⟩ | ((repeat apply Exists.intro); refine ⟨?_, rfl⟩; exact ⟨k + 1, hkl, by go_num, by rw [E2.out]; exact ho2, hb2⟩)
              case measure => simp [intOf]; omega
          · have hkn : k = l.length := by omega
            subst hkn
            have E2 : Hid ((docS l 0 (I + 1)) = ((docS l 0 I) ++ pgS l 0 I l.length)) := by unfold Hid; rw [docS_succ]; try simp only [List.append_assoc]
            go_wp2
            go_roundw
            case rel => first | exact ⟨I + 1, hlt, by go_num, by rw [E2.out]; exact ho2, hb2⟩ | ((repeat apply Exists.intro); refine ⟨?_, rfl⟩; exact ⟨I + 1, hlt, by go_num, by rw [E2.out]; exact ho2, hb2⟩)
            case measure => simp [intOf]; omega
      · have hiP : I = P := by omega
        subst hiP
        obtain ⟨a, ha⟩ : ∃ a : List Stp, a = docS l 0 I := ⟨_, rfl⟩
        rw [← ha] at ho
        have HAc := Lib.hid ha
        clear ha
        go_wp2_with fail
        refine (MK wr hb.out).out.mono ?_
        rintro e w2 ⟨rfl, b2⟩
        have B2 : Hid (Below w.heap.size w w2) := hb.out.trans (b2.mono hb.out.size)
        have S2 := Lib.hid (ho.out.below b2)
        have N2 : Hid (w.heap.size ≤ w2.heap.size) := B2.out.size
        have LN : a.length ≤ 100000 := by
          rw [HAc.out]
          try simp only [List.length_append, List.length_cons, List.length_nil]
          have := docS_len l 0 I; have := docS_len l I I; have : I * (4 * l.length) ≤ 128 * 48 := Nat.mul_le_mul (by omega) (by omega)
          omega
        clear b2 ho hb
        go_wp2_with (at_builtin; refine wpList_append_own_at _ rfl (.tmp 38) (.tmp 44) 65 rfl w.heap.size 99 i0 _ 2 24 Try.underlying65 hi0 hz0 hz1 hz2 rfl (by decide) _ a.length (wcells a) rfl (World.ownsRow.alloc S2.out _) ⟨w2.heap.size, 0, none⟩ 3 3 (wcells [flushS, (0, mkB M), flushS]) rfl rfl (new_at _ _ _) (by simp [wcells, Value.oneCell', flushS]) (by unfold maxLen; omega) (by omega) (by have := N2.out; simp; omega) ?_)
        intro v3 w3 ho3 hg3 _ _
        have B3 : Hid (Below w.heap.size w w3) := (B2.out.alloc N2.out _).grown hg3 (Nat.le_trans N2.out (by simp)) (fun j hj => (S2.out.lt j hj).1)
        have S3 : Hid (StepsAt w3 w.heap.size v3 (docS l 0 I ++ [flushS, (0, mkB M), flushS])) := by
          unfold Hid StepsAt
          rw [← HAc.out, wcells_append, List.length_append]
          exact ho3
        clear ho3 hg3 B2 S2 LN HAc
        have V0 := S3
        have B0 := B3
        clear S3 B3
        go_wp2_with fail
        go_loopw [5, 8] (fun v iv wr => ∃ i : Nat, i ≤ I ∧ iv = .int .i64 i ∧ Hid (StepsAt wr w.heap.size v (docS l 0 I ++ [flushS, (0, mkB M), flushS] ++ docS l I i)) ∧ Hid (Below w.heap.size w wr)) (fun _ iv _ => I - (intOf iv).toNat)
        case atStart => exact ⟨0, Nat.zero_le _, rfl, by unfold Hid; rw [show docS l I 0 = [] from rfl, List.append_nil]; exact V0.out, B0.out⟩
        case round =>
          obtain ⟨i, hi, rfl, ho, hb⟩ := hrel
          clear V0 B0
          by_cases hlt : i < I
          · go_wp2_with fail
            go_loopw [5, 9] (fun v kv wr => ∃ k : Nat, k ≤ l.length ∧ kv = .int .i64 k ∧ Hid (StepsAt wr w.heap.size v ((docS l 0 I ++ [flushS, (0, mkB M), flushS] ++ docS l I i) ++ pgS l I i k)) ∧ Hid (Below w.heap.size w wr)) (fun _ kv _ => l.length - (intOf kv).toNat)
            case atStart => exact ⟨0, Nat.zero_le _, rfl, by unfold Hid; rw [pgS_zero, List.append_nil]; exact ho.out, hb⟩
            case round =>
              obtain ⟨k, hk, rfl, ho2, hb2⟩ := hrel
              clear ho hb
              by_cases hkl : k < l.length
              · obtain ⟨b, off, e1, hcs⟩ := HL.out (by omega)
                subst e1
                obtain ⟨z0, z1⟩ := hcs k hkl
                replace z0 := cell_below hb2.out z0
                replace z1 := cell_below hb2.out z1
                have SZ := (HE.out l[k] (List.getElem_mem _)).2.2
                have PY := Lib.hid (@pgS_yes l I i k hkl)
                have PN := Lib.hid (@pgS_no l I i k hkl)
                have PL := Lib.hid (pgS_len l I i k)
                have DL := Lib.hid (docS_len l I i)
                generalize l[k] = x at z0 z1 SZ PY PN
                obtain ⟨x1, x2⟩ := x
                simp only at z0 z1 SZ PY PN
                clear hcs
                by_cases he : x1 = (i : Int)
                · subst he
                  rw [if_pos rfl] at PY
                  obtain ⟨p, hp⟩ : ∃ p : Nat, p = 1 + 4 * (I + i) := ⟨_, rfl⟩
                  have eq1 : 1 + 4 * ((I : Int) + (i : Int)) = (p : Int) := by omega
                  rw [← hp] at PY
                  have hp2 : p ≤ 4096 := by omega
                  have LD := fun v (hv : StepsAt wr w.heap.size v ((docS l 0 I ++ [flushS, (0, mkB M), flushS] ++ docS l I i) ++ pgS l I i k)) => Lib.hid (laid_any wr w.heap.size hb2.out.size v _ hv (by (try simp only [List.length_append, List.length_cons, List.length_nil]); have := PL.out; have := DL.out; have := DL0.out; have : i * (4 * l.length) ≤ 128 * 48 := Nat.mul_le_mul (by omega) (by omega); omega) p hp2 x2 SZ)
                  have LDv := LD _ ho2.out
                  clear hp LD
                  go_wp2_with fail
                  refine LDv.out.mono ?_
                  rintro e w2 ⟨v2, rfl, hs2, b2⟩
                  have S2 : Hid (StepsAt w2 w.heap.size v2 ((docS l 0 I ++ [flushS, (0, mkB M), flushS] ++ docS l I i) ++ pgS l I i (k + 1))) := by unfold Hid; rw [PY.out, ← List.append_assoc]; exact hs2
                  have B2 : Hid (Below w.heap.size w w2) := hb2.out.trans b2
                  clear hs2 b2 LDv
                  go_wp2
                  go_roundw
                  case rel => first | exact ⟨k + 1, hkl, by go_num, S2, B2⟩ | ((repeat apply Exists.intro); refine ⟨?_, rfl⟩; exact ⟨k + 1, hkl, by go_num, S2, B2⟩)
                  case measure => simp [intOf]; omega
                · have he2 : (x1 == (i : Int)) = false := by simpa using he
                  rw [if_neg he] at PN
                  have E2 : Hid (((docS l 0 I ++ [flushS, (0, mkB M), flushS] ++ docS l I i) ++ pgS l I i (k + 1)) = ((docS l 0 I ++ [flushS, (0, mkB M), flushS] ++ docS l I i) ++ pgS l I i k)) := by unfold Hid; rw [PN.out]
                  clear he
                  go_wp2
                  go_roundw
                  case rel => first | exact ⟨k + 1, hkl, by go_num, by rw [E2.out]; exact ho2, hb2⟩ | ((repeat apply Exists.intro); refine ⟨?_, rfl⟩; exact ⟨k + 1, hkl, by go_num, by rw [E2.out]; exact ho2, hb2⟩)
                  case measure => simp [intOf]; omega
              · have hkn : k = l.length := by omega
                subst hkn
                have E2 : Hid ((docS l 0 I ++ [flushS, (0, mkB M), flushS] ++ docS l I (i + 1)) = ((docS l 0 I ++ [flushS, (0, mkB M), flushS] ++ docS l I i) ++ pgS l I i l.length)) := by unfold Hid; rw [docS_succ]; try simp only [List.append_assoc]
                go_wp2
                go_roundw
                case rel => first | exact ⟨i + 1, hlt, by go_num, by rw [E2.out]; exact ho2, hb2⟩ | ((repeat apply Exists.intro); refine ⟨?_, rfl⟩; exact ⟨i + 1, hlt, by go_num, by rw [E2.out]; exact ho2, hb2⟩)
                case measure => simp [intOf]; omega
          · have hiP : i = I := by omega
            subst hiP
            obtain ⟨a, ha⟩ : ∃ a : List Stp, a = docS l 0 i ++ [flushS, (0, mkB M), flushS] ++ docS l i i := ⟨_, rfl⟩
            rw [← ha] at ho
            have HAc := Lib.hid ha
            clear ha
            go_wp2_with fail
            refine (MZ wr).out.mono ?_
            rintro e w2 ⟨rfl, b2⟩
            have B2 : Hid (Below w.heap.size w w2) := hb.out.trans (b2.mono hb.out.size)
            have S2 := Lib.hid (ho.out.below b2)
            have N2 : Hid (w.heap.size ≤ w2.heap.size) := B2.out.size
            have LN : a.length ≤ 100000 := by
              rw [HAc.out]
              try simp only [List.length_append, List.length_cons, List.length_nil]
              have := docS_len l 0 i; have := docS_len l i i; have : i * (4 * l.length) ≤ 128 * 48 := Nat.mul_le_mul (by omega) (by omega)
              omega
            clear b2 ho hb
            go_wp2_with (at_builtin; refine wpList_append_own_at _ rfl (.tmp 76) (.tmp 81) 65 rfl w.heap.size 99 i0 _ 2 24 Try.underlying65 hi0 hz0 hz1 hz2 rfl (by decide) _ a.length (wcells a) rfl (World.ownsRow.alloc S2.out _) ⟨w2.heap.size, 0, none⟩ 3 3 (wcells [flushS, (0, Dk.sector0), flushS]) rfl rfl (new_at _ _ _) (by simp [wcells, Value.oneCell', flushS]) (by unfold maxLen; omega) (by omega) (by have := N2.out; simp; omega) ?_)
            intro v3 w3 ho3 hg3 _ _
            have B3 : Hid (Below w.heap.size w w3) := (B2.out.alloc N2.out _).grown hg3 (Nat.le_trans N2.out (by simp)) (fun j hj => (S2.out.lt j hj).1)
            have S3 : Hid (StepsAt w3 w.heap.size v3 (docS l 0 i ++ [flushS, (0, mkB M), flushS] ++ docS l i i ++ [flushS, (0, Dk.sector0), flushS])) := by
              unfold Hid StepsAt
              rw [← HAc.out, wcells_append, List.length_append]
              exact ho3
            clear ho3 hg3 B2 S2 LN HAc
            go_wp2
            go_ret
            exact ⟨_, rfl, S3.out, B3.out⟩
end Go.Proofs.Ytpaabfadniakoaa
/- JpF: what the document's Commit does is what the program's does. In plain words. -/
set_option linter.unusedVariables false
set_option linter.unusedSimpArgs false
namespace Go.Proofs.Ytpaabfadniakoaa
open Go.RowKit

theorem filt_perm (l : List (Int × ByteArray)) : ∀ n : Nat, ((List.range n).flatMap (fun i => l.filter (fun c => decide (c.1 = ((i : Nat) : Int))))).Perm (l.filter (fun c => decide (0 ≤ c.1 ∧ c.1 < (n : Int))))
  | 0 => by
    have : l.filter (fun c => decide (0 ≤ c.1 ∧ c.1 < ((0 : Nat) : Int))) = [] := by
      rw [List.filter_eq_nil_iff]
      intro c _
      simp
    rw [this]
    exact List.Perm.refl _
  | n + 1 => by
    rw [List.range_succ, List.flatMap_append]
    have ih := filt_perm l n
    have e1 : l.filter (fun c => decide (0 ≤ c.1 ∧ c.1 < (n : Int))) = (l.filter (fun c => decide (0 ≤ c.1 ∧ c.1 < ((n + 1 : Nat) : Int)))).filter (fun c => decide (c.1 < (n : Int))) := by
      rw [List.filter_filter]
      congr 1
      funext c
      rw [← Bool.decide_and, decide_eq_decide]
      omega
    have e2 : [n].flatMap (fun i => l.filter (fun c => decide (c.1 = ((i : Nat) : Int)))) = (l.filter (fun c => decide (0 ≤ c.1 ∧ c.1 < ((n + 1 : Nat) : Int)))).filter (fun c => !decide (c.1 < (n : Int))) := by
      rw [List.filter_filter, List.flatMap_singleton]
      congr 1
      funext c
      rw [← decide_not, ← Bool.decide_and, decide_eq_decide]
      omega
    rw [e2]
    refine (ih.append_right _).trans ?_
    rw [e1]
    exact List.filter_append_perm _ _
/-- The changes in the order of their pages. -/
def ordM (P : Nat) (l : List (Int × ByteArray)) : List Chg := (List.range P).flatMap (fun i => (l.filter (fun c => decide (c.1 = ((i : Nat) : Int)))).map low)
theorem ord_ord (P : Nat) (l : List (Int × ByteArray)) : Ord (ordM P l) := by
  unfold Ord ordM
  rw [List.pairwise_flatMap]
  have hm : ∀ i : Nat, ∀ x ∈ (l.filter (fun c => decide (c.1 = (i : Int)))).map low, x.1 = i := fun i x hx => by
    obtain ⟨c, hc, rfl⟩ := List.mem_map.1 hx
    have := (List.mem_filter.1 hc).2
    simp only [decide_eq_true_eq] at this
    unfold low
    simp [this]
  refine ⟨fun i _ => List.pairwise_of_forall_mem_list (fun a ha b hb => by rw [hm i a ha, hm i b hb]; exact Nat.le_refl _), ?_⟩
  exact List.pairwise_lt_range.imp (fun {i j} hij a ha b hb => by rw [hm i a ha, hm j b hb]; omega)
theorem ord_perm {P : Nat} {l : List (Int × ByteArray)} (h : ∀ c ∈ l, 0 ≤ c.1 ∧ c.1 < (P : Int)) : ((ordM P l).map upc).Perm l := by
  have e1 : (ordM P l).map upc = (List.range P).flatMap (fun i => l.filter (fun c => decide (c.1 = ((i : Nat) : Int)))) := by
    unfold ordM
    rw [List.map_flatMap]
    congr 1
    funext i
    rw [List.map_map]
    refine (List.map_congr_left (fun c hc => ?_)).trans (List.map_id _)
    have h1 := (List.mem_filter.1 hc).2
    simp only [decide_eq_true_eq] at h1
    unfold low upc
    simp only [Function.comp, id_eq]
    rw [Int.toNat_of_nonneg (by omega)]
  rw [e1]
  refine (filt_perm l P).trans ?_
  rw [List.filter_eq_self.2 (fun c hc => by simpa using h c hc)]
theorem flat_congr {α β : Type} {f g : α → List β} : ∀ {l : List α}, (∀ c ∈ l, f c = g c) → l.flatMap f = l.flatMap g
  | [], _ => rfl
  | x :: l, h => by rw [List.flatMap_cons, List.flatMap_cons, h x (List.mem_cons_self ..), flat_congr (fun c hc => h c (List.mem_cons_of_mem _ hc))]
theorem docS_ord (P q : Nat) (l : List (Int × ByteArray)) : docS l q P = stepsB q (ordM P l) := by
  unfold docS stepsB ordM
  rw [List.flatMap_assoc]
  congr 1
  funext i
  unfold pgS
  rw [List.take_length, List.flatMap_map]
  refine flat_congr (fun c hc => ?_)
  have h1 := (List.mem_filter.1 hc).2
  simp only [decide_eq_true_eq] at h1
  unfold low
  rw [h1]
  rfl
theorem stepsA_B (M : List Chg) : stepsA M = stepsB 0 M := by
  unfold stepsA stepsB
  congr 1
  funext c
  rw [Nat.zero_add]
/-- The document's Commit is the program's. -/
theorem docC_commit {P : Nat} {l : List (Int × ByteArray)} (hw : whyE P l = 0) {M : List Chg} (hM : Ord M) (hp : (M.map upc).Perm l) : docC P l (mkB M) = commitK P M := by
  have he := why_each hw
  have e : M = ordM P l := sorted_one hM (ord_ord P l) hp (ord_perm (fun c hc => by have := he c hc; omega)) (List.Perm.refl l) (why_ok hw).2.1
  unfold docC commitK
  rw [docS_ord, docS_ord, ← e, stepsA_B]
  simp only [List.append_assoc, List.cons_append, List.nil_append]
theorem opL_ge {P : Nat} {m : ByteArray} : ∀ {k : Nat}, P ≤ k → opL P m k = opL P m P
  | 0, h => by obtain rfl : P = 0 := by omega
               rfl
  | k + 1, h => by
    by_cases e : P = k + 1
    · rw [e]
    · rw [opL_no (.inr (by omega)), opL_ge (by omega)]
theorem opk_ge {P k : Nat} {d : Dk} {m : ByteArray} (h : P ≤ k) : opk P d m k = opk P d m P := by unfold opk; rw [opL_ge h]
theorem opk_len_zero {P k : Nat} {d : Dk} {m : ByteArray} : (opk P d m k).length = 0 ↔ opL P m k = [] := by
  unfold opk
  rw [flat_len _ _ (fun x => laid_len _ _)]
  constructor
  · intro h; exact List.eq_nil_of_length_eq_zero (by omega)
  · intro h; rw [h]; rfl
end Go.Proofs.Ytpaabfadniakoaa
