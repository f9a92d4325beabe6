/- JpG: the document's Open. -/
import Derived.Test.YtpaabfadniakoaaMp21
import Derived.ProofKit
import Derived.OpenShut
import Derived.Deep.Slices
set_option linter.unusedVariables false
set_option linter.unusedSimpArgs false
namespace Go.Proofs.Ytpaabfadniakoaa
open Go.RowKit

theorem RunAt.below {w W W' : World} {F F' : Nat → Prop} {D : Dk} {vl vw : Value} (h : RunAt w F D vl vw F' W) (hb : Below W.heap.size W W') : RunAt w F D vl vw F' W' :=
  ⟨h.box.below hb, (hb.block _ (lt_of_block h.res)).trans h.res, h.ref.below hb, h.new, h.bel.trans (hb.mono h.bel.size)⟩
/-- What lies below B stays. -/
theorem RunAt.belowB {w W W' : World} {F F' : Nat → Prop} {D : Dk} {vl vw : Value} (h : RunAt w F D vl vw F' W) {B : Nat} (hb : Below B W W') (hB : w.heap.size + 2 ≤ B) (hF : ∀ k, F' k → k < B) : RunAt w F D vl vw F' W' :=
  ⟨h.box.belowB hb (by omega), (hb.block _ (by omega)).trans h.res, h.ref.keep (S := fun k => ¬ k < B) ⟨hb.os, hb.tape, hb.output, hb.size, fun k hk hn => hb.block k (by simpa using hn)⟩ (fun k hk hn => hn (hF k hk)), h.new, h.bel.trans (hb.mono (by omega))⟩
set_option maxHeartbeats 6400000 in
set_option maxRecDepth 100000 in
theorem ropen_any (w : World) (F : Nat → Prop) (d : Dk) (vl vw : Value) (h : RefAt w F d vl vw) (P : Nat) (hs : Sto P d) (hP1 : 1 ≤ P) (hP : P ≤ 128) (hf : Fw 600 d) :
    Calls Try.prog 33 #[refV d vl vw, .int .i64 (P : Int)] w fun e w' => ∃ F' vl' vw', e = .returned (.tuple #[refV (run d (openK P d (d.read 0).1)).1 vl' vw', .int .i64 (run d (openK P d (d.read 0).1)).2]) ∧ RTo w F (run d (openK P d (d.read 0).1)).1 w' F' vl' vw' := by
  obtain ⟨i0, hi0, hz0, hz1, hz2⟩ := info_parts infoStep
  have H := Lib.hid h; have HS := Lib.hid hs; have FW := Lib.hid hf
  have HFL : Hid (∀ k, F k → k < w.heap.size) := fun k hk => h.lt k hk
  have NE1 : needN (P : Int) = ((8 * P + 1 : Nat) : Int) := by unfold needN; rw [if_neg (by omega)]; omega
  have dn : (((8 * P + 1 : Nat) : Int) == 0) = false := by rw [beq_eq_false_iff_ne]; omega
  have dl : decide ((d.l.length : Int) < ((8 * P + 1 : Nat) : Int)) = false := by have := hs.big; simp; omega
  have dl2 : decide (d.l.length < 8 * P + 1) = false := by have := hs.big; simp; omega
  have RN := fun W => Lib.hid (rneed_any W (P : Int))
  rw [NE1] at RN
  obtain ⟨nd, hnd⟩ : ∃ n : Nat, n = 8 * P + 1 := ⟨_, rfl⟩
  rw [← hnd] at RN dn dl dl2
  clear NE1
  have U0 : d.use 0 = 0 := by unfold Dk.use; rw [if_neg (by rw [hs.up]; decide), if_neg (by have := hs.big; omega)]
  have RM : Hid (d.read 0 = ((d.read 0).1, 0)) := by unfold Hid Dk.read; rw [if_pos U0]
  have MZ : Hid ((d.read 0).1.size = 256) := read_size hs.sz U0
  have WB : Hid (d.waits.length < 9223372036854775807) := by have := hf.w; unfold Hid; omega
  have HBIG : Hid (8 * P + 1 ≤ d.l.length) := hs.big
  have HUP : Hid (d.down = false) := hs.up
  have S0 : RunAt w F d vl vw F ((w.alloc (.cells #[vl, vw, .int .i64 d.fuse, .int .i64 d.writes, .bool d.down] 57)).alloc (.cells #[.slice none 0 0, .slice none 0 0, .int .i64 0, .int .i64 0, .bool false] 57)) := by
    obtain ⟨g0, g1, bb⟩ := keep2 (Below.refl _ ((w.alloc (.cells #[vl, vw, .int .i64 d.fuse, .int .i64 d.writes, .bool d.down] 57)).alloc (.cells #[.slice none 0 0, .slice none 0 0, .int .i64 0, .int .i64 0, .bool false] 57)))
    exact ⟨g0, g1, h.below bb, fun k hk => .inl hk, bb⟩
  obtain ⟨W0, hW0⟩ : ∃ W0, W0 = ((w.alloc (.cells #[vl, vw, .int .i64 d.fuse, .int .i64 d.writes, .bool d.down] 57)).alloc (.cells #[.slice none 0 0, .slice none 0 0, .int .i64 0, .int .i64 0, .bool false] 57)) := ⟨_, rfl⟩
  rw [← hW0] at S0
  have S1 := Lib.hid (S0.below (Below.refl _ W0).drew)
  obtain ⟨A2, c2, rfl⟩ := own_slice h.own
  obtain ⟨A, c, rfl⟩ := own_slice h.ownW
  obtain ⟨b0, b1, b2, b3, b4⟩ := S1.out.box.cells
  clear S0 h hs hf hnd U0
  unfold refV
  go_enter Try.func33, Try.ntmps33
  go_wp2_with fail
  rw [← hW0]
  clear hW0
  refine wp_region_flag (fun w' => w'.cell? ⟨w.heap.size, 0, none⟩ = some (.slice A2 d.l.length c2)) [(0, 1), (1, 0), (2, 1), (3, 1), (4, 1), (7, 1), (5, 2), (6, 1), (8, 0), (9, 1), (10, 1)] (by kernel_rfl) (by kernel_rfl) b0 ?_
  simp only [ordered, List.map_cons, List.map_nil, List.getD_cons_zero, List.getD_cons_succ]
  repeat (refine wpF_dry (fun K hK => ?_); go_simp; refine hK _ ?_; clear hK K)
  refine wpF_do ?_
  go_wp2_with fail
  refine (RN _).out.mono ?_
  rintro e w' ⟨rfl, rfl⟩
  go_wp2_with fail
  refine ⟨b0, ?_⟩
  repeat (refine wpF_dry (fun K hK => ?_); go_simp; refine hK _ ?_; clear hK K)
  refine wpF_read (.slice A2 d.l.length c2) rfl (fun w' hS => by go_simp) (fun K hK => ?_)
  go_simp
  refine hK _ ?_
  clear hK K
  repeat (refine wpF_dry (fun K hK => ?_); go_simp; refine hK _ ?_; clear hK K)
  refine wpF_do ?_
  go_wp2_with fail
  refine (RN _).out.mono ?_
  rintro e w' ⟨rfl, rfl⟩
  go_wp2_with fail
  refine ⟨b0, ?_⟩
  repeat (refine wpF_dry (fun K hK => ?_); go_simp; refine hK _ ?_; clear hK K)
  refine wpF_nil ?_
  have RD0 := Lib.hid (rread_any W0.drew F d _ _ S1.out.ref 0 WB.out)
  rw [RM.out] at RD0
  unfold refV at RD0
  generalize W0.drew = W1 at S1 RD0 b0 b1 b2 b3 b4 ⊢
  go_wp2_with fail
  refine RD0.out.mono ?_
  rintro e w2 ⟨rfl, q2⟩
  have S2 := Lib.hid (S1.out.below q2)
  have HB2 : Hid (w.heap.size + 2 ≤ w2.heap.size) := by have := lt_of_block S2.out.res; unfold Hid; omega
  have V0 : Hid (StepsAt w2 w2.heap.size (.slice none 0 0) []) := World.ownsRow_nil _ _ _ _
  obtain ⟨m, hm⟩ : ∃ m, m = (d.read 0).1 := ⟨_, rfl⟩
  rw [← hm] at MZ ⊢
  have PG : Hid (∀ W, RunAt w F d (.slice A2 d.l.length c2) (.slice A d.waits.length c) F W → ∀ i : Nat, i < P → Calls Try.prog 34 #[refV d (.slice A2 d.l.length c2) (.slice A d.waits.length c), .int .i64 ((1 + 4 * i : Nat) : Int)] W fun e w' => e = .returned (.tuple #[.string (pageB d ((1 + 4 * i : Nat) : Int)), .int .i64 0]) ∧ Below W.heap.size W w') := fun W hW i hi => by
    have := rpage_any W F d _ _ hW.ref HS.out.sz WB.out (1 + 4 * i) (by have := HBIG.out; omega)
    rw [if_neg (by rw [HUP.out]; decide)] at this
    exact this
  unfold refV at PG
  have HMM := Lib.hid hm
  clear hm RD0 q2 b0 b1 b2 b3 b4
  go_wp2_with fail
  go_loopw [8, 9] (fun v iv wr => ∃ i : Nat, i ≤ P ∧ iv = .int .i64 i ∧ Hid (StepsAt wr w2.heap.size v (opk P d m i)) ∧ Hid (RunAt w F d (.slice A2 d.l.length c2) (.slice A d.waits.length c) F wr) ∧ Hid (w2.heap.size ≤ wr.heap.size)) (fun _ iv _ => P - (intOf iv).toNat)
  case atStart => exact ⟨0, Nat.zero_le _, rfl, V0, S2, Nat.le_refl _⟩
  case round =>
    obtain ⟨i, hi, rfl, ho, hS, hz⟩ := hrel
    clear S2 S1 V0
    by_cases hlt : i < P
    · have TD := Lib.hid (rtold_any wr m MZ.out i (by omega))
      cases ht : told m i with
      | true =>
        rw [ht] at TD
        have OY := Lib.hid (opk_yes (d := d) ht hlt)
        have OL := Lib.hid (opk_len P d m i)
        have PGi := Lib.hid (PG.out wr hS.out i hlt)
        have PS : (pageB d ((1 + 4 * i : Nat) : Int)).size = 1024 := HS.out.page (1 + 4 * i) (by have := HBIG.out; omega)
        obtain ⟨p, hp⟩ : ∃ p : Nat, p = 1 + 4 * i := ⟨_, rfl⟩
        obtain ⟨q, hq⟩ : ∃ q : Nat, q = 1 + 4 * (P + i) := ⟨_, rfl⟩
        rw [← hp] at PGi PS OY
        rw [← hq] at OY
        have eq1 : 1 + 4 * (i : Int) = (p : Int) := by omega
        have eq2 : 1 + 4 * ((P : Int) + (i : Int)) = (q : Int) := by omega
        have hq2 : q ≤ 4096 := by omega
        generalize pageB d (p : Int) = s at PGi PS OY
        obtain ⟨b0, b1, b2, b3, b4⟩ := hS.out.box.cells
        clear ht hp hq
        go_wp2_with fail
        refine TD.out.mono ?_
        rintro e w' ⟨rfl, rfl⟩
        go_wp2_with fail
        refine PGi.out.mono ?_
        rintro e w3 ⟨rfl, q3⟩
        have S3 := Lib.hid (hS.out.below q3)
        have Z3 : Hid (w2.heap.size ≤ w3.heap.size) := Nat.le_trans hz.out q3.size
        have LD := fun v (hv : StepsAt wr w2.heap.size v (opk P d m i)) => Lib.hid (laid_any w3 w2.heap.size Z3.out v _ (hv.below q3) (by have := OL.out; omega) q hq2 s PS)
        have LDv := LD _ ho.out
        clear LD q3 PGi TD b0 b1 b2 b3 b4
        go_wp2_with fail
        refine LDv.out.mono ?_
        rintro e w4 ⟨v4, rfl, hs4, q4⟩
        have S4 := Lib.hid (S3.out.belowB q4 HB2.out (fun k hk => by have := HFL.out k hk; have := HB2.out; omega))
        have V4 : Hid (StepsAt w4 w2.heap.size v4 (opk P d m (i + 1))) := by unfold Hid; rw [OY.out]; exact hs4
        have Z4 : Hid (w2.heap.size ≤ w4.heap.size) := Nat.le_trans Z3.out q4.size
        clear hs4 q4 LDv
        go_wp2
        go_roundw
        case rel => first | exact ⟨i + 1, hlt, by go_num, V4, S4, Z4⟩ | ((repeat apply Exists.intro); refine ⟨?_, rfl⟩; exact ⟨i + 1, hlt, by go_num, V4, S4, Z4⟩)
        case measure => simp [intOf]; omega
      | false =>
        rw [ht] at TD
        have ON := Lib.hid (opk_no (P := P) (d := d) (k := i) (.inl ht))
        clear ht
        go_wp2_with fail
        refine TD.out.mono ?_
        rintro e w' ⟨rfl, rfl⟩
        go_wp2
        go_roundw
        case rel => first | exact ⟨i + 1, hlt, by go_num, by rw [ON.out]; exact ho, hS, hz⟩ | ((repeat apply Exists.intro); refine ⟨?_, rfl⟩; exact ⟨i + 1, hlt, by go_num, by rw [ON.out]; exact ho, hS, hz⟩)
        case measure => simp [intOf]; omega
    · have hiP : i = P := by omega
      subst hiP
      have LK := Lib.hid (opk_len i d m i)
      have LZ := Lib.hid (opk_len_zero (P := i) (k := i) (d := d) (m := m))
      have OE : Hid (openK i d m = if opL i m i = [] then [] else opk i d m i ++ [flushS, (0, Dk.sector0), flushS]) := by
        unfold Hid openK
        rw [opL_ge (m := m) hP, opk_ge (d := d) (m := m) hP]
        split
        · rfl
        · simp only [List.append_assoc, List.cons_append, List.nil_append]
      have SZ : Hid (∀ x ∈ opk i d m i ++ [flushS, (0, Dk.sector0), flushS], x.2.size ≤ 100000) := fun x hx => by
        simp only [List.mem_append, List.mem_cons, List.not_mem_nil, or_false] at hx
        rcases hx with hx | rfl | rfl | rfl
        · have hc := opk_mem HS.out hx
          rcases hc.1 with h | ⟨_, h⟩
          · have := hc.2; omega
          · omega
        · exact Nat.zero_le _
        · show Dk.sector0.size ≤ _
          rw [show Dk.sector0.size = 256 from Dk.rep_size 256 0]; decide
        · exact Nat.zero_le _
      generalize opk i d m i = L at ho LK LZ OE SZ
      obtain ⟨b0, b1, b2, b3, b4⟩ := hS.out.box.cells
      obtain ⟨A3, c3, rfl⟩ := own_slice ho.out
      by_cases hnil : opL i m i = []
      · rw [if_pos hnil] at OE
        have hL0 : L.length = 0 := LZ.out.2 hnil
        rw [hL0]
        have r1 := hS.out.res
        have f0 := blk_free r1 0; have f1 := blk_free r1 1; have f2 := blk_free r1 2; have f3 := blk_free r1 3; have f4 := blk_free r1 4
        have z0 := blk_cell r1 0; have z1 := blk_cell r1 1; have z2 := blk_cell r1 2; have z3 := blk_cell r1 3; have z4 := blk_cell r1 4
        simp at z0 z1 z2 z3 z4
        clear hnil r1
        go_wp2
        refine bodyPost_ret (ret_ref rfl _ rfl (set5_blk hS.out.res)) rfl ?_
        exact ⟨F, _, _, by rw [← HMM.out, OE.out]; rfl, by rw [← HMM.out, OE.out]; exact hS.out.done HFL.out⟩
      · rw [if_neg hnil] at OE
        have hL1 : (L.length == 0) = false := by rw [beq_eq_false_iff_ne]; exact fun h => hnil (LZ.out.1 h)
        have hL2 : ((L.length : Int) == 0) = false := by rw [beq_eq_false_iff_ne]; have h0 : L.length ≠ 0 := (fun h => hnil (LZ.out.1 h)); omega
        have MZ0 : Hid (Calls Try.prog 57 #[.slice none 0 0] wr fun e w' => e = .returned (.string Dk.sector0) ∧ Below wr.heap.size wr w') := by
          have := rmark_any wr none 0 [] (fun h => by simp at h) (by decide) (fun x hx => by cases hx) List.Pairwise.nil [] (fun j => rfl) (fun x hx => by cases hx)
          rw [mkB_nil] at this
          exact this
        clear hnil
        go_wp2_with fail
        refine MZ0.out.mono ?_
        rintro e w4 ⟨rfl, q4⟩
        have S4 := Lib.hid (hS.out.below q4)
        have V4 := Lib.hid (ho.out.below q4)
        have Z4 : Hid (w2.heap.size ≤ w4.heap.size) := Nat.le_trans hz.out q4.size
        have hlen : L.length ≤ 1000 := by have := LK.out; omega
        clear q4 MZ0 b0 b1 b2 b3 b4 ho hS
        go_wp2_with (at_builtin; refine wpList_append_own_at _ rfl (.tmp 65) (.tmp 70) 65 rfl w2.heap.size 99 i0 _ 2 24 Try.underlying65 hi0 hz0 hz1 hz2 rfl (by decide) _ L.length (wcells L) rfl (World.ownsRow.alloc V4.out _) ⟨w4.heap.size, 0, none⟩ 3 3 (wcells [flushS, (0, Dk.sector0), flushS]) rfl rfl (new_at _ _ _) (by simp [wcells, Value.oneCell', flushS]) (by unfold maxLen; omega) (by omega) (by have := Z4.out; simp; omega) ?_)
        intro v5 w5 ho5 hg5 _ _
        have B5 : Below w2.heap.size w4 w5 := ((Below.refl w2.heap.size w4).alloc Z4.out _).grown hg5 (Nat.le_trans Z4.out (by simp)) (fun j hj => (V4.out.lt j hj).1)
        have S5 := Lib.hid (S4.out.belowB B5 HB2.out (fun k hk => by have := HFL.out k hk; have := HB2.out; omega))
        have V5 : StepsAt w5 w2.heap.size v5 (L ++ [flushS, (0, Dk.sector0), flushS]) := by
          unfold StepsAt
          rw [wcells_append, List.length_append]
          exact ho5
        have hl3 : (L ++ [flushS, (0, Dk.sector0), flushS]).length = L.length + 3 := by rw [List.length_append]; rfl
        have hfw : Fw (L ++ [flushS, (0, Dk.sector0), flushS]).length d := FW.out.mono (by rw [hl3]; have := LK.out; omega)
        have RN := Lib.hid (rrun_any w5 F d _ _ S5.out.ref w2.heap.size v5 _ V5 (by rw [hl3]; omega) hfw SZ.out)
        rw [← OE.out] at RN
        obtain ⟨r, hr⟩ : ∃ r, r = run d (openK i d m) := ⟨_, rfl⟩
        rw [← hr] at RN
        have HR := Lib.hid hr
        unfold refV at RN
        obtain ⟨b0, b1, b2, b3, b4⟩ := S5.out.box.cells
        clear ho5 hg5 B5 V5 V4 S4 hr hl3 hfw
        go_wp2_with fail
        refine RN.out.mono ?_
        rintro e w6 ⟨F6, vl6, vw6, rfl, t6⟩
        obtain ⟨A6, c6, rfl⟩ := own_slice t6.has.own
        obtain ⟨A7, c7, rfl⟩ := own_slice t6.has.ownW
        have r1 := keepB t6.bel S5.out.res
        have R1 := Lib.hid r1
        have f0 := blk_free r1 0; have f1 := blk_free r1 1; have f2 := blk_free r1 2; have f3 := blk_free r1 3; have f4 := blk_free r1 4
        have z0 := blk_cell r1 0; have z1 := blk_cell r1 1; have z2 := blk_cell r1 2; have z3 := blk_cell r1 3; have z4 := blk_cell r1 4
        simp at z0 z1 z2 z3 z4
        have T6 := Lib.hid t6
        have Z5 : Hid (w.heap.size + 2 ≤ w5.heap.size) := by have := lt_of_block S5.out.res; unfold Hid; omega
        clear r1 t6 RN b0 b1 b2 b3 b4
        go_wp2
        refine bodyPost_ret (ret_ref rfl _ rfl (set5_blk R1.out)) rfl ?_
        refine ⟨F6, _, _, by rw [← HMM.out, ← HR.out]; rfl, ?_⟩
        rw [← HMM.out, ← HR.out]
        exact RTo.after HFL.out S5.out.bel Z5.out T6.out (set5_touch (Touch.refl _ _) (.inr rfl))
end Go.Proofs.Ytpaabfadniakoaa
/- JpH: the law's same: a disk has what the document's has. -/
set_option linter.unusedVariables false
set_option linter.unusedSimpArgs false
namespace Go.Proofs.Ytpaabfadniakoaa
open Go.RowKit

set_option maxHeartbeats 3200000 in
set_option maxRecDepth 100000 in
theorem jsame_any (w : World) (F G : Nat → Prop) (g : Nat) (d : Dk) (vl vw : Value) (h : HasDisk w F g d) (hr : RefAt w G d vl vw) (hm : d.waits.length < 9223372036854775807) :
    Calls Try.prog 35 #[.pointer (some ⟨g, 0, none⟩), refV d vl vw] w fun e w' => e = .returned (.bool true) ∧ Below w.heap.size w w' := by
  have H := Lib.hid h; have HR := Lib.hid hr
  have HLEN : d.l.length ≤ 2048 := hr.ok.most
  have RD : Hid (∀ W, Below w.heap.size w W → ∀ i : Int, Calls Try.prog 60 #[refV d vl vw, .int .i64 i] W fun e w' => e = .returned (.tuple #[.string (d.read i).1, .int .i64 (d.read i).2]) ∧ Below W.heap.size W w') := fun W hb i => rread_any W G d vl vw (hr.below hb) i hm
  have RH : Hid (∀ W, Below w.heap.size w W → ∀ i : Int, Calls Try.prog 40 #[.pointer (some ⟨g, 0, none⟩), .int .i64 i] W fun e w' => e = .returned (.tuple #[.string (d.read i).1, .int .i64 (d.read i).2]) ∧ Below W.heap.size W w') := fun W hb i => read_h (h.below hb) i hm
  obtain ⟨A2, c2, rfl⟩ := own_slice hr.own
  obtain ⟨A, c, rfl⟩ := own_slice hr.ownW
  obtain ⟨W0, hW0⟩ : ∃ W0, W0 = w.alloc (.cells #[.slice A2 d.l.length c2, .slice A d.waits.length c, .int .i64 d.fuse, .int .i64 d.writes, .bool d.down] 57) := ⟨_, rfl⟩
  have X0 : Hid (BxD W0.drew w.heap.size d (.slice A2 d.l.length c2) (.slice A d.waits.length c)) := by rw [hW0]; exact blk_new w _
  have B0 : Hid (Below w.heap.size w W0.drew) := by rw [hW0]; exact ((Below.refl _ w).alloc (Nat.le_refl _) _).drew
  have UP := Lib.hid (up_h (h.below B0.out))
  have WT := Lib.hid (waits_h (h.below B0.out))
  have WR := Lib.hid (writes_h (h.below B0.out))
  obtain ⟨b0, b1, b2, b3, b4⟩ := X0.out.cells
  have dup : ((!d.down) == d.down) = false := by cases d.down <;> rfl
  have dw1 : (d.waits.length != d.waits.length) = false := by simp
  have dw2 : ((d.waits.length : Int) != (d.waits.length : Int)) = false := by simp
  have dw3 : (d.writes != d.writes) = false := by simp
  clear h hr
  unfold refV at RD ⊢
  go_enter Try.func35, Try.ntmps35
  go_wp2_with fail
  rw [← hW0]
  clear hW0
  refine wp_region_flag (fun w' => w'.cell? ⟨w.heap.size, 4, none⟩ = some (.bool d.down) ∧ w'.cell? ⟨w.heap.size, 1, none⟩ = some (.slice A d.waits.length c) ∧ w'.cell? ⟨w.heap.size, 3, none⟩ = some (.int .i64 d.writes)) [(0, 1), (2, 1), (3, 2), (1, 0), (4, 1), (5, 1), (6, 1), (8, 1), (9, 2), (10, 1), (7, 0), (11, 1), (12, 1), (13, 1), (14, 1), (16, 1), (17, 2), (15, 0), (18, 1), (19, 1)] (by kernel_rfl) (by kernel_rfl) ⟨b4, b1, b3⟩ ?_
  simp only [ordered, List.map_cons, List.map_nil, List.getD_cons_zero, List.getD_cons_succ]
  repeat (refine wpF_dry (fun K hK => ?_); go_simp; refine hK _ ?_; clear hK K)
  refine wpF_read (.bool d.down) rfl (fun w' hS => by obtain ⟨s1, s2, s3⟩ := hS; go_simp) (fun K hK => ?_)
  go_simp
  refine hK _ ?_
  clear hK K
  refine wpF_do ?_
  go_wp2_with fail
  refine UP.out.mono ?_
  rintro e w' ⟨rfl, rfl⟩
  go_wp2_with fail
  refine ⟨⟨b4, b1, b3⟩, ?_⟩
  repeat (refine wpF_dry (fun K hK => ?_); go_simp; refine hK _ ?_; clear hK K)
  refine wpF_read (.slice A d.waits.length c) rfl (fun w' hS => by obtain ⟨s1, s2, s3⟩ := hS; go_simp) (fun K hK => ?_)
  go_simp
  refine hK _ ?_
  clear hK K
  repeat (refine wpF_dry (fun K hK => ?_); go_simp; refine hK _ ?_; clear hK K)
  refine wpF_do ?_
  go_wp2_with fail
  refine WT.out.mono ?_
  rintro e w' ⟨rfl, rfl⟩
  go_wp2_with fail
  refine ⟨⟨b4, b1, b3⟩, ?_⟩
  repeat (refine wpF_dry (fun K hK => ?_); go_simp; refine hK _ ?_; clear hK K)
  refine wpF_read (.int .i64 d.writes) rfl (fun w' hS => by obtain ⟨s1, s2, s3⟩ := hS; go_simp) (fun K hK => ?_)
  go_simp
  refine hK _ ?_
  clear hK K
  refine wpF_do ?_
  go_wp2_with fail
  refine WR.out.mono ?_
  rintro e w' ⟨rfl, rfl⟩
  go_wp2_with fail
  refine ⟨⟨b4, b1, b3⟩, ?_⟩
  repeat (refine wpF_dry (fun K hK => ?_); go_simp; refine hK _ ?_; clear hK K)
  refine wpF_nil ?_
  clear UP WT WR b0 b1 b2 b3 b4
  generalize W0.drew = W1 at X0 B0 ⊢
  go_wp2_with fail
  go_loopw [5] (fun iv wr => ∃ i : Nat, i ≤ d.l.length ∧ iv = .int .i64 i ∧ Hid (BxD wr w.heap.size d (.slice A2 d.l.length c2) (.slice A d.waits.length c)) ∧ Hid (Below w.heap.size w wr)) (fun iv _ => d.l.length - (intOf iv).toNat)
  case atStart => exact ⟨0, Nat.zero_le _, rfl, X0, B0⟩
  case round =>
    obtain ⟨i, hi, rfl, hx, hb⟩ := hrel
    clear X0 B0
    obtain ⟨b0, b1, b2, b3, b4⟩ := hx.out.cells
    by_cases hlt : i < d.l.length
    · have R1 := Lib.hid (RH.out wr hb.out (i : Int))
      have R2 := Lib.hid (fun W (hW : Below wr.heap.size wr W) => RD.out W (hb.out.trans (hW.mono hb.out.size)) (i : Int))
      generalize d.read (i : Int) = r at R1 R2
      obtain ⟨t, x⟩ := r
      simp only at R1 R2
      have hne : (t.toList != t.toList) = false := by simp
      go_wp2_with fail
      refine R1.out.mono ?_
      rintro e w2 ⟨rfl, q2⟩
      have X2 := hx.out.below q2
      have B2 : Hid (Below w.heap.size w w2) := hb.out.trans (q2.mono hb.out.size)
      have R3 := Lib.hid (R2.out w2 q2)
      clear b0 b1 b2 b3 b4
      obtain ⟨b0, b1, b2, b3, b4⟩ := X2.cells
      have X2h := Lib.hid X2
      clear X2 q2 R1 R2
      go_wp2_with fail
      refine R3.out.mono ?_
      rintro e w3 ⟨rfl, q3⟩
      have X3 := Lib.hid (X2h.out.below q3)
      have B3 : Hid (Below w.heap.size w w3) := B2.out.trans (q3.mono B2.out.size)
      clear q3 R3 b0 b1 b2 b3 b4
      go_wp2
      go_roundw
      case rel => first | exact ⟨i + 1, hlt, by go_num, X3, B3⟩ | ((repeat apply Exists.intro); refine ⟨?_, rfl⟩; exact ⟨i + 1, hlt, by go_num, X3, B3⟩)
      case measure => simp [intOf]; omega
    · have hil : i = d.l.length := by omega
      subst hil
      go_wp2
      go_ret
      exact ⟨rfl, hb.out⟩
end Go.Proofs.Ytpaabfadniakoaa
/- JnZ: arguments laid open: slices of bools, slices of puts. -/
set_option linter.unusedVariables false
set_option linter.unusedSimpArgs false
namespace Go.Proofs.Ytpaabfadniakoaa
open Go.RowKit Go.ChangeShapes Go.WideShapes Go.ChangeAt Go.Deep

section
variable {H : Type} {enc : TypeId × Value → H} {W : World} {base : Nat} {sp : Nat → Bool} {held : Bool}
theorem plain_addr {w : World} {a : Addr} {v : Value} (h : w.cell? (a.add 0) = some v) : a = ⟨a.block, a.off, none⟩ := by
  have e : a.add 0 = a := by unfold Addr.add; simp
  rw [e] at h
  cases a with
  | mk b o s =>
    cases s with
    | none => rfl
    | some x =>
      simp only [World.cell?] at h
      split at h <;> simp at h
set_option maxRecDepth 100000 in
theorem cells_bools {w : World} {fuel : Nat} {v : Value} {x : DataW H × List MemPlace} (h : DataW.trod enc Try.prog w base (fun _ => true) held fuel 50 [v] = some x) : ∃ A n c l, v = .slice A n c ∧ n = l.length ∧ RdB w v l := by
  rcases open_slice1 Try.underlying50 (by kernel_rfl) h with ⟨hcs, _⟩ | ⟨a, len, cap, m, n, V, D, Pl, hcs, _, hl, hm, hmm, _, hx⟩
  · simp at hcs
    subst hcs
    exact ⟨none, 0, 0, [], rfl, rfl, rfl, none, 0, rfl, Nat.le_refl _, by decide, fun h => by simp at h⟩
  · simp at hcs hmm
    subst hcs
    subst hmm
    obtain ⟨f, hf⟩ := choose_lt (n := m) (p := fun i b => V i = .bool b) (fun i hi => by
      obtain ⟨_, h2⟩ := hx i hi
      obtain ⟨b, hb, _⟩ := DataW.trod_bool Try.underlying4 h2
      exact ⟨b, by simpa using hb⟩)
    refine ⟨_, len, m, (List.range len).map f, rfl, by simp, by simp, some a, m, by simp, by simpa using hl, by simp [maxLen] at hm ⊢; omega, fun hp => ⟨a, rfl, fun j u hu => ?_⟩⟩
    have hj : j < len := by
      have := (List.getElem?_eq_some_iff.1 hu).1
      simpa using this
    rw [(hx j (by omega)).1, hf j (by omega)]
    simpa [hj] using hu
set_option maxRecDepth 100000 in
theorem open_bools {v : Value} {d : DataW H} {ps : List MemPlace} {r : World} (hv : Value.okWide Try.prog r .any base 50 v) (h : DataW.Trod enc Try.prog W 0 (fun _ => true) held 50 v d ps) : ∃ l, RdB W v l := by
  obtain ⟨a0, len, cap, rfl⟩ := okWide_slice Try.underlying50 hv
  obtain ⟨fuel, hf⟩ := h
  obtain ⟨A, n, c, l, e, _, hr⟩ := cells_bools (v := .slice a0 len cap) (by simpa [Value.cells] using hf)
  exact ⟨l, hr⟩

set_option maxRecDepth 100000 in
/-- A put out of its cells. -/
theorem cells_put {w : World} {fuel : Nat} {cs : List Value} {x : DataW H × List MemPlace} (h : DataW.trod enc Try.prog w base (fun _ => true) held fuel 96 cs = some x) :
    ∃ o : PutM, cs = [.int .i64 o.1, .int .i64 o.2.1, .int .u8 (o.2.2.toNat : Int)] := by
  obtain ⟨xs, n, _, _, hlen, hxs, hf⟩ := DataW.trod_struct Try.underlying96 h
  have c5 : Try.prog.cellsOf 96 = 3 := by kernel_rfl
  have ci : Try.prog.cellsOf 3 = 1 := by kernel_rfl
  have cu : Try.prog.cellsOf 5 = 1 := by kernel_rfl
  rw [c5] at hlen
  match xs, hxs, cs, hlen with
  | [y0, y1, y2], _, [a0, a1, a2], _ =>
    have h0 : DataW.trod enc Try.prog w base (fun _ => true) held n 3 (([a0, a1, a2].drop 0).take (Try.prog.cellsOf 3)) = some y0 := hf 0 _ rfl
    have h1 : DataW.trod enc Try.prog w base (fun _ => true) held n 3 (([a0, a1, a2].drop 1).take (Try.prog.cellsOf 3)) = some y1 := hf 1 _ rfl
    have h2 : DataW.trod enc Try.prog w base (fun _ => true) held n 5 (([a0, a1, a2].drop 2).take (Try.prog.cellsOf 5)) = some y2 := hf 2 _ rfl
    rw [ci] at h0 h1
    rw [cu] at h2
    simp only [List.drop_zero, List.drop_succ_cons, List.take_succ_cons, List.take_zero, List.getElem?_cons_zero, List.getElem?_cons_succ] at h0 h1 h2
    obtain ⟨p, e0, _, _⟩ := DataW.trod_int Try.underlying3 h0
    obtain ⟨q, e1, _, _⟩ := DataW.trod_int Try.underlying3 h1
    obtain ⟨f, e2, _, wf⟩ := DataW.trod_int Try.underlying5 h2
    simp only [List.cons.injEq, and_true] at e0 e1 e2
    subst e0 e1 e2
    have hf2 : 0 ≤ f ∧ f ≤ 255 := by simp [Lit.wf, IntKind.min, IntKind.max, IntKind.signed, IntKind.bits] at wf; omega
    exact ⟨(p, q, UInt8.ofNat f.toNat), by simp; omega⟩
set_option maxRecDepth 100000 in
theorem cells_puts {fuel : Nat} {v : Value} {x : DataW H × List MemPlace} (hf : DataW.trod enc Try.prog W base (fun _ => true) held fuel 36 [v] = some x) : ∃ l, RdPutV W v l := by
  have c5 : Try.prog.cellsOf 96 = 3 := by kernel_rfl
  rcases open_slice Try.underlying36 hf with ⟨hcs, _⟩ | ⟨a, len, cap, m, n, D, Pl, hcs, _, hl, hm, hmm, _, hx⟩
  · simp at hcs
    subst hcs
    exact ⟨[], none, 0, rfl, Nat.le_refl _, by decide, fun h => by simp at h⟩
  · simp at hcs hmm
    subst hcs
    subst hmm
    obtain ⟨f, hf⟩ := @choose_lt PutM ⟨(0, 0, 0)⟩ m (fun i o => W.cell? (a.add (i * 3)) = some (.int .i64 o.1) ∧ W.cell? (a.add (i * 3 + 1)) = some (.int .i64 o.2.1) ∧ W.cell? (a.add (i * 3 + 2)) = some (.int .u8 (o.2.2.toNat : Int))) (fun i hi => by
      obtain ⟨cs', h1, h2⟩ := hx i hi
      obtain ⟨o, rfl⟩ := cells_put h2
      rw [c5] at h1
      obtain ⟨_, _, hc⟩ := World.cells?_some h1
      have g0 := hc 0 (by decide)
      have g1 := hc 1 (by decide)
      have g2 := hc 2 (by decide)
      rw [Go.Deep.add_add] at g0 g1 g2
      exact ⟨o, g0, g1, g2⟩)
    refine ⟨(List.range len).map f, some a, m, by simp, by simpa using hl, by simp [maxLen] at hm; omega, fun hp => ?_⟩
    simp at hp
    obtain ⟨z, _⟩ := hf 0 (by omega)
    have ha := plain_addr (by simpa using z)
    refine ⟨a.block, a.off, by rw [← ha], fun i hi => ?_⟩
    simp at hi
    obtain ⟨g0, g1, g2⟩ := hf i (by omega)
    have := And.intro g0 (And.intro g1 g2)
    rw [ha] at this
    simp only [Addr.add_lit, ← Nat.add_assoc] at this
    simpa using this
set_option maxRecDepth 100000 in
theorem open_puts {v : Value} {d : DataW H} {ps : List MemPlace} {r : World} (hv : Value.okWide Try.prog r .any base 36 v) (h : DataW.Trod enc Try.prog W 0 (fun _ => true) held 36 v d ps) : ∃ l, RdPutV W v l := by
  obtain ⟨a0, len0, cap0, rfl⟩ := okWide_slice Try.underlying36 hv
  obtain ⟨fuel, hf⟩ := h
  exact cells_puts (W := W) (by simpa [Value.cells] using hf)
end
end Go.Proofs.Ytpaabfadniakoaa
