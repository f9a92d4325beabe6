/- PlF: the walk of extent's Taken (written by gen_taken.py). -/
import Derived.Test.YthloinmnojlleaaPlE
import Derived.Deep.Cut
import Derived.Deep.CutRange
import Derived.Deep.DeepCutAuto
set_option linter.unusedVariables false
set_option linter.unusedSimpArgs false
namespace Go.Proofs.Ythloinmnojlleaa
open Go.RowKit

/-- What lies ahead of some extents. -/
def tkL : Nat → List (Nat × Nat) → List (Nat × Nat)
  | _, [] => []
  | e, h :: l => (if e < h.1 then [(e, h.1 - e)] else []) ++ tkL (h.1 + h.2) l
theorem tkL_cons (e : Nat) (h : Nat × Nat) (l : List (Nat × Nat)) : tkL e (h :: l) = (if e < h.1 then [(e, h.1 - e)] else []) ++ tkL (h.1 + h.2) l := by rw [tkL]
theorem tkL_taken (N : Nat) : ∀ (e : Nat) (H : List (Nat × Nat)), tkL e (H ++ [(N, 0)]) = takenL N e H
  | e, [] => by rw [List.nil_append, tkL_cons, tkL, takenL_nil]; simp
  | e, h :: H => by rw [List.cons_append, tkL_cons, takenL_cons, tkL_taken N _ H]
set_option maxHeartbeats 3200000 in
set_option maxRecDepth 100000 in
theorem taken_any (w : World) (F : Nat → Prop) (g : Nat) (a : Ar) (v : Value) (h : IsAr w F g a v) :
    Calls Try.prog 27 #[.pointer (some ⟨g, 0, none⟩)] w fun e w' => ∃ v', e = .returned v' ∧ w'.ownsRow w.heap.size 30 2 v' (takenL a.size 0 a.holes).length (sp (takenL a.size 0 a.holes)) ∧ Below w.heap.size w w' := by
  have H := Lib.hid h
  have few := h.ok.few
  have hmost := h.ok.most
  obtain ⟨c0, c1, _⟩ := h.cells
  obtain ⟨A, cc, rfl⟩ := own_slice h.own
  obtain ⟨i0, hi0, hz0, hz1, hz2⟩ := infoS
  clear h
  go_enter Try.func27, Try.ntmps27
  go_upto_region 5 with fail
  go_cut [21, 22, 23] (fun vv nn ii wx => nn = .int .i64 (a.holes.length + 1 : Nat) ∧ ii = .int .i64 0 ∧ Hid (wx.ownsRow w.heap.size 30 2 vv (a.holes.length + 1) (sp (a.holes ++ [(a.size, 0)]))) ∧ Hid (Below w.heap.size w wx))
  case first =>
    have c0 := cell_below (Below.refl _ w).drew c0; have c1 := cell_below (Below.refl _ w).drew c1
    refine wp_region_plan (fun w' => w'.cell? ⟨g, 0, none⟩ = some (.int .i64 (a.size : Nat)) ∧ w'.cell? ⟨g, 1, none⟩ = some (.slice A a.holes.length cc)) (.op 0 1 (.op 1 1 (.op 2 1 (.op 5 1 (.op 6 1 (.op 7 1 (.op 13 1 (.op 3 2 (.op 8 2 (.op 9 1 (.two 4 (.op 10 0 (.op 11 0 (.op 12 1 .done))) 10 (.op 4 0 (.op 11 0 (.op 12 1 .done)))))))))))))) (by kernel_rfl) (by kernel_rfl) ⟨c0, c1⟩ ?_
    repeat (refine wpP_dry (fun K hK => ?_); simp only [List.getD_cons_zero, List.getD_cons_succ]; go_simp; refine hK _ ?_; clear hK K)
    refine wpP_read (.slice A a.holes.length cc) rfl (fun w' hS => by obtain ⟨s1, s2⟩ := hS; simp only [List.getD_cons_zero, List.getD_cons_succ]; go_simp) (fun K hK => ?_)
    simp only [List.getD_cons_zero, List.getD_cons_succ]
    go_simp
    refine hK _ ?_
    clear hK K
    refine wpP_read (.int .i64 (a.size : Nat)) rfl (fun w' hS => by obtain ⟨s1, s2⟩ := hS; simp only [List.getD_cons_zero, List.getD_cons_succ]; go_simp) (fun K hK => ?_)
    simp only [List.getD_cons_zero, List.getD_cons_succ]
    go_simp
    refine hK _ ?_
    clear hK K
    repeat (refine wpP_dry (fun K hK => ?_); simp only [List.getD_cons_zero, List.getD_cons_succ]; go_simp; refine hK _ ?_; clear hK K)
    refine wpP_two ?_ ?_
    · simp only [List.getD_cons_zero, List.getD_cons_succ]
      go_wp2_with fail
      refine (clone_spans w.drew _ a.holes (own_touch H.out.own (Touch.of_below (Below.refl _ w).drew : Touch (fun _ => False) w _) (fun _ _ x => x)) few).mono ?_
      rintro e w1 ⟨v1, rfl, ho, b1⟩
      obtain ⟨A1, c1', rfl⟩ := own_slice ho
      have B1 : Hid (Below w.heap.size w w1) := (Below.refl _ w).drew.trans b1
      have c0 := cell_below b1 c0; have c1 := cell_below b1 c1
      have HO : Hid (w1.ownsRow w.heap.size 30 2 (.slice A1 a.holes.length c1') a.holes.length (sp a.holes)) := ho
      clear ho b1
      go_wp2_with fail
      refine ⟨⟨c0, c1⟩, ?_⟩
      refine wpP_do ?_
      simp only [List.getD_cons_zero, List.getD_cons_succ]
      have c0' := cell_below ((Below.refl _ w1).alloc (Nat.le_refl _) (.cells #[.int .i64 (a.size : Nat), .int .i64 (0 : Nat)] 30)) c0; have c1'' := cell_below ((Below.refl _ w1).alloc (Nat.le_refl _) (.cells #[.int .i64 (a.size : Nat), .int .i64 (0 : Nat)] 30)) c1
      go_wp2_with fail
      refine ⟨⟨c0', c1''⟩, ?_⟩
      have BA : Hid (Below w.heap.size w (w1.alloc (.cells #[.int .i64 (a.size : Nat), .int .i64 (0 : Nat)] 30))) := B1.out.alloc B1.out.size _
      have HOA : Hid ((w1.alloc (.cells #[.int .i64 (a.size : Nat), .int .i64 (0 : Nat)] 30)).ownsRow w.heap.size 30 2 (.slice A1 a.holes.length c1') a.holes.length (sp a.holes)) := own_touch HO.out (Touch.of_below ((Below.refl _ w1).alloc (Nat.le_refl _) _) : Touch (fun _ => False) w1 _) (fun _ _ x => x)
      have HSRC := Lib.hid (rdsp_lit w1 a.size 0 30)
      clear HO c0 c1 c0' c1''
      refine wpP_do ?_
      simp only [List.getD_cons_zero, List.getD_cons_succ]
      go_wp2_with (at_builtin; refine wpList_append_own_at _ rfl (.tmp 14) (.tmp 20) 28 rfl w.heap.size 30 i0 _ 2 16 Try.underlying28 hi0 hz0 hz1 hz2 rfl (by decide) _ a.holes.length (sp a.holes) rfl HOA.out ⟨w1.heap.size, 0, none⟩ 1 1 (sp [(a.size, 0)]) rfl rfl HSRC.out (sp_one _) (by unfold maxLen; omega) (by omega) (by have := BA.out.size; first | exact this | simpa using this) ?_)
      intro v5 w5 ho5 hg5 _ hat5
      obtain ⟨A5, c5, rfl⟩ := own_slice ho5
      have B5 : Hid (Below w.heap.size w w5) := BA.out.grown hg5 BA.out.size (fun q e => (World.ownsRow.lt HOA.out q e).1)
      have c0 := cell_keep (S := fun k => w.heap.size ≤ k) ⟨B5.out.os, B5.out.tape, B5.out.output, B5.out.size, fun k hk _ => B5.out.block k hk⟩ H.out.cells.1 (by have := blk_lt H.out.blk; show ¬ w.heap.size ≤ g; omega)
      have c1 := cell_keep (S := fun k => w.heap.size ≤ k) ⟨B5.out.os, B5.out.tape, B5.out.output, B5.out.size, fun k hk _ => B5.out.block k hk⟩ H.out.cells.2.1 (by have := blk_lt H.out.blk; show ¬ w.heap.size ≤ g; omega)
      have O5 : Hid (w5.ownsRow w.heap.size 30 2 (.slice A5 (a.holes.length + 1) c5) (a.holes.length + 1) (sp (a.holes ++ [(a.size, 0)]))) := by unfold Hid; rw [sp_append]; exact ho5
      clear ho5 hg5 hat5
      go_wp2_with fail
      refine ⟨⟨c0, c1⟩, ?_⟩
      repeat (refine wpP_dry (fun K hK => ?_); simp only [List.getD_cons_zero, List.getD_cons_succ]; go_simp; refine hK _ ?_; clear hK K)
      refine wpP_done ?_
      go_wp2_with fail
      go_meet
      exact ⟨by first | rfl | simp, rfl, O5, B5⟩
    · simp only [List.getD_cons_zero, List.getD_cons_succ]
      have c0' := cell_below ((Below.refl _ w.drew).alloc (Nat.le_refl _) (.cells #[.int .i64 (a.size : Nat), .int .i64 (0 : Nat)] 30)) c0; have c1'' := cell_below ((Below.refl _ w.drew).alloc (Nat.le_refl _) (.cells #[.int .i64 (a.size : Nat), .int .i64 (0 : Nat)] 30)) c1
      go_wp2_with fail
      refine ⟨⟨c0', c1''⟩, ?_⟩
      have B1 : Hid (Below w.heap.size w (w.drew.alloc (.cells #[.int .i64 (a.size : Nat), .int .i64 (0 : Nat)] 30))) := (Below.refl _ w).drew.alloc (Nat.le_refl _) _
      refine wpP_do ?_
      simp only [List.getD_cons_zero, List.getD_cons_succ]
      go_wp2_with fail
      refine (clone_spans (w.drew.alloc (.cells #[.int .i64 (a.size : Nat), .int .i64 (0 : Nat)] 30)) _ a.holes (own_touch H.out.own (Touch.of_below B1.out : Touch (fun _ => False) w _) (fun _ _ x => x)) few).mono ?_
      rintro e w1 ⟨v1, rfl, ho, b1⟩
      obtain ⟨A1, c1', rfl⟩ := own_slice ho
      have BA : Hid (Below w.heap.size w w1) := B1.out.trans (b1.mono B1.out.size)
      replace c0' := cell_below b1 c0'; replace c1'' := cell_below b1 c1''
      have HOA : Hid (w1.ownsRow w.heap.size 30 2 (.slice A1 a.holes.length c1') a.holes.length (sp a.holes)) := own_base ho B1.out.size
      have HSRC : Hid (∀ j u, (sp [(a.size, 0)])[j]? = some u → w1.cell? ((⟨w.heap.size, 0, none⟩ : Addr).add j) = some u) := fun j u hu => cell_below b1 (rdsp_lit w.drew a.size 0 30 j u hu)
      clear ho b1
      go_wp2_with fail
      refine ⟨⟨c0', c1''⟩, ?_⟩
      clear c0 c1 c0' c1''
      refine wpP_do ?_
      simp only [List.getD_cons_zero, List.getD_cons_succ]
      go_wp2_with (at_builtin; refine wpList_append_own_at _ rfl (.tmp 14) (.tmp 20) 28 rfl w.heap.size 30 i0 _ 2 16 Try.underlying28 hi0 hz0 hz1 hz2 rfl (by decide) _ a.holes.length (sp a.holes) rfl HOA.out ⟨w.heap.size, 0, none⟩ 1 1 (sp [(a.size, 0)]) rfl rfl HSRC.out (sp_one _) (by unfold maxLen; omega) (by omega) (by have := BA.out.size; first | exact this | simpa using this) ?_)
      intro v5 w5 ho5 hg5 _ hat5
      obtain ⟨A5, c5, rfl⟩ := own_slice ho5
      have B5 : Hid (Below w.heap.size w w5) := BA.out.grown hg5 BA.out.size (fun q e => (World.ownsRow.lt HOA.out q e).1)
      have c0 := cell_keep (S := fun k => w.heap.size ≤ k) ⟨B5.out.os, B5.out.tape, B5.out.output, B5.out.size, fun k hk _ => B5.out.block k hk⟩ H.out.cells.1 (by have := blk_lt H.out.blk; show ¬ w.heap.size ≤ g; omega)
      have c1 := cell_keep (S := fun k => w.heap.size ≤ k) ⟨B5.out.os, B5.out.tape, B5.out.output, B5.out.size, fun k hk _ => B5.out.block k hk⟩ H.out.cells.2.1 (by have := blk_lt H.out.blk; show ¬ w.heap.size ≤ g; omega)
      have O5 : Hid (w5.ownsRow w.heap.size 30 2 (.slice A5 (a.holes.length + 1) c5) (a.holes.length + 1) (sp (a.holes ++ [(a.size, 0)]))) := by unfold Hid; rw [sp_append]; exact ho5
      clear ho5 hg5 hat5
      go_wp2_with fail
      refine ⟨⟨c0, c1⟩, ?_⟩
      repeat (refine wpP_dry (fun K hK => ?_); simp only [List.getD_cons_zero, List.getD_cons_succ]; go_simp; refine hK _ ?_; clear hK K)
      refine wpP_done ?_
      go_wp2_with fail
      go_meet
      exact ⟨by first | rfl | simp, rfl, O5, B5⟩
  case rest =>
    obtain ⟨rfl, rfl, HO, BC⟩ := hcut
    obtain ⟨Ac, c3, rfl⟩ := own_slice HO.out
    clear c0 c1
    obtain ⟨L, hL⟩ : ∃ L, L = a.holes ++ [(a.size, 0)] := ⟨_, rfl⟩
    have hlen : L.length = a.holes.length + 1 := by rw [hL]; simp
    rw [← hL, ← hlen] at HO
    have HT : Hid (tkL 0 L = takenL a.size 0 a.holes) := by unfold Hid; rw [hL, tkL_taken]
    have HIN : Hid (∀ k (hk : k < L.length), (L[k]).1 + (L[k]).2 ≤ 1048576) := by
      intro k hk
      subst hL
      rw [List.getElem_append]
      split
      · rename_i h; have := (lies_get H.out.ok.lies k h).2; omega
      · simp; omega
    simp only [← hlen]
    clear hL
    generalize hcl : L.length = cl at HO hlen ⊢
    have HCL := Lib.hid hcl
    have hcl20 : cl ≤ 1048578 := by omega
    have HLEN := Lib.hid hlen
    clear hcl hlen
    go_wp2_with fail
    go_loopw [3, 4, 23] (fun ll aa ii wr => ∃ (k e : Nat) (M : List (Nat × Nat)), k ≤ cl ∧ ii = .int .i64 k ∧ aa = .int .i64 e ∧ e ≤ 1048576 ∧ M.length ≤ k ∧ Hid (tkL 0 L = M ++ tkL e (L.drop k)) ∧ Hid (wr.ownsRow w.heap.size 30 2 ll M.length (sp M)) ∧ Hid (wr.ownsRow w.heap.size 30 2 (.slice Ac cl c3) cl (sp L)) ∧ Hid (∀ j, (Value.slice Ac cl c3).ownBlock = some j → ll.ownBlock ≠ some j) ∧ Hid (Below w.heap.size w wr)) (fun _ _ ii _ => cl - (intOf ii).toNat)
    case atStart => exact ⟨0, 0, [], Nat.zero_le _, rfl, rfl, by omega, by simp, rfl, World.ownsRow_nil _ _ _ _, HO, (fun j _ e => by simp [Value.ownBlock] at e), BC⟩
    case round =>
      obtain ⟨k, e, M, hk, rfl, rfl, he, hM, HX, HM, HR, HD, BW⟩ := hrel
      clear HO BC
      obtain ⟨Am, cm, rfl⟩ := own_slice HM.out
      have hsz := BW.out.size
      by_cases hlt : k < cl
      · have hkL : k < L.length := by rw [HCL.out]; exact hlt
        have HR' := HR.out
        rw [← HCL.out] at HR'
        obtain ⟨g1, cc1, e1, _, _, hc⟩ := row_at HR' (by omega)
        rw [HCL.out] at e1
        injection e1 with e1 e2 e3
        subst e1 e3
        obtain ⟨z1, z2⟩ := hc k hkL
        have hin := HIN.out k hkL
        have hdrop : L.drop k = L[k] :: L.drop (k + 1) := (List.getElem_cons_drop hkL).symm
        rw [hdrop, tkL_cons] at HX
        generalize L[k] = x at z1 z2 HX hin
        clear hc e2 hdrop HR'
        have r0 := blk_new wr (.cells #[.int .i64 (x.1 : Nat), .int .i64 (x.2 : Nat)] 30)
        have k0 := blk_cell r0 0; have k1 := blk_cell r0 1
        simp only [List.getElem?_toArray, List.getElem?_cons_zero, List.getElem?_cons_succ] at k0 k1
        clear r0
        have BB : Hid (Below w.heap.size w (wr.alloc (.cells #[.int .i64 (x.1 : Nat), .int .i64 (x.2 : Nat)] 30))) := BW.out.alloc hsz _
        have HMB : Hid ((wr.alloc (.cells #[.int .i64 (x.1 : Nat), .int .i64 (x.2 : Nat)] 30)).ownsRow w.heap.size 30 2 (.slice Am M.length cm) M.length (sp M)) := own_touch HM.out (Touch.of_below ((Below.refl _ wr).alloc (Nat.le_refl _) _) : Touch (fun _ => False) wr _) (fun _ _ x => x)
        have HRB : Hid ((wr.alloc (.cells #[.int .i64 (x.1 : Nat), .int .i64 (x.2 : Nat)] 30)).ownsRow w.heap.size 30 2 (.slice (some ⟨g1, 0, none⟩) cl c3) cl (sp L)) := own_touch HR.out (Touch.of_below ((Below.refl _ wr).alloc (Nat.le_refl _) _) : Touch (fun _ => False) wr _) (fun _ _ x => x)
        obtain ⟨r, hr⟩ : ∃ r, r = x.1 + x.2 := ⟨_, rfl⟩
        have hr1 : (x.1 : Int) + (x.2 : Int) = (r : Int) := by omega
        have hr2 : IntKind.i64.wrap (r : Int) = (r : Int) := by rw [IntKind.wrap_i64]; omega
        rw [← hr] at HX
        have HRR := Lib.hid (And.intro hr hin)
        clear hr
        by_cases q : e < x.1
        · have d1 : decide (e < x.1) = true := by simpa using q
          rw [if_pos q, ← List.append_assoc] at HX
          obtain ⟨d, hd⟩ : ∃ d, d = x.1 - e := ⟨_, rfl⟩
          rw [← hd] at HX
          have hd1 : (x.1 : Int) - (e : Int) = (d : Int) := by omega
          have hd2 : IntKind.i64.wrap (d : Int) = (d : Int) := by rw [IntKind.wrap_i64]; omega
          obtain ⟨i0, hi0, hz0, hz1, hz2⟩ := infoS
          have HMC : Hid (((wr.alloc (.cells #[.int .i64 (x.1 : Nat), .int .i64 (x.2 : Nat)] 30)).alloc (.cells #[.int .i64 (e : Nat), .int .i64 (d : Nat)] 30)).ownsRow w.heap.size 30 2 (.slice Am M.length cm) M.length (sp M)) := own_touch HMB.out (Touch.of_below ((Below.refl _ _).alloc (Nat.le_refl _) _) : Touch (fun _ => False) _ _) (fun _ _ x => x)
          have HRC : Hid (((wr.alloc (.cells #[.int .i64 (x.1 : Nat), .int .i64 (x.2 : Nat)] 30)).alloc (.cells #[.int .i64 (e : Nat), .int .i64 (d : Nat)] 30)).ownsRow w.heap.size 30 2 (.slice (some ⟨g1, 0, none⟩) cl c3) cl (sp L)) := own_touch HRB.out (Touch.of_below ((Below.refl _ _).alloc (Nat.le_refl _) _) : Touch (fun _ => False) _ _) (fun _ _ x => x)
          have BC2 : Hid (Below w.heap.size w ((wr.alloc (.cells #[.int .i64 (x.1 : Nat), .int .i64 (x.2 : Nat)] 30)).alloc (.cells #[.int .i64 (e : Nat), .int .i64 (d : Nat)] 30))) := BB.out.alloc BB.out.size _
          have HSRC := rdsp_lit (wr.alloc (.cells #[.int .i64 (x.1 : Nat), .int .i64 (x.2 : Nat)] 30)) e d 30
          rw [World.size_alloc] at HSRC
          have HSRC := Lib.hid HSRC
          have rb := blk_alloc (blk_new wr (.cells #[.int .i64 (x.1 : Nat), .int .i64 (x.2 : Nat)] 30)) (.cells #[.int .i64 (e : Nat), .int .i64 (d : Nat)] 30)
          have RB := Lib.hid rb
          clear q hin hd rb
          go_wp2_with (at_builtin; refine wpList_append_own_at _ rfl (.tmp 31) (.tmp 38) 28 rfl w.heap.size 30 i0 _ 2 16 Try.underlying28 hi0 hz0 hz1 hz2 rfl (by decide) (.slice Am M.length cm) M.length (sp M) rfl HMC.out ⟨wr.heap.size + 1, 0, none⟩ 1 1 (sp [(e, d)]) rfl rfl HSRC.out (sp_one _) (by unfold maxLen; omega) (by omega) (by have := BC2.out.size; first | exact this | simpa using this) ?_)
          intro v5 w5 ho5 hg5 _ hat5
          obtain ⟨A5, c5, rfl⟩ := own_slice ho5
          have B5 : Hid (Below w.heap.size w w5) := BC2.out.grown hg5 BC2.out.size (fun q e => (World.ownsRow.lt HMC.out q e).1)
          have T5 : Touch (fun j => (Value.slice Am M.length cm).ownBlock = some j) ((wr.alloc (.cells #[.int .i64 (x.1 : Nat), .int .i64 (x.2 : Nat)] 30)).alloc (.cells #[.int .i64 (e : Nat), .int .i64 (d : Nat)] 30)) w5 := (Touch.refl _ _).grown hg5 (fun q e => .inl e)
          have HR5 : Hid (w5.ownsRow w.heap.size 30 2 (.slice (some ⟨g1, 0, none⟩) cl c3) cl (sp L)) := own_touch HRC.out T5 (fun j hj => HD.out j hj)
          have O5 : Hid (w5.ownsRow w.heap.size 30 2 (.slice A5 (M.length + 1) c5) (M ++ [(e, d)]).length (sp (M ++ [(e, d)]))) := by unfold Hid; rw [List.length_append, sp_append]; exact ho5
          have HD5 : Hid (∀ j, (Value.slice (some ⟨g1, 0, none⟩) cl c3).ownBlock = some j → (Value.slice A5 (M.length + 1) c5).ownBlock ≠ some j) := by
            intro j hj e5
            rcases hat5 with h | h
            · exact HD.out j hj (by rw [← h]; exact e5)
            · rw [h] at e5; have := (HR.out.lt j hj).2; injection e5 with e5; first | omega | (simp at e5; omega)
          have R5 := blk_touch T5 RB.out (by intro e5; have := (HM.out.lt _ e5).2; omega)
          have k0 := blk_cell R5 0; have k1 := blk_cell R5 1
          simp only [List.getElem?_toArray, List.getElem?_cons_zero, List.getElem?_cons_succ] at k0 k1
          clear ho5 hg5 hat5 T5 R5 z1 z2
          go_wp2
          go_roundw
          case rel => first | exact ⟨k + 1, r, M ++ [(e, d)], hlt, by go_num, rfl, by have := HRR.out; omega, by rw [List.length_append, List.length_singleton]; omega, HX, O5, HR5, HD5, B5⟩ | ((repeat apply Exists.intro); refine ⟨?_, rfl⟩; exact ⟨k + 1, r, M ++ [(e, d)], hlt, by go_num, rfl, by have := HRR.out; omega, by rw [List.length_append, List.length_singleton]; omega, HX, O5, HR5, HD5, B5⟩)
          case measure => simp [intOf]; omega
        · have d1 : decide (e < x.1) = false := by simpa using q
          rw [if_neg q, List.nil_append] at HX
          clear q hin
          go_wp2
          go_roundw
          case rel => first | exact ⟨k + 1, r, M, hlt, by go_num, rfl, by have := HRR.out; omega, by omega, HX, HMB, HRB, HD, BB⟩ | ((repeat apply Exists.intro); refine ⟨?_, rfl⟩; exact ⟨k + 1, r, M, hlt, by go_num, rfl, by have := HRR.out; omega, by omega, HX, HMB, HRB, HD, BB⟩)
          case measure => simp [intOf]; omega
      · obtain rfl : k = cl := by omega
        have HF : Hid (takenL a.size 0 a.holes = M) := by unfold Hid; rw [← HT.out, HX.out, ← HCL.out, List.drop_length, tkL, List.append_nil]
        go_wp2
        go_ret
        exact ⟨_, rfl, by rw [HF.out]; exact HM.out, BW.out⟩
end Go.Proofs.Ythloinmnojlleaa
