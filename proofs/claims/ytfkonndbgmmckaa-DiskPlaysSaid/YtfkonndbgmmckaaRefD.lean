/- RefD: the walks of the document's Flush and WriteTo. -/
import Derived.Test.YtfkonndbgmmckaaRefC
import Derived.Laws.AppendOwnNone
set_option linter.unusedVariables false
set_option linter.unusedSimpArgs false
namespace Go.Proofs.Ytfkonndbgmmckaa
open Go.RowKit

theorem keepB {w1 w2 : World} {g : Nat} {o : Obj} (b : Below w1.heap.size w1 w2) (h : w1.heap[g]? = some o) : w2.heap[g]? = some o := (b.block g (lt_of_block h)).trans h
theorem rpick_all : rpick [] true = fun _ => true := rfl
theorem RTo.self {w w' : World} {F : Nat → Prop} {d : Dk} {vl vw : Value} (h : RefAt w F d vl vw) (b : Below w.heap.size w w') : RTo w F d w' F vl vw := ⟨h.below b, fun k hk => .inl hk, b⟩

theorem RTo.after {w w1 w2 W : World} {F F2 : Nat → Prop} {d : Dk} {vl vw : Value} (hF : ∀ k, F k → k < w.heap.size) (b : Below w.heap.size w w1) (h2 : w.heap.size + 2 ≤ w1.heap.size) (t : RTo w1 F d w2 F2 vl vw)
    (ht : Touch (fun k => k = w.heap.size ∨ k = w.heap.size + 1) w2 W) : RTo w F d W F2 vl vw := by
  have n2 := t.bel.size
  refine ⟨t.has.keep ht (fun k hk e => ?_), fun k hk => ?_, (b.trans (t.bel.mono b.size)).trans (ht.below (by omega) (fun k hk => by omega))⟩
  · rcases t.new k hk with h | h
    · have := hF k h; omega
    · omega
  · rcases t.new k hk with h | h
    · exact .inl h
    · exact .inr (by omega)

set_option maxHeartbeats 800000 in
set_option maxRecDepth 100000 in
theorem rflush_any (w : World) (F : Nat → Prop) (d : Dk) (vl vw : Value) (h : RefAt w F d vl vw) (hm : d.waits.length < 9223372036854775807) :
    Calls Try.prog 33 #[refV d vl vw] w fun e w' => ∃ F' vl' vw', e = .returned (.tuple #[refV d.flush vl' vw', .int .i64 (d.use 0)]) ∧ RTo w F d.flush w' F' vl' vw' := by
  have H := Lib.hid h
  obtain ⟨A, c, rfl⟩ := own_slice h.ownW
  obtain ⟨A2, c2, rfl⟩ := own_slice h.own
  clear h
  have B2 : ∀ a b, Hid (Below w.heap.size w ((w.alloc a).alloc b)) := fun a b => ((Below.refl _ w).alloc (Nat.le_refl _) a).alloc (by simp) b
  have why : ∀ a b, Hid (Calls Try.prog 38 #[refV d _ _, .int .i64 0] ((w.alloc a).alloc b) fun e w' => e = .returned (.int .i64 (d.use 0)) ∧ Below ((w.alloc a).alloc b).heap.size ((w.alloc a).alloc b) w') := fun a b => why_any _ F d _ _ (H.out.below (B2 a b).out) 0
  unfold refV at why ⊢
  by_cases hu : d.use 0 = 0
  · rw [hu] at why
    have hs : Hid (d.flush = rfailD d [] true) := by unfold Hid Dk.flush; rw [if_pos hu]; rfl
    have HU := Lib.hid hu
    clear hu
    go_enter Try.func33, Try.ntmps33
    go_wp2_with fail
    refine ((why _ _).out).mono ?_
    rintro e w1 ⟨rfl, b1⟩
    obtain ⟨g0, g1, bb⟩ := keep2 b1
    have BB := Lib.hid bb; have G0 := Lib.hid g0; have G1 := Lib.hid g1
    have c0 := blk_cell g0 0; have c1 := blk_cell g0 1; have c2 := blk_cell g0 2; have c3 := blk_cell g0 3; have c4 := blk_cell g0 4
    have z0 := blk_cell g1 0; have z1 := blk_cell g1 1; have z2 := blk_cell g1 2; have z3 := blk_cell g1 3; have z4 := blk_cell g1 4
    have f0 := blk_free g1 0; have f1 := blk_free g1 1; have f2 := blk_free g1 2; have f3 := blk_free g1 3; have f4 := blk_free g1 4
    have f5 := blk_free g0 2
    simp at c0 c1 c2 c3 c4 z0 z1 z2 z3 z4
    clear b1 bb g0 g1
    have fl := rfail_any w1 F d _ _ (H.out.below BB.out) hm none 0 [] (nilB _) true
    have FL := Lib.hid fl
    unfold refV at FL
    clear fl
    go_wp2_with fail
    refine FL.out.mono ?_
    rintro e w2 ⟨F2, vl2, rfl, t2⟩
    obtain ⟨A3, c3, rfl⟩ := own_slice t2.has.own
    have r1 := keepB t2.bel G1.out
    have R1 := Lib.hid r1
    have z0 := blk_cell r1 0; have z1 := blk_cell r1 1; have z2 := blk_cell r1 2; have z3 := blk_cell r1 3; have z4 := blk_cell r1 4
    have f0 := blk_free r1 0; have f1 := blk_free r1 1; have f2 := blk_free r1 2; have f3 := blk_free r1 3; have f4 := blk_free r1 4
    simp at z0 z1 z2 z3 z4
    have hsz : Hid (w.heap.size + 2 ≤ w1.heap.size) := by have := lt_of_block G1.out; unfold Hid; omega
    have T2 := Lib.hid t2
    clear t2 r1 FL
    go_wp2
    refine bodyPost_ret (ret_ref rfl _ rfl (set5_blk R1.out)) rfl ?_
    refine ⟨F2, _, _, by rw [hs.out, HU.out]; rfl, ?_⟩
    rw [hs.out]
    exact RTo.after H.out.lt BB.out hsz.out T2.out (set5_touch (Touch.refl _ _) (.inr rfl))
  · have hu1 : (d.use 0 == 0) = false := by simp [hu]
    have hs : Hid (d.flush = d) := by unfold Hid Dk.flush; rw [if_neg hu]
    clear hu
    go_enter Try.func33, Try.ntmps33
    go_wp2_with fail
    refine ((why _ _).out).mono ?_
    rintro e w1 ⟨rfl, b1⟩
    obtain ⟨g0, g1, bb⟩ := keep2 b1
    have BB := Lib.hid bb; have G0 := Lib.hid g0; have G1 := Lib.hid g1
    have c0 := blk_cell g0 0; have c1 := blk_cell g0 1; have c2 := blk_cell g0 2; have c3 := blk_cell g0 3; have c4 := blk_cell g0 4
    have z0 := blk_cell g1 0; have z1 := blk_cell g1 1; have z2 := blk_cell g1 2; have z3 := blk_cell g1 3; have z4 := blk_cell g1 4
    have f0 := blk_free g1 0; have f1 := blk_free g1 1; have f2 := blk_free g1 2; have f3 := blk_free g1 3; have f4 := blk_free g1 4
    have f5 := blk_free g0 2
    simp at c0 c1 c2 c3 c4 z0 z1 z2 z3 z4
    clear b1 bb g0 g1
    go_wp2
    refine bodyPost_ret (ret_ref rfl _ rfl (set5_blk G1.out)) rfl ?_
    exact ⟨F, _, _, by rw [hs.out]; rfl, by rw [hs.out]; exact RTo.self H.out (set5_below BB.out (by omega))⟩

theorem infoRW : (Try.prog.info? 73).map (fun i => (i.zero, i.size, i.bytes)) = some (some (.agg #[.int .i64 0, .string ByteArray.empty]), 2, 24) := by kernel_rfl
theorem wcells_one (ws : List (Int × ByteArray)) (u : Value) (h : u ∈ wcells ws) : u.oneCell' = true := by
  induction ws with
  | nil => simp [wcells] at h
  | cons x ws ih => simp only [wcells, List.mem_cons] at h; rcases h with rfl | rfl | h; rfl; rfl; exact ih h
/-- The document's disk to which a write is added. -/
theorem rwrote {w w2 W : World} {F : Nat → Prop} {d : Dk} {vl vw v2 : Value} (h : RefAt w F d vl vw) (i : Int) (s : ByteArray) (ok : (d.wrote i s).Ok)
    (ho : w2.ownsRow 0 73 2 v2 (d.waits.length + 1) (wcells d.waits ++ [.int .i64 i, .string s])) (hB : Below w.heap.size w w2)
    (hv : ∀ k, v2.ownBlock = some k → w.heap.size + 2 ≤ k) (ht : Touch (fun k => k = w.heap.size ∨ k = w.heap.size + 1) w2 W) : RTo w F (d.wrote i s) W (fun k => F k ∨ v2.ownBlock = some k) vl v2 := by
  have h2 := h.below hB
  have h3 := h2.keep ht (fun k hk e => by have := h.lt k hk; omega)
  refine ⟨⟨h3.own, ?_, fun k hk => .inl (h.fl k hk), fun k hk => .inr hk, fun k hk => ?_, ok, fun e => by simp [Dk.wrote] at e⟩, fun k hk => ?_, hB.trans (ht.below hB.size (fun k hk => by omega))⟩
  · have o := own_touch ho ht (fun k hk e => by have := hv k hk; omega)
    have e1 : (d.wrote i s).waits = d.waits ++ [(i, s)] := rfl
    rw [e1, wcells_append, List.length_append]
    exact o
  · rcases hk with hk | hk
    · exact h3.lt k hk
    · exact Nat.lt_of_lt_of_le (ho.lt k hk).2 ht.size
  · rcases hk with hk | hk
    · exact .inl hk
    · exact .inr (by have := hv k hk; omega)

set_option maxHeartbeats 1600000 in
set_option maxRecDepth 100000 in
theorem rwrite_any (w : World) (F : Nat → Prop) (d : Dk) (vl vw : Value) (h : RefAt w F d vl vw) (i : Int) (s : ByteArray) (hs : s.size ≤ 9223372036854775807) (hm : d.waits.length + 1 ≤ 5864062014805) (hm2 : d.writes < 9223372036854775807) :
    Calls Try.prog 32 #[refV d vl vw, .int .i64 i, .string s] w fun e w' => ∃ F' vl' vw', e = .returned (.tuple #[refV (d.write i s) vl' vw', .int .i64 (d.writeE i s)]) ∧ RTo w F (d.write i s) w' F' vl' vw' := by
  have H := Lib.hid h
  obtain ⟨A, c, rfl⟩ := own_slice h.ownW
  obtain ⟨A2, c2, rfl⟩ := own_slice h.own
  have B2 : ∀ a b, Hid (Below w.heap.size w ((w.alloc a).alloc b)) := fun a b => ((Below.refl _ w).alloc (Nat.le_refl _) a).alloc (by simp) b
  have why : ∀ a b, Hid (Calls Try.prog 38 #[refV d _ _, .int .i64 i] ((w.alloc a).alloc b) fun e w' => e = .returned (.int .i64 (d.use i)) ∧ Below ((w.alloc a).alloc b).heap.size ((w.alloc a).alloc b) w') := fun a b => why_any _ F d _ _ (H.out.below (B2 a b).out) i
  unfold refV at why ⊢
  by_cases hu : d.use i = 0
  · rw [hu] at why
    by_cases hs2 : s.size = 256
    · have hss : ((s.size : Int) == 256) = true := by simp [hs2]
      have he : Hid (d.writeE i s = 0) := by unfold Hid Dk.writeE; rw [if_pos hu, if_pos hs2]
      have hd : Hid (d.write i s = d.wrote i s) := by unfold Hid Dk.write; rw [if_pos he.out]
      have OK : Hid (d.wrote i s).Ok := by have := h.ok.write i s; rw [hd.out] at this; exact this
      have w0 := h.ok.writes0
      have u0 := h.ok.fuse0
      have u1 := h.ok.fuse1
      have hdn : Hid (d.down = false) := (Dk.use_zero hu).1
      have hmx : d.waits.length + 1 ≤ maxLen := by unfold maxLen; omega
      have hmb : (d.waits.length + 1) * 24 ≤ 140737488355328 := by omega
      obtain ⟨j0, hj, hy0, hy1, hy2⟩ := info_parts infoRW
      clear hu hs2 h
      go_enter Try.func32, Try.ntmps32
      go_wp2_with fail
      refine ((why _ _).out).mono ?_
      rintro e w1 ⟨rfl, b1⟩
      obtain ⟨g0, g1, bb⟩ := keep2 b1
      have BB := Lib.hid bb; have G0 := Lib.hid g0; have G1 := Lib.hid g1
      have c0 := blk_cell g0 0; have c1 := blk_cell g0 1; have c2 := blk_cell g0 2; have c3 := blk_cell g0 3; have c4 := blk_cell g0 4
      have z0 := blk_cell g1 0; have z1 := blk_cell g1 1; have z2 := blk_cell g1 2; have z3 := blk_cell g1 3; have z4 := blk_cell g1 4
      have f0 := blk_free g1 0; have f1 := blk_free g1 1; have f2 := blk_free g1 2; have f3 := blk_free g1 3; have f4 := blk_free g1 4
      have f5 := blk_free g0 2
      simp at c0 c1 c2 c3 c4 z0 z1 z2 z3 z4
      clear b1 bb g0 g1 why
      by_cases hnil : d.waits = []
      · have hl0 : d.waits.length = 0 := by rw [hnil]; rfl
        have hw := H.out.nil hnil
        injection hw with hA hz hc
        subst hA hc
        have HX : Hid (w1.ownsRow 0 73 2 (.slice none 0 0) 0 []) := World.ownsRow_nil _ _ _ _
        rw [hl0] at c1
        rw [hl0]
        have HNIL := Lib.hid hnil
        clear hnil hz
        have HV : Hid (∀ k, (Value.slice none 0 0).ownBlock = some k → w.heap.size + 2 ≤ k) := fun k hk => by simp [Value.ownBlock] at hk
        have BX := BB; have GX0 := G0; have GX1 := G1
        have hsx : Hid (w.heap.size + 2 ≤ w1.heap.size) := by have := lt_of_block G1.out; unfold Hid; omega
        have HX2 : Hid (w1.ownsRow 0 73 2 (.slice none 0 0) d.waits.length (wcells d.waits)) := by unfold Hid; rw [hl0, HNIL.out]; exact HX.out
        have hmx0 : 0 + 1 ≤ maxLen := by decide
        go_wp2_with (first | (at_builtin; refine wpList_append_own_none rfl (.tmp 21) (.tmp 23) 48 rfl 0 73 j0 2 Try.underlying48 hj (.slice none 0 0) 0 [] rfl HX.out rfl ?_) | (at_builtin; refine wpList_append_own_at _ rfl (.tmp 25) (.tmp 29) 48 rfl 0 73 j0 _ 2 24 Try.underlying48 hj hy0 hy1 hy2 rfl (by decide) (.slice none 0 0) d.waits.length (wcells d.waits) rfl (HX2.out.alloc _) ⟨w1.heap.size, 0, none⟩ 1 1 [.int .i64 i, .string s] rfl rfl ?c1 ?c2 hmx hmb (Nat.zero_le _) ?_))
        case c1 =>
          intro j u hj
          match j, hj with
          | 0, hj => simp at hj; subst hj; simp [Addr.add]
          | 1, hj => simp at hj; subst hj; simp [Addr.add]
        case c2 => intro u hu; simp at hu; rcases hu with rfl | rfl <;> rfl
        intro v2 w2 ho hg _ hat
        obtain ⟨gv, cp, rfl⟩ := own_shape ho
        have hbx : Hid (Below w.heap.size w w2) := (BX.out.alloc BX.out.size _).grown hg (by have := BX.out.size; simp; omega) (fun k e => by have := HV.out k e; omega)
        have HVV : Hid (∀ k, (Value.slice (some ⟨gv, 0, none⟩) (d.waits.length + 1) cp).ownBlock = some k → w.heap.size + 2 ≤ k) := fun k hk => by
          rcases hat with e | e
          · exact HV.out k (by rw [← e]; simpa [Value.ownBlock] using hk)
          · simp [Value.ownBlock] at hk e; have := hsx.out; omega
        have r0 := blk_grown hg (blk_alloc GX0.out _) (fun e => by have := HV.out _ e; omega)
        have r1 := blk_grown hg (blk_alloc GX1.out _) (fun e => by have := HV.out _ e; omega)
        have HO := Lib.hid ho
        have R0 := Lib.hid r0; have R1 := Lib.hid r1
        have k0 := blk_cell r0 0; have k1 := blk_cell r0 1; have k2 := blk_cell r0 2; have k3 := blk_cell r0 3; have k4 := blk_cell r0 4
        have p1 := blk_free r0 1; have p2 := blk_free r0 2; have p3 := blk_free r0 3; have p4 := blk_free r0 4
        have m0 := blk_cell r1 0; have m1 := blk_cell r1 1; have m2 := blk_cell r1 2; have m3 := blk_cell r1 3; have m4 := blk_cell r1 4
        have q0 := blk_free r1 0; have q1 := blk_free r1 1; have q2 := blk_free r1 2; have q3 := blk_free r1 3; have q4 := blk_free r1 4
        simp at k0 k1 k2 k3 k4 m0 m1 m2 m3 m4
        clear ho hg hat r0 r1 c0 c1 c2 c3 c4 z0 z1 z2 z3 z4 f0 f1 f2 f3 f4 f5 hj hy0 hy1 hy2
        by_cases hf1 : d.fuse = 1
        · have y1 : Hid ((d.wrote i s).fuse = 0) := by unfold Hid Dk.wrote; simp [hf1]
          have y2 : Hid ((d.wrote i s).down = true) := by unfold Hid Dk.wrote; simp [hf1]
          rw [hf1] at k2
          clear hf1
          go_wp2
          refine bodyPost_ret (ret_ref rfl _ rfl (set5_blk (w := (((w2.setCell ⟨w.heap.size, 1, none⟩ _).setCell ⟨w.heap.size, 3, none⟩ _).setCell ⟨w.heap.size, 4, none⟩ _).setCell ⟨w.heap.size, 2, none⟩ _) (by rw [blk_set_ne (by simp), blk_set_ne (by simp), blk_set_ne (by simp), blk_set_ne (by simp)]; exact R1.out))) rfl ?_
          refine ⟨fun k => F k ∨ (Value.slice (some ⟨gv, 0, none⟩) (d.waits.length + 1) cp).ownBlock = some k, _, .slice (some ⟨gv, 0, none⟩) (d.waits.length + 1) cp, by rw [he.out, hd.out, y1.out, y2.out, hl0]; rfl, ?_⟩
          rw [hd.out]
          exact rwrote H.out i s OK.out (by have := HO.out; rw [hl0]; exact this) hbx.out HVV.out (set5_touch (((((Touch.refl _ _).setCell (p := ⟨w.heap.size, 1, none⟩) (.inl (.inl rfl)) _).setCell (p := ⟨w.heap.size, 3, none⟩) (.inl (.inl rfl)) _).setCell (p := ⟨w.heap.size, 4, none⟩) (.inl (.inl rfl)) _).setCell (p := ⟨w.heap.size, 2, none⟩) (.inl (.inl rfl)) _) (.inr rfl))
        · have y0 : (d.fuse == 1) = false := by simpa using hf1
          by_cases hf : 0 < d.fuse
          · have y1 : Hid ((d.wrote i s).fuse = d.fuse - 1) := by unfold Hid Dk.wrote; simp [hf]
            have y2 : Hid ((d.wrote i s).down = d.down) := by unfold Hid Dk.wrote; simp [hf, hdn.out]; omega
            go_wp2
            refine bodyPost_ret (ret_ref rfl _ rfl (set5_blk (w := ((w2.setCell ⟨w.heap.size, 1, none⟩ _).setCell ⟨w.heap.size, 3, none⟩ _).setCell ⟨w.heap.size, 2, none⟩ _) (by rw [blk_set_ne (by simp), blk_set_ne (by simp), blk_set_ne (by simp)]; exact R1.out))) rfl ?_
            refine ⟨fun k => F k ∨ (Value.slice (some ⟨gv, 0, none⟩) (d.waits.length + 1) cp).ownBlock = some k, _, .slice (some ⟨gv, 0, none⟩) (d.waits.length + 1) cp, by rw [he.out, hd.out, y1.out, y2.out, hl0]; rfl, ?_⟩
            rw [hd.out]
            exact rwrote H.out i s OK.out (by have := HO.out; rw [hl0]; exact this) hbx.out HVV.out (set5_touch ((((Touch.refl _ _).setCell (p := ⟨w.heap.size, 1, none⟩) (.inl (.inl rfl)) _).setCell (p := ⟨w.heap.size, 3, none⟩) (.inl (.inl rfl)) _).setCell (p := ⟨w.heap.size, 2, none⟩) (.inl (.inl rfl)) _) (.inr rfl))
          · have y1 : Hid ((d.wrote i s).fuse = d.fuse) := by unfold Hid Dk.wrote; simp [hf]
            have y2 : Hid ((d.wrote i s).down = d.down) := by unfold Hid Dk.wrote; simp [hf]
            go_wp2
            refine bodyPost_ret (ret_ref rfl _ rfl (set5_blk (w := (w2.setCell ⟨w.heap.size, 1, none⟩ _).setCell ⟨w.heap.size, 3, none⟩ _) (by rw [blk_set_ne (by simp), blk_set_ne (by simp)]; exact R1.out))) rfl ?_
            refine ⟨fun k => F k ∨ (Value.slice (some ⟨gv, 0, none⟩) (d.waits.length + 1) cp).ownBlock = some k, _, .slice (some ⟨gv, 0, none⟩) (d.waits.length + 1) cp, by rw [he.out, hd.out, y1.out, y2.out, hl0]; rfl, ?_⟩
            rw [hd.out]
            exact rwrote H.out i s OK.out (by have := HO.out; rw [hl0]; exact this) hbx.out HVV.out (set5_touch (((Touch.refl _ _).setCell (p := ⟨w.heap.size, 1, none⟩) (.inl (.inl rfl)) _).setCell (p := ⟨w.heap.size, 3, none⟩) (.inl (.inl rfl)) _) (.inr rfl))
      · have hlp : 0 < d.waits.length := List.length_pos_iff.2 hnil
        have hgw : ∃ gw, A = some ⟨gw, 0, none⟩ ∧ ∀ j u, (wcells d.waits)[j]? = some u → w1.cell? ((⟨gw, 0, none⟩ : Addr).add j) = some u := by
          obtain ⟨gw, e, _, _, _⟩ := H.out.wait _ _ rfl 0 hlp
          subst e
          exact ⟨gw, rfl, fun j u hu => cell_below BB.out (H.out.ownW.cells (g := gw) rfl j u hu)⟩
        obtain ⟨gw, rfl, hsrc⟩ := hgw
        have HSRC := Lib.hid hsrc
        clear hsrc hnil
        go_wp2_with (at_builtin; refine wpList_append_own_at _ rfl (.tmp 21) (.tmp 23) 48 rfl 0 73 j0 _ 2 24 Try.underlying48 hj hy0 hy1 hy2 rfl (by decide) (.slice none 0 0) 0 [] rfl (World.ownsRow_nil _ _ _ _) ⟨gw, 0, none⟩ d.waits.length c (wcells d.waits) rfl (by rw [wcells_length]) HSRC.out ?c3 (by unfold maxLen; omega) (by omega) (Nat.zero_le _) ?_)
        case c3 => exact fun u hu => wcells_one _ u hu
        intro vx wx hox hgx _ hatx
        try simp only [Nat.zero_add, List.nil_append] at hox
        obtain ⟨m, hm1⟩ : ∃ m, d.waits.length = m + 1 := ⟨d.waits.length - 1, by omega⟩
        have hsh : ∃ g1 cp, vx = .slice (some ⟨g1, 0, none⟩) d.waits.length cp := by rw [hm1] at hox ⊢; exact own_shape hox
        clear hm1
        obtain ⟨gx, cx, rfl⟩ := hsh
        have hsx0 : w.heap.size + 2 ≤ w1.heap.size := by have := lt_of_block G1.out; omega
        have HV : Hid (∀ k, (Value.slice (some ⟨gx, 0, none⟩) d.waits.length cx).ownBlock = some k → w.heap.size + 2 ≤ k) := fun k hk => by
          rcases hatx with e | e <;> simp [Value.ownBlock] at hk e; omega
        have BX : Hid (Below w.heap.size w wx) := BB.out.grown hgx BB.out.size (fun k e => by simp [Value.ownBlock] at e)
        have gx0 := blk_grown hgx G0.out (by simp [Value.ownBlock])
        have gx1 := blk_grown hgx G1.out (by simp [Value.ownBlock])
        have GX0 := Lib.hid gx0; have GX1 := Lib.hid gx1
        have hsx : Hid (w.heap.size + 2 ≤ wx.heap.size) := Nat.le_trans hsx0 hgx.size
        have HX := Lib.hid hox
        clear c0 c1 c2 c3 c4 z0 z1 z2 z3 z4 f0 f1 f2 f3 f4 f5 hox hgx hatx
        have c0 := blk_cell gx0 0; have c1 := blk_cell gx0 1; have c2 := blk_cell gx0 2; have c3 := blk_cell gx0 3; have c4 := blk_cell gx0 4
        have z0 := 0; have z1 := 0; have z2 := 0; have z3 := 0; have z4 := 0
        have f0 := 0; have f1 := 0; have f2 := 0; have f3 := 0; have f4 := 0; have f5 := 0
        simp at c0 c1 c2 c3 c4
        clear gx0 gx1
        go_wp2_with (at_builtin; refine wpList_append_own_at _ rfl (.tmp 25) (.tmp 29) 48 rfl 0 73 j0 _ 2 24 Try.underlying48 hj hy0 hy1 hy2 rfl (by decide) (.slice (some ⟨gx, 0, none⟩) d.waits.length cx) d.waits.length (wcells d.waits) rfl (HX.out.alloc _) ⟨wx.heap.size, 0, none⟩ 1 1 [.int .i64 i, .string s] rfl rfl ?c1 ?c2 hmx hmb (Nat.zero_le _) ?_)
        case c1 =>
          intro j u hj
          match j, hj with
          | 0, hj => simp at hj; subst hj; simp [Addr.add]
          | 1, hj => simp at hj; subst hj; simp [Addr.add]
        case c2 => intro u hu; simp at hu; rcases hu with rfl | rfl <;> rfl
        intro v2 w2 ho hg _ hat
        obtain ⟨gv, cp, rfl⟩ := own_shape ho
        have hbx : Hid (Below w.heap.size w w2) := (BX.out.alloc BX.out.size _).grown hg (by have := BX.out.size; simp; omega) (fun k e => by have := HV.out k e; omega)
        have HVV : Hid (∀ k, (Value.slice (some ⟨gv, 0, none⟩) (d.waits.length + 1) cp).ownBlock = some k → w.heap.size + 2 ≤ k) := fun k hk => by
          rcases hat with e | e
          · exact HV.out k (by rw [← e]; simpa [Value.ownBlock] using hk)
          · simp [Value.ownBlock] at hk e; have := hsx.out; omega
        have r0 := blk_grown hg (blk_alloc GX0.out _) (fun e => by have := HV.out _ e; omega)
        have r1 := blk_grown hg (blk_alloc GX1.out _) (fun e => by have := HV.out _ e; omega)
        have HO := Lib.hid ho
        have R0 := Lib.hid r0; have R1 := Lib.hid r1
        have k0 := blk_cell r0 0; have k1 := blk_cell r0 1; have k2 := blk_cell r0 2; have k3 := blk_cell r0 3; have k4 := blk_cell r0 4
        have p1 := blk_free r0 1; have p2 := blk_free r0 2; have p3 := blk_free r0 3; have p4 := blk_free r0 4
        have m0 := blk_cell r1 0; have m1 := blk_cell r1 1; have m2 := blk_cell r1 2; have m3 := blk_cell r1 3; have m4 := blk_cell r1 4
        have q0 := blk_free r1 0; have q1 := blk_free r1 1; have q2 := blk_free r1 2; have q3 := blk_free r1 3; have q4 := blk_free r1 4
        simp at k0 k1 k2 k3 k4 m0 m1 m2 m3 m4
        clear ho hg hat r0 r1 c0 c1 c2 c3 c4 z0 z1 z2 z3 z4 f0 f1 f2 f3 f4 f5 hj hy0 hy1 hy2
        by_cases hf1 : d.fuse = 1
        · have y1 : Hid ((d.wrote i s).fuse = 0) := by unfold Hid Dk.wrote; simp [hf1]
          have y2 : Hid ((d.wrote i s).down = true) := by unfold Hid Dk.wrote; simp [hf1]
          rw [hf1] at k2
          clear hf1
          go_wp2
          refine bodyPost_ret (ret_ref rfl _ rfl (set5_blk (w := (((w2.setCell ⟨w.heap.size, 1, none⟩ _).setCell ⟨w.heap.size, 3, none⟩ _).setCell ⟨w.heap.size, 4, none⟩ _).setCell ⟨w.heap.size, 2, none⟩ _) (by rw [blk_set_ne (by simp), blk_set_ne (by simp), blk_set_ne (by simp), blk_set_ne (by simp)]; exact R1.out))) rfl ?_
          refine ⟨fun k => F k ∨ (Value.slice (some ⟨gv, 0, none⟩) (d.waits.length + 1) cp).ownBlock = some k, _, .slice (some ⟨gv, 0, none⟩) (d.waits.length + 1) cp, by rw [he.out, hd.out, y1.out, y2.out]; rfl, ?_⟩
          rw [hd.out]
          exact rwrote H.out i s OK.out HO.out hbx.out HVV.out (set5_touch (((((Touch.refl _ _).setCell (p := ⟨w.heap.size, 1, none⟩) (.inl (.inl rfl)) _).setCell (p := ⟨w.heap.size, 3, none⟩) (.inl (.inl rfl)) _).setCell (p := ⟨w.heap.size, 4, none⟩) (.inl (.inl rfl)) _).setCell (p := ⟨w.heap.size, 2, none⟩) (.inl (.inl rfl)) _) (.inr rfl))
        · have y0 : (d.fuse == 1) = false := by simpa using hf1
          by_cases hf : 0 < d.fuse
          · have y1 : Hid ((d.wrote i s).fuse = d.fuse - 1) := by unfold Hid Dk.wrote; simp [hf]
            have y2 : Hid ((d.wrote i s).down = d.down) := by unfold Hid Dk.wrote; simp [hf, hdn.out]; omega
            go_wp2
            refine bodyPost_ret (ret_ref rfl _ rfl (set5_blk (w := ((w2.setCell ⟨w.heap.size, 1, none⟩ _).setCell ⟨w.heap.size, 3, none⟩ _).setCell ⟨w.heap.size, 2, none⟩ _) (by rw [blk_set_ne (by simp), blk_set_ne (by simp), blk_set_ne (by simp)]; exact R1.out))) rfl ?_
            refine ⟨fun k => F k ∨ (Value.slice (some ⟨gv, 0, none⟩) (d.waits.length + 1) cp).ownBlock = some k, _, .slice (some ⟨gv, 0, none⟩) (d.waits.length + 1) cp, by rw [he.out, hd.out, y1.out, y2.out]; rfl, ?_⟩
            rw [hd.out]
            exact rwrote H.out i s OK.out HO.out hbx.out HVV.out (set5_touch ((((Touch.refl _ _).setCell (p := ⟨w.heap.size, 1, none⟩) (.inl (.inl rfl)) _).setCell (p := ⟨w.heap.size, 3, none⟩) (.inl (.inl rfl)) _).setCell (p := ⟨w.heap.size, 2, none⟩) (.inl (.inl rfl)) _) (.inr rfl))
          · have y1 : Hid ((d.wrote i s).fuse = d.fuse) := by unfold Hid Dk.wrote; simp [hf]
            have y2 : Hid ((d.wrote i s).down = d.down) := by unfold Hid Dk.wrote; simp [hf]
            go_wp2
            refine bodyPost_ret (ret_ref rfl _ rfl (set5_blk (w := (w2.setCell ⟨w.heap.size, 1, none⟩ _).setCell ⟨w.heap.size, 3, none⟩ _) (by rw [blk_set_ne (by simp), blk_set_ne (by simp)]; exact R1.out))) rfl ?_
            refine ⟨fun k => F k ∨ (Value.slice (some ⟨gv, 0, none⟩) (d.waits.length + 1) cp).ownBlock = some k, _, .slice (some ⟨gv, 0, none⟩) (d.waits.length + 1) cp, by rw [he.out, hd.out, y1.out, y2.out]; rfl, ?_⟩
            rw [hd.out]
            exact rwrote H.out i s OK.out HO.out hbx.out HVV.out (set5_touch (((Touch.refl _ _).setCell (p := ⟨w.heap.size, 1, none⟩) (.inl (.inl rfl)) _).setCell (p := ⟨w.heap.size, 3, none⟩) (.inl (.inl rfl)) _) (.inr rfl))
    · have hss : ((s.size : Int) == 256) = false := by simpa using (by omega : ¬ (s.size : Int) = 256)
      have he : Hid (d.writeE i s = 1) := by unfold Hid Dk.writeE; rw [if_pos hu, if_neg hs2]
      have hd : Hid (d.write i s = d) := by unfold Hid Dk.write; rw [if_neg (by rw [he.out]; decide)]
      clear hu hs2 h
      go_enter Try.func32, Try.ntmps32
      go_wp2_with fail
      refine ((why _ _).out).mono ?_
      rintro e w1 ⟨rfl, b1⟩
      obtain ⟨g0, g1, bb⟩ := keep2 b1
      have BB := Lib.hid bb; have G0 := Lib.hid g0; have G1 := Lib.hid g1
      have c0 := blk_cell g0 0; have c1 := blk_cell g0 1; have c2 := blk_cell g0 2; have c3 := blk_cell g0 3; have c4 := blk_cell g0 4
      have z0 := blk_cell g1 0; have z1 := blk_cell g1 1; have z2 := blk_cell g1 2; have z3 := blk_cell g1 3; have z4 := blk_cell g1 4
      have f0 := blk_free g1 0; have f1 := blk_free g1 1; have f2 := blk_free g1 2; have f3 := blk_free g1 3; have f4 := blk_free g1 4
      have f5 := blk_free g0 2
      simp at c0 c1 c2 c3 c4 z0 z1 z2 z3 z4
      clear b1 bb g0 g1
      go_wp2
      refine bodyPost_ret (ret_ref rfl _ rfl (set5_blk G1.out)) rfl ?_
      exact ⟨F, _, _, by rw [hd.out, he.out]; rfl, by rw [hd.out]; exact RTo.self H.out (set5_below BB.out (by omega))⟩
  · have hu1 : (d.use i == 0) = false := by simp [hu]
    have he : Hid (d.writeE i s = d.use i) := by unfold Hid Dk.writeE; rw [if_neg hu]
    have hd : Hid (d.write i s = d) := by unfold Hid Dk.write; rw [he.out, if_neg hu]
    clear hu h
    go_enter Try.func32, Try.ntmps32
    go_wp2_with fail
    refine ((why _ _).out).mono ?_
    rintro e w1 ⟨rfl, b1⟩
    obtain ⟨g0, g1, bb⟩ := keep2 b1
    have BB := Lib.hid bb; have G0 := Lib.hid g0; have G1 := Lib.hid g1
    have c0 := blk_cell g0 0; have c1 := blk_cell g0 1; have c2 := blk_cell g0 2; have c3 := blk_cell g0 3; have c4 := blk_cell g0 4
    have z0 := blk_cell g1 0; have z1 := blk_cell g1 1; have z2 := blk_cell g1 2; have z3 := blk_cell g1 3; have z4 := blk_cell g1 4
    have f0 := blk_free g1 0; have f1 := blk_free g1 1; have f2 := blk_free g1 2; have f3 := blk_free g1 3; have f4 := blk_free g1 4
    have f5 := blk_free g0 2
    simp at c0 c1 c2 c3 c4 z0 z1 z2 z3 z4
    clear b1 bb g0 g1
    go_wp2
    refine bodyPost_ret (ret_ref rfl _ rfl (set5_blk G1.out)) rfl ?_
    exact ⟨F, _, _, by rw [hd.out, he.out]; rfl, by rw [hd.out]; exact RTo.self H.out (set5_below BB.out (by omega))⟩
end Go.Proofs.Ytfkonndbgmmckaa
