/- Disk7: the walk of Clone; nil disks. -/
import Derived.Test.YtfkonndbgmmckaaDisk6
import Derived.Laws.AppendOwnNone
set_option linter.unusedVariables false
set_option linter.unusedSimpArgs false
namespace Go.Proofs.Ytfkonndbgmmckaa
open Go.RowKit

/-- A clone: in new blocks alone. -/
def DiskCloned (w : World) (F : Nat → Prop) (d : Dk) (e : Ending) (w' : World) : Prop :=
  ∃ g F2 vl vw, e = .returned (.pointer (some ⟨g, 0, none⟩)) ∧ IsDisk w' F2 g d vl vw ∧ (∀ k, F2 k → w.heap.size ≤ k) ∧ Below w.heap.size w w'

/-- The end of a clone: both rows are in. -/
theorem cloned_of {w w2 : World} {F : Nat → Prop} {g : Nat} {d : Dk} {vl vw v1 v2 : Value} (h : IsDisk w F g d vl vw) (hB : Below w.heap.size w w2)
    (ho1 : w2.ownsRow 0 9 1 v1 d.l.length (strs d.l)) (h1 : ∀ k, v1.ownBlock = some k → w.heap.size ≤ k)
    (ho2 : w2.ownsRow 0 64 2 v2 d.waits.length (wcells d.waits)) (h2 : ∀ k, v2.ownBlock = some k → w.heap.size ≤ k)
    (hb : w2.heap[w.heap.size]? = some (.cells #[v1, v2, .int .i64 d.fuse, .int .i64 d.writes, .bool d.down] 60 (0, 0))) : DiskCloned w F d (.returned (.pointer (some ⟨w.heap.size, 0, none⟩))) w2 :=
  ⟨w.heap.size, fun k => w.heap.size ≤ k ∧ k < w2.heap.size, v1, v2, rfl, ⟨hb, ho1, ho2, ⟨Nat.le_refl _, blk_lt hb⟩, fun k hk => ⟨h1 k hk, (ho1.lt k hk).2⟩, fun k hk => ⟨h2 k hk, (ho2.lt k hk).2⟩, fun k hk => hk.2, h.ok⟩, fun k hk => hk.1, hB⟩
theorem own_notnil {w : World} {base n : Nat} {e : TypeId} {size : Nat} {v : Value} {xs : List Value} (h : w.ownsRow base e size v n xs) (hv : ¬ v = .slice none 0 0) : ∃ g c, v = .slice (some ⟨g, 0, none⟩) n c := by
  rcases h.2 with ⟨e, h0⟩ | ⟨g, cap, cur, e, _⟩
  · exact absurd e hv
  · exact ⟨g, cap, e⟩

set_option maxHeartbeats 800000 in
set_option maxRecDepth 100000 in
theorem clone_any (w : World) (F : Nat → Prop) (g : Nat) (d : Dk) (vl vw : Value) (h : IsDisk w F g d vl vw) (hm : d.waits.length ≤ 5864062014805) :
    Calls Try.prog 10 #[.pointer (some ⟨g, 0, none⟩)] w (DiskCloned w F d) := by
  have c0 := blk_cell h.blk 0
  have c1 := blk_cell h.blk 1
  have c2 := blk_cell h.blk 2
  have c3 := blk_cell h.blk 3
  have c4 := blk_cell h.blk 4
  simp at c0 c1 c2 c3 c4
  obtain ⟨gl, cl, rfl, _, _, _⟩ := h.sector
  obtain ⟨A, c, rfl⟩ := own_slice h.ownW
  have hg := blk_lt h.blk
  have hlen := h.ok.most
  obtain ⟨i0, hi, hz0, hz1, hz2⟩ := info_parts infoS
  obtain ⟨j0, hj, hy0, hy1, hy2⟩ := info_parts infoW
  obtain ⟨O1, hO1⟩ : ∃ O1, O1 = Obj.cells #[.slice (some ⟨gl, 0, none⟩) d.l.length cl, .slice A d.waits.length c, .int .i64 d.fuse, .int .i64 d.writes, .bool d.down] 60 := ⟨_, rfl⟩
  have hlit := World.ownsRow_lit (base := 0) (e := 9) (size := 1) (w.alloc O1) #[] 0 (Nat.zero_le _) (by decide) rfl
  rw [hO1] at hlit
  simp at hlit
  go_enter Try.func10, Try.ntmps10
  have hsrc : ∀ W, Below w.heap.size w W → ∀ j u, (strs d.l)[j]? = some u → W.cell? ((⟨gl, 0, none⟩ : Addr).add j) = some u := fun W hb j u hu => cell_below hb (h.own.cells (g := gl) rfl j u hu)
  have HSRC := Lib.hid hsrc
  clear hsrc
  have HLIT := Lib.hid hlit
  clear hlit hO1
  have b2 : Below w.heap.size w ((w.alloc (Obj.cells #[.slice (some ⟨gl, 0, none⟩) d.l.length cl, .slice A d.waits.length c, .int .i64 d.fuse, .int .i64 d.writes, .bool d.down] 60)).alloc (.cells #[] 9)) := ((Below.refl _ w).alloc (Nat.le_refl _) _).alloc (by simp) _
  go_wp2_with (at_builtin; refine wpList_append_own_at _ rfl (.tmp 9) (.tmp 13) 29 rfl 0 9 i0 _ 1 16 Try.underlying29 hi hz0 hz1 hz2 rfl (by decide) (.slice (some ⟨w.heap.size + 1, 0, none⟩) 0 0) 0 [] rfl HLIT.out ⟨gl, 0, none⟩ d.l.length cl (strs d.l) rfl (by simp [strs]) (HSRC.out _ b2) ?c2 (by unfold maxLen; omega) (by omega) (Nat.zero_le _) ?_)
  case c2 => intro u hu; simp only [strs, List.mem_map] at hu; obtain ⟨x, _, rfl⟩ := hu; rfl
  intro v1 w1 ho1 hg1 _ hat1
  try simp only [Nat.zero_add, List.nil_append] at ho1
  have hB1 : Hid (Below w.heap.size w w1) := b2.grown hg1 (by simp; omega) (fun k e => by simp [Value.ownBlock] at e; omega)
  have hblk := blk_grown hg1 (blk_alloc (blk_new w (.cells #[.slice (some ⟨gl, 0, none⟩) d.l.length cl, .slice A d.waits.length c, .int .i64 d.fuse, .int .i64 d.writes, .bool d.down] 60)) (.cells #[] 9)) (by simp [Value.ownBlock])
  have hs1 := blk_lt hblk
  obtain ⟨m, hm1⟩ : ∃ m, d.l.length = m + 1 := ⟨d.l.length - 1, by have := h.ok.pos; omega⟩
  have hsh : ∃ g1 cp, v1 = .slice (some ⟨g1, 0, none⟩) d.l.length cp := by rw [hm1] at ho1 ⊢; exact own_shape ho1
  clear hm1
  obtain ⟨g1, cp, rfl⟩ := hsh
  have hnew : Hid (w.heap.size ≤ g1 ∧ g1 < w1.heap.size) := ⟨by rcases hat1 with e | e <;> (simp [Value.ownBlock] at e; omega), (ho1.lt g1 rfl).2⟩
  have HO1 := Lib.hid ho1
  have q0 := blk_cell hblk 0
  have f0 := blk_free hblk 0
  have q01 := blk_cell hblk 1
  have f01 := blk_free hblk 1
  simp at q0 q01
  have q1 := cell_below hB1.out c1
  have HBK := Lib.hid hblk
  clear ho1 hat1 hg1 hblk b2 HLIT hi hz0 hz1 hz2
  have tb : Below w.heap.size w ((w1.setCell ⟨w.heap.size, 0, none⟩ (.slice (some ⟨g1, 0, none⟩) d.l.length cp)).alloc (.cells #[] 64)) :=
    (hB1.out.setCell (p := ⟨w.heap.size, 0, none⟩) (Nat.le_refl _) _).alloc (by simp; omega) _
  have HTB := Lib.hid tb
  have hlit2 := World.ownsRow_lit (base := 0) (e := 64) (size := 2) (w1.setCell ⟨w.heap.size, 0, none⟩ (.slice (some ⟨g1, 0, none⟩) d.l.length cp)) #[] 0 (Nat.zero_le _) (by decide) rfl
  simp at hlit2
  have HLIT2 := Lib.hid hlit2
  have H : Hid (IsDisk w F g d _ _) := h
  clear tb hlit2
  have b1 : Below w.heap.size w (w1.setCell ⟨w.heap.size, 0, none⟩ (.slice (some ⟨g1, 0, none⟩) d.l.length cp)) := hB1.out.setCell (p := ⟨w.heap.size, 0, none⟩) (Nat.le_refl _) _
  have BB : Hid ((w1.setCell ⟨w.heap.size, 0, none⟩ (.slice (some ⟨g1, 0, none⟩) d.l.length cp)).heap[w.heap.size]? = some (.cells #[.slice (some ⟨g1, 0, none⟩) d.l.length cp, .slice A d.waits.length c, .int .i64 d.fuse, .int .i64 d.writes, .bool d.down] 60 (0, 0))) := by
    unfold Hid
    rw [blk_set HBK.out 0 _]
    rfl
  have HOO : Hid ((w1.setCell ⟨w.heap.size, 0, none⟩ (.slice (some ⟨g1, 0, none⟩) d.l.length cp)).ownsRow 0 9 1 (.slice (some ⟨g1, 0, none⟩) d.l.length cp) d.l.length (strs d.l)) :=
    ownsRow_setCell_other HO1.out (a := ⟨w.heap.size, 0, none⟩) (own_ne_blk HO1.out HBK.out (by decide)) _
  have B1 := Lib.hid b1
  clear b1
  have hgs : g < w1.heap.size := by omega
  have hgne : ¬ w.heap.size = g := by omega
  have hsrc0 := h.ownW.2
  rcases hsrc0 with ⟨e0, h0⟩ | ⟨gw, cap, cur, e0, _, _, _, _⟩
  · injection e0 with e0 e1 e2
    subst e0 e2
    have hws : Hid (d.waits = []) := List.eq_nil_of_length_eq_zero h0
    rw [h0] at q1
    clear e1 h0 h c1
    go_wp2_with (at_builtin; refine wpList_append_own_none rfl (.tmp 16) (.tmp 20) 58 rfl 0 64 j0 2 Try.underlying58 hj (.slice (some ⟨w1.heap.size, 0, none⟩) 0 0) 0 [] rfl HLIT2.out rfl ?_)
    go_ret
    have hbf : ((w1.setCell ⟨w.heap.size, 0, none⟩ (.slice (some ⟨g1, 0, none⟩) d.l.length cp)).setCell ⟨w.heap.size, 1, none⟩ (.slice (some ⟨w1.heap.size, 0, none⟩) 0 0)).heap[w.heap.size]? = some (.cells #[.slice (some ⟨g1, 0, none⟩) d.l.length cp, .slice (some ⟨w1.heap.size, 0, none⟩) 0 0, .int .i64 d.fuse, .int .i64 d.writes, .bool d.down] 60 (0, 0)) := by
      rw [blk_set BB.out 1 _]; rfl
    have hlit3 := World.ownsRow_lit (base := 0) (e := 64) (size := 2) ((w1.setCell ⟨w.heap.size, 0, none⟩ (.slice (some ⟨g1, 0, none⟩) d.l.length cp)).setCell ⟨w.heap.size, 1, none⟩ (.slice (some ⟨w1.heap.size, 0, none⟩) 0 0)) #[] 0 (Nat.zero_le _) (by decide) rfl
    simp only [World.size_setCell] at hlit3
    have hoo := ownsRow_setCell_other HOO.out (a := ⟨w.heap.size, 1, none⟩) (own_ne_blk HOO.out BB.out (by decide)) (.slice (some ⟨w1.heap.size, 0, none⟩) 0 0)
    refine cloned_of H.out ((B1.out.setCell (p := ⟨w.heap.size, 1, none⟩) (Nat.le_refl _) _).alloc (by simp; omega) _) (hoo.alloc _) (fun k hk => by simp [Value.ownBlock] at hk; have := hnew.out.1; omega) (v2 := .slice (some ⟨w1.heap.size, 0, none⟩) 0 0) ?_ (fun k hk => by simp only [Value.ownBlock, Option.some.injEq] at hk; omega) (blk_alloc hbf _)
    rw [hws.out]
    exact hlit3
  · injection e0 with e0 e1 e2
    subst e0
    have hsrc2 : ∀ j u, (wcells d.waits)[j]? = some u → ((w1.setCell ⟨w.heap.size, 0, none⟩ (.slice (some ⟨g1, 0, none⟩) d.l.length cp)).alloc (.cells #[] 64)).cell? ((⟨gw, 0, none⟩ : Addr).add j) = some u := fun j u hu => cell_below HTB.out (h.ownW.cells (g := gw) rfl j u hu)
    have HSRC2 := Lib.hid hsrc2
    clear hsrc2 h e1 e2
    go_wp2_with (at_builtin; refine wpList_append_own_at _ rfl (.tmp 16) (.tmp 20) 58 rfl 0 64 j0 _ 2 24 Try.underlying58 hj hy0 hy1 hy2 rfl (by decide) (.slice (some ⟨w1.heap.size, 0, none⟩) 0 0) 0 [] rfl HLIT2.out ⟨gw, 0, none⟩ d.waits.length c (wcells d.waits) rfl (by rw [wcells_length]) HSRC2.out ?c3 (by unfold maxLen; omega) (by omega) (Nat.zero_le _) ?_)
    case c3 =>
      intro u hu
      have : ∀ ws : List (Int × ByteArray), u ∈ wcells ws → u.oneCell' = true := by
        intro ws
        induction ws with
        | nil => intro h; simp [wcells] at h
        | cons x ws ih => intro h; simp only [wcells, List.mem_cons] at h; rcases h with rfl | rfl | h; rfl; rfl; exact ih h
      exact this _ hu
    intro v2 w2 ho2 hg2 hnil hat2
    try simp only [Nat.zero_add, List.nil_append] at ho2
    obtain ⟨g2, cp2, rfl⟩ := own_notnil ho2 (by simpa using hnil)
    have hat3 : Hid (w1.heap.size ≤ g2) := by rcases hat2 with e | e <;> (simp [Value.ownBlock] at e; unfold Hid; omega)
    have hb2 := blk_grown hg2 (blk_alloc BB.out _) (by simp [Value.ownBlock]; omega)
    have ho3 := (HOO.out.alloc (.cells #[] 64)).kept hg2 (.inr (by simp [Value.ownBlock]; have := hnew.out.2; omega))
    have t2 : Below w.heap.size w w2 := HTB.out.grown hg2 (by simp; omega) (fun k e => by simp [Value.ownBlock] at e; omega)
    have k1 := blk_cell hb2 1
    have f1 := blk_free hb2 1
    simp at k1
    have HB2 := Lib.hid hb2
    have HO2 := Lib.hid ho2
    have HO3 := Lib.hid ho3
    have T2 := Lib.hid t2
    clear ho2 hg2 hnil hat2 hb2 ho3 t2
    go_wp2
    go_ret
    refine cloned_of H.out (T2.out.setCell (p := ⟨w.heap.size, 1, none⟩) (Nat.le_refl _) _) (ownsRow_setCell_other HO3.out (a := ⟨w.heap.size, 1, none⟩) (own_ne_blk HO3.out HB2.out (by decide)) _) (fun k hk => by simp [Value.ownBlock] at hk; have := hnew.out.1; omega)
      (ownsRow_setCell_other HO2.out (a := ⟨w.heap.size, 1, none⟩) (own_ne_blk HO2.out HB2.out (by decide)) _) (fun k hk => by simp [Value.ownBlock] at hk; have := hat3.out; omega) ?_
    rw [blk_set HB2.out 1 _]; rfl
end Go.Proofs.Ytfkonndbgmmckaa
