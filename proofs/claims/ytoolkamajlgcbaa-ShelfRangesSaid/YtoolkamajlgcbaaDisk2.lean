/- Disk2: the walk of (*disk.Disk).Write. -/
import Derived.Test.YtoolkamajlgcbaaDisk1
set_option linter.unusedVariables false
set_option linter.unusedSimpArgs false
namespace Go.Proofs.Ytoolkamajlgcbaa
open Go.RowKit

theorem infoW : (Try.prog.info? 121).map (fun i => (i.zero, i.size, i.bytes)) = some (some (.agg #[.int .i64 0, .string ByteArray.empty]), 2, 24) := by kernel_rfl
theorem infoS : (Try.prog.info? 9).map (fun i => (i.zero, i.size, i.bytes)) = some (some (.string ByteArray.empty), 1, 16) := by kernel_rfl
theorem wcells_append (a b : List (Int × ByteArray)) : wcells (a ++ b) = wcells a ++ wcells b := by
  induction a with
  | nil => rfl
  | cons x a ih => simp [wcells, ih]
theorem own_shape {w : World} {base n : Nat} {e : TypeId} {size : Nat} {v : Value} {xs : List Value} (h : w.ownsRow base e size v (n + 1) xs) : ∃ g c, v = .slice (some ⟨g, 0, none⟩) (n + 1) c := by
  rcases h.2 with ⟨rfl, h0⟩ | ⟨g, cap, cur, rfl, _⟩
  · omega
  · exact ⟨g, cap, rfl⟩

/-- A disk to which a write is added. -/
theorem IsDisk.wrote {w w1 w2 : World} {F : Nat → Prop} {g : Nat} {d : Dk} {vl vw v1 : Value} (h : IsDisk w F g d vl vw) (i : Int) (s : ByteArray) (ok : (d.wrote i s).Ok)
    (ho : w1.ownsRow 0 121 2 v1 (d.waits.length + 1) (wcells d.waits ++ [.int .i64 i, .string s])) (hg : Touch (fun k => vw.ownBlock = some k) w w1)
    (hat : v1.ownBlock = vw.ownBlock ∨ ∃ k, v1.ownBlock = some k ∧ w.heap.size ≤ k)
    (ht : Touch (fun k => k = g) w1 w2)
    (hb : w2.heap[g]? = some (.cells #[vl, v1, .int .i64 (d.wrote i s).fuse, .int .i64 (d.wrote i s).writes, .bool (d.wrote i s).down] 104 (0, 0))) : DiskTo w F g (d.wrote i s) w2 := by
  have n1 := own_ne_blk h.own h.blk (by decide)
  have n2 := own_ne_blk h.ownW h.blk (by decide)
  have hb1 := blk_touch hg h.blk (fun e => n2 e)
  have n3 := own_ne_blk ho hb1 (by decide)
  have hne := own_ne_own h.own h.ownW (by decide)
  have o1 := own_touch h.own hg (fun k hk e => by rcases hne with hn | hn; rw [hn] at hk; cases hk; exact hn (hk.trans e.symm))
  have htt : Touch F w w2 := Touch.trans (hg.mono (fun k _ e => h.fw k e)) ht (fun j hj e => by subst e; exact h.fg)
  refine ⟨fun k => F k ∨ v1.ownBlock = some k, vl, v1, ⟨hb, own_touch o1 ht (fun k hk e => n1 (by rw [hk, e])), ?_, .inl h.fg, fun k hk => .inl (h.fl k hk), fun k hk => .inr hk, ?_, ok⟩, ?_, htt⟩
  · have o2 := own_touch ho ht (fun k hk e => n3 (by rw [hk, e]))
    have e1 : (d.wrote i s).waits = d.waits ++ [(i, s)] := rfl
    rw [e1, wcells_append, List.length_append]
    exact o2
  · intro k hk
    rcases hk with hk | hk
    · exact Nat.lt_of_lt_of_le (h.lt k hk) htt.size
    · exact Nat.lt_of_lt_of_le ((ho.lt k hk).2) ht.size
  · intro k hk
    rcases hk with hk | hk
    · exact .inl hk
    · rcases hat with hat | ⟨k', hk', hs⟩
      · exact .inl (h.fw k (hat ▸ hk))
      · rw [hk] at hk'; injection hk' with hk'; subst hk'; exact .inr hs

set_option maxHeartbeats 800000 in
set_option maxRecDepth 100000 in
theorem write_any (w : World) (F : Nat → Prop) (g : Nat) (d : Dk) (vl vw : Value) (h : IsDisk w F g d vl vw) (i : Int) (s : ByteArray) (hs : s.size ≤ 9223372036854775807)
    (hm : d.waits.length + 1 ≤ 5864062014805) (hm2 : d.writes < 9223372036854775807) :
    Calls Try.prog 52 #[.pointer (some ⟨g, 0, none⟩), .int .i64 i, .string s] w fun e w' => e = .returned (.int .i64 (d.writeE i s)) ∧ DiskTo w F g (d.write i s) w' := by
  obtain ⟨i0, hi, hz0, hz1, hz2⟩ := info_parts infoW
  by_cases hu : d.use i = 0
  · by_cases hs2 : s.size = 256
    · have hss : ((s.size : Int) == 256) = true := by simp [hs2]
      have he : Hid (d.writeE i s = 0) := by unfold Hid Dk.writeE; rw [if_pos hu, if_pos hs2]
      have hd : Hid (d.write i s = d.wrote i s) := by unfold Hid Dk.write; rw [if_pos he.out]
      have OK := Lib.hid (h.ok.write i s)
      have HU := Lib.hid hu
      clear hu hs2
      have c1 := blk_cell h.blk 1
      simp at c1
      go_enter Try.func52, Try.ntmps52
      have hmx : d.waits.length + 1 ≤ maxLen := by unfold maxLen; omega
      have hmb : (d.waits.length + 1) * 24 ≤ 140737488355328 := by omega
      go_wp2_with (first
        | (go_at_call 69; refine (use_any _ _ _ _ _ _ h _).mono ?_; rintro e w' ⟨rfl, rfl⟩; rw [HU.out])
        | (at_builtin; refine wpList_append_own_at _ rfl (.tmp 21) (.tmp 25) 102 rfl 0 121 i0 _ 2 24 Try.underlying102 hi hz0 hz1 hz2 rfl (by decide) vw d.waits.length (wcells d.waits) rfl (h.ownW.alloc _) ⟨w.heap.size, 0, none⟩ 1 1 [.int .i64 i, .string s] rfl rfl ?c1 ?c2 hmx hmb (Nat.zero_le _) ?_))
      case c1 =>
        intro j u hj
        match j, hj with
        | 0, hj => simp at hj; subst hj; simp [Addr.add]
        | 1, hj => simp at hj; subst hj; simp [Addr.add]
      case c2 => intro u hu; simp at hu; rcases hu with rfl | rfl <;> rfl
      intro v1 w1 ho hg _ hat
      have ht1 : Touch (fun k => vw.ownBlock = some k) w w1 := ((Touch.refl _ w).alloc _).grown hg (fun k e => .inl e)
      have n2 := own_ne_blk h.ownW h.blk (by decide)
      have b1 := blk_touch ht1 h.blk (fun e => n2 e)
      have HO := Lib.hid ho
      have H : Hid (IsDisk w F g d vl vw) := h
      have HT := Lib.hid ht1
      obtain ⟨g1, cp, rfl⟩ := own_shape ho
      have hat' : Hid ((Value.slice (some ⟨g1, 0, none⟩) (d.waits.length + 1) cp).ownBlock = vw.ownBlock ∨ ∃ k, (Value.slice (some ⟨g1, 0, none⟩) (d.waits.length + 1) cp).ownBlock = some k ∧ w.heap.size ≤ k) := by
        rcases hat with e | e
        · exact .inl e
        · exact .inr ⟨_, e, by simp⟩
      have B1 := Lib.hid b1
      have k1 := blk_cell b1 1
      have k2 := blk_cell b1 2
      have k3 := blk_cell b1 3
      have k4 := blk_cell b1 4
      have f1 := blk_free b1 1
      have f2 := blk_free b1 2
      have f3 := blk_free b1 3
      have f4 := blk_free b1 4
      simp at k1 k2 k3 k4
      have w0 := h.ok.writes0
      have u0 := h.ok.fuse0
      have u1 := h.ok.fuse1
      have hd2 : Hid (d.down = false) := (Dk.use_zero HU.out).1
      clear ho hg hat ht1 n2 b1 h hi c1
      by_cases hf : 0 < d.fuse
      · have q1 : Hid ((d.wrote i s).fuse = d.fuse - 1) := by unfold Hid Dk.wrote; simp [hf]
        have q2 : Hid ((d.wrote i s).down = (d.fuse - 1 == 0)) := by unfold Hid Dk.wrote; simp [hf]
        go_wp2
        go_ret
        refine ⟨by rw [he.out]; rfl, ?_⟩
        rw [hd.out]
        refine H.out.wrote i s (hd.out ▸ OK.out) HO.out HT.out hat'.out (((((Touch.refl (fun k => k = g) w1).setG 1 _).setG 3 _).setG 2 _).setG 4 _) ?_
        rw [blk_set (blk_set (blk_set (blk_set B1.out 1 _) 3 _) 2 _) 4 _, q1.out, q2.out]
        rfl
      · have q1 : Hid ((d.wrote i s).fuse = d.fuse) := by unfold Hid Dk.wrote; simp [hf]
        have q2 : Hid ((d.wrote i s).down = d.down) := by unfold Hid Dk.wrote; simp [hf]
        go_wp2
        go_ret
        refine ⟨by rw [he.out]; rfl, ?_⟩
        rw [hd.out]
        refine H.out.wrote i s (hd.out ▸ OK.out) HO.out HT.out hat'.out (((Touch.refl (fun k => k = g) w1).setG 1 _).setG 3 _) ?_
        rw [blk_set (blk_set B1.out 1 _) 3 _, q1.out, q2.out]
        rfl
    · have hss : ((s.size : Int) == 256) = false := by simpa using (by omega : ¬ (s.size : Int) = 256)
      have he : Hid (d.writeE i s = 1) := by unfold Hid Dk.writeE; rw [if_pos hu, if_neg hs2]
      have hd : Hid (d.write i s = d) := by unfold Hid Dk.write; rw [if_neg (by rw [he.out]; decide)]
      have HU := Lib.hid hu
      clear hu hs2
      go_enter Try.func52, Try.ntmps52
      go_wp2_with (first
        | (go_at_call 69; refine (use_any _ _ _ _ _ _ h _).mono ?_; rintro e w' ⟨rfl, rfl⟩; rw [HU.out]))
      go_ret
      exact ⟨by rw [he.out]; rfl, by rw [hd.out]; exact h.self⟩
  · have hu1 : (d.use i == 0) = false := by simp [hu]
    have he : Hid (d.writeE i s = d.use i) := by unfold Hid Dk.writeE; rw [if_neg hu]
    have hd : Hid (d.write i s = d) := by unfold Hid Dk.write; rw [he.out, if_neg hu]
    clear hu
    go_enter Try.func52, Try.ntmps52
    go_wp2_with (first
      | (go_at_call 69; refine (use_any _ _ _ _ _ _ h _).mono ?_; rintro e w' ⟨rfl, rfl⟩))
    go_ret
    exact ⟨by rw [he.out]; rfl, by rw [hd.out]; exact h.self⟩
end Go.Proofs.Ytoolkamajlgcbaa
