/- Disk2: the walk of (*disk.Disk).Write. -/
import Derived.Test.YtoolkamajlgcbaaMr01
set_option linter.unusedVariables false
set_option linter.unusedSimpArgs false
namespace Go.Proofs.Ytoolkamajlgcbaa
open Go.RowKit

theorem infoW : (Try.prog.info? 121).map (fun i => (i.zero, i.size, i.bytes)) = some (some (.agg #[.int .i64 0, .string ByteArray.empty]), 2, 24) := by kernel_rfl
theorem infoS : (Try.prog.info? 9).map (fun i => (i.zero, i.size, i.bytes)) = some (some (.string ByteArray.empty), 1, 16) := by kernel_rfl
theorem wcells_append (a b : List (Int × ByteArray)) : wcells (a ++ b) = wcells a ++ wcells b := by
  induction a with
  | nil => rfl
  | cons x a ih => simp [wcells, ih]
theorem own_shape {w : World} {base n : Nat} {e : TypeId} {size : Nat} {v : Value} {xs : List Value} (h : w.ownsRow base e size v (n + 1) xs) : ∃ g c, v = .slice (some ⟨g, 0, none⟩) (n + 1) c := by
  rcases h.2 with ⟨rfl, h0⟩ | ⟨g, cap, cur, rfl, _⟩
  · omega
  · exact ⟨g, cap, rfl⟩

/-- A disk to which a write is added. -/
theorem IsDisk.wrote {w w1 w2 : World} {F : Nat → Prop} {g : Nat} {d : Dk} {vl vw v1 : Value} (h : IsDisk w F g d vl vw) (i : Int) (s : ByteArray) (ok : (d.wrote i s).Ok)
    (ho : w1.ownsRow 0 121 2 v1 (d.waits.length + 1) (wcells d.waits ++ [.int .i64 i, .string s])) (hg : Touch (fun k => vw.ownBlock = some k) w w1)
    (hat : v1.ownBlock = vw.ownBlock ∨ ∃ k, v1.ownBlock = some k ∧ w.heap.size ≤ k)
    (ht : Touch (fun k => k = g) w1 w2)
    (hb : w2.heap[g]? = some (.cells #[vl, v1, .int .i64 (d.wrote i s).fuse, .int .i64 (d.wrote i s).writes, .bool (d.wrote i s).down] 104 (0, 0))) : DiskTo w F g (d.wrote i s) w2 := by
  have n1 := own_ne_blk h.own h.blk (by decide)
  have n2 := own_ne_blk h.ownW h.blk (by decide)
  have hb1 := blk_touch hg h.blk (fun e => n2 e)
  have n3 := own_ne_blk ho hb1 (by decide)
  have hne := own_ne_own h.own h.ownW (by decide)
  have o1 := own_touch h.own hg (fun k hk e => by rcases hne with hn | hn; rw [hn] at hk; cases hk; exact hn (hk.trans e.symm))
  have htt : Touch F w w2 := Touch.trans (hg.mono (fun k _ e => h.fw k e)) ht (fun j hj e => by subst e; exact h.fg)
  refine ⟨fun k => F k ∨ v1.ownBlock = some k, vl, v1, ⟨hb, own_touch o1 ht (fun k hk e => n1 (by rw [hk, e])), ?_, .inl h.fg, fun k hk => .inl (h.fl k hk), fun k hk => .inr hk, ?_, ok⟩, ?_, htt⟩
  · have o2 := own_touch ho ht (fun k hk e => n3 (by rw [hk, e]))
    have e1 : (d.wrote i s).waits = d.waits ++ [(i, s)] := rfl
    rw [e1, wcells_append, List.length_append]
    exact o2
  · intro k hk
    rcases hk with hk | hk
    · exact Nat.lt_of_lt_of_le (h.lt k hk) htt.size
    · exact Nat.lt_of_lt_of_le ((ho.lt k hk).2) ht.size
  · intro k hk
    rcases hk with hk | hk
    · exact .inl hk
    · rcases hat with hat | ⟨k', hk', hs⟩
      · exact .inl (h.fw k (hat ▸ hk))
      · rw [hk] at hk'; injection hk' with hk'; subst hk'; exact .inr hs

set_option maxHeartbeats 800000 in
set_option maxRecDepth 100000 in
theorem write_any (w : World) (F : Nat → Prop) (g : Nat) (d : Dk) (vl vw : Value) (h : IsDisk w F g d vl vw) (i : Int) (s : ByteArray) (hs : s.size ≤ 9223372036854775807)
    (hm : d.waits.length + 1 ≤ 5864062014805) (hm2 : d.writes < 9223372036854775807) :
    Calls Try.prog 52 #[.pointer (some ⟨g, 0, none⟩), .int .i64 i, .string s] w fun e w' => e = .returned (.int .i64 (d.writeE i s)) ∧ DiskTo w F g (d.write i s) w' := by
  obtain ⟨i0, hi, hz0, hz1, hz2⟩ := info_parts infoW
  by_cases hu : d.use i = 0
  · by_cases hs2 : s.size = 256
    · have hss : ((s.size : Int) == 256) = true := by simp [hs2]
      have he : Hid (d.writeE i s = 0) := by unfold Hid Dk.writeE; rw [if_pos hu, if_pos hs2]
      have hd : Hid (d.write i s = d.wrote i s) := by unfold Hid Dk.write; rw [if_pos he.out]
      have OK := Lib.hid (h.ok.write i s)
      have HU := Lib.hid hu
      clear hu hs2
      have c1 := blk_cell h.blk 1
      simp at c1
      go_enter Try.func52, Try.ntmps52
      have hmx : d.waits.length + 1 ≤ maxLen := by unfold maxLen; omega
      have hmb : (d.waits.length + 1) * 24 ≤ 140737488355328 := by omega
      go_wp2_with (first
        | (go_at_call 69; refine (use_any _ _ _ _ _ _ h _).mono ?_; rintro e w' ⟨rfl, rfl⟩; rw [HU.out])
        | (at_builtin; refine wpList_append_own_at _ rfl (.tmp 21) (.tmp 25) 102 rfl 0 121 i0 _ 2 24 Try.underlying102 hi hz0 hz1 hz2 rfl (by decide) vw d.waits.length (wcells d.waits) rfl (h.ownW.alloc _) ⟨w.heap.size, 0, none⟩ 1 1 [.int .i64 i, .string s] rfl rfl ?c1 ?c2 hmx hmb (Nat.zero_le _) ?_))
      case c1 =>
        intro j u hj
        match j, hj with
        | 0, hj => simp at hj; subst hj; simp [Addr.add]
        | 1, hj => simp at hj; subst hj; simp [Addr.add]
      case c2 => intro u hu; simp at hu; rcases hu with rfl | rfl <;> rfl
      intro v1 w1 ho hg _ hat
      have ht1 : Touch (fun k => vw.ownBlock = some k) w w1 := ((Touch.refl _ w).alloc _).grown hg (fun k e => .inl e)
      have n2 := own_ne_blk h.ownW h.blk (by decide)
      have b1 := blk_touch ht1 h.blk (fun e => n2 e)
      have HO := Lib.hid ho
      have H : Hid (IsDisk w F g d vl vw) := h
      have HT := Lib.hid ht1
      obtain ⟨g1, cp, rfl⟩ := own_shape ho
      have hat' : Hid ((Value.slice (some ⟨g1, 0, none⟩) (d.waits.length + 1) cp).ownBlock = vw.ownBlock ∨ ∃ k, (Value.slice (some ⟨g1, 0, none⟩) (d.waits.length + 1) cp).ownBlock = some k ∧ w.heap.size ≤ k) := by
        rcases hat with e | e
        · exact .inl e
        · exact .inr ⟨_, e, by simp⟩
      have B1 := Lib.hid b1
      have k1 := blk_cell b1 1
      have k2 := blk_cell b1 2
      have k3 := blk_cell b1 3
      have k4 := blk_cell b1 4
      have f1 := blk_free b1 1
      have f2 := blk_free b1 2
      have f3 := blk_free b1 3
      have f4 := blk_free b1 4
      simp at k1 k2 k3 k4
      have w0 := h.ok.writes0
      have u0 := h.ok.fuse0
      have u1 := h.ok.fuse1
      have hd2 : Hid (d.down = false) := (Dk.use_zero HU.out).1
      clear ho hg hat ht1 n2 b1 h hi c1
      by_cases hf : 0 < d.fuse
      · have q1 : Hid ((d.wrote i s).fuse = d.fuse - 1) := by unfold Hid Dk.wrote; simp [hf]
        have q2 : Hid ((d.wrote i s).down = (d.fuse - 1 == 0)) := by unfold Hid Dk.wrote; simp [hf]
        go_wp2
        go_ret
        refine ⟨by rw [he.out]; rfl, ?_⟩
        rw [hd.out]
        refine H.out.wrote i s (hd.out ▸ OK.out) HO.out HT.out hat'.out (((((Touch.refl (fun k => k = g) w1).setG 1 _).setG 3 _).setG 2 _).setG 4 _) ?_
        rw [blk_set (blk_set (blk_set (blk_set B1.out 1 _) 3 _) 2 _) 4 _, q1.out, q2.out]
        rfl
      · have q1 : Hid ((d.wrote i s).fuse = d.fuse) := by unfold Hid Dk.wrote; simp [hf]
        have q2 : Hid ((d.wrote i s).down = d.down) := by unfold Hid Dk.wrote; simp [hf]
        go_wp2
        go_ret
        refine ⟨by rw [he.out]; rfl, ?_⟩
        rw [hd.out]
        refine H.out.wrote i s (hd.out ▸ OK.out) HO.out HT.out hat'.out (((Touch.refl (fun k => k = g) w1).setG 1 _).setG 3 _) ?_
        rw [blk_set (blk_set B1.out 1 _) 3 _, q1.out, q2.out]
        rfl
    · have hss : ((s.size : Int) == 256) = false := by simpa using (by omega : ¬ (s.size : Int) = 256)
      have he : Hid (d.writeE i s = 1) := by unfold Hid Dk.writeE; rw [if_pos hu, if_neg hs2]
      have hd : Hid (d.write i s = d) := by unfold Hid Dk.write; rw [if_neg (by rw [he.out]; decide)]
      have HU := Lib.hid hu
      clear hu hs2
      go_enter Try.func52, Try.ntmps52
      go_wp2_with (first
        | (go_at_call 69; refine (use_any _ _ _ _ _ _ h _).mono ?_; rintro e w' ⟨rfl, rfl⟩; rw [HU.out]))
      go_ret
      exact ⟨by rw [he.out]; rfl, by rw [hd.out]; exact h.self⟩
  · have hu1 : (d.use i == 0) = false := by simp [hu]
    have he : Hid (d.writeE i s = d.use i) := by unfold Hid Dk.writeE; rw [if_neg hu]
    have hd : Hid (d.write i s = d) := by unfold Hid Dk.write; rw [he.out, if_neg hu]
    clear hu
    go_enter Try.func52, Try.ntmps52
    go_wp2_with (first
      | (go_at_call 69; refine (use_any _ _ _ _ _ _ h _).mono ?_; rintro e w' ⟨rfl, rfl⟩))
    go_ret
    exact ⟨by rw [he.out]; rfl, by rw [hd.out]; exact h.self⟩
end Go.Proofs.Ytoolkamajlgcbaa
/- Disk3: the walk of (*disk.Disk).Read. -/
set_option linter.unusedVariables false
set_option linter.unusedSimpArgs false
namespace Go.Proofs.Ytoolkamajlgcbaa
open Go.RowKit

theorem look_snoc (i : Int) (w : Int × ByteArray) (ws : List (Int × ByteArray)) : ∀ s, Dk.look i (ws ++ [w]) s = if w.1 = i then w.2 else Dk.look i ws s := by
  induction ws with
  | nil => intro s; rfl
  | cons x ws ih => intro s; exact ih _
theorem wcells_at (ws : List (Int × ByteArray)) : ∀ (k : Nat) (h : k < ws.length), (wcells ws)[k * 2]? = some (.int .i64 ws[k].1) ∧ (wcells ws)[k * 2 + 1]? = some (.string ws[k].2) := by
  induction ws with
  | nil => intro k h; simp at h
  | cons x ws ih =>
    intro k h
    cases k with
    | zero => exact ⟨rfl, rfl⟩
    | succ k =>
      have := ih k (by simpa using h)
      rw [show (k + 1) * 2 = (k * 2) + 1 + 1 by omega]
      simpa [wcells] using this
theorem wcells_length (ws : List (Int × ByteArray)) : (wcells ws).length = ws.length * 2 := by
  induction ws with
  | nil => rfl
  | cons x ws ih => simp [wcells, ih]; omega

/-- A disk's waiting writes, read one by one. -/
theorem IsDisk.wait {w : World} {F : Nat → Prop} {g : Nat} {d : Dk} {vl vw : Value} (h : IsDisk w F g d vl vw) : ∀ A c, vw = .slice A d.waits.length c → ∀ k (hk : k < d.waits.length),
    ∃ gw, A = some ⟨gw, 0, none⟩ ∧ F gw ∧ w.cell? ⟨gw, k * 2, none⟩ = some (.int .i64 d.waits[k].1) ∧ w.cell? ⟨gw, k * 2 + 1, none⟩ = some (.string d.waits[k].2) := by
  intro A c e k hk
  subst e
  rcases h.ownW.2 with ⟨e, h0⟩ | ⟨gw, cap, cur, e, _⟩
  · omega
  · injection e with e1 e2 e3
    subst e1
    obtain ⟨a, b⟩ := wcells_at d.waits k hk
    exact ⟨gw, rfl, h.fw _ rfl, (h.ownW.cellAt (k * 2) (by omega)).trans a, (h.ownW.cellAt (k * 2 + 1) (by omega)).trans b⟩
theorem IsDisk.sector {w : World} {F : Nat → Prop} {g : Nat} {d : Dk} {vl vw : Value} (h : IsDisk w F g d vl vw) : ∃ gl c, vl = .slice (some ⟨gl, 0, none⟩) d.l.length c ∧ F gl ∧
    (∀ k, k < d.l.length → w.cell? ⟨gl, k, none⟩ = some (.string (d.l.getD k ByteArray.empty))) ∧ (∀ k, w.frozen? ⟨gl, k, none⟩ = false) := by
  rcases h.own.2 with ⟨e, h0⟩ | ⟨gl, cap, cur, rfl, _⟩
  · have := h.ok.pos; omega
  · refine ⟨gl, cap, rfl, h.fl _ rfl, fun k hk => (h.own.cellAt k (by omega)).trans ?_, fun k => h.own.frozenAt k⟩
    simp [strs, List.getElem?_map, List.getElem?_eq_getElem hk]

set_option maxHeartbeats 800000 in
set_option maxRecDepth 100000 in
theorem read_any (w : World) (F : Nat → Prop) (g : Nat) (d : Dk) (vl vw : Value) (h : IsDisk w F g d vl vw) (i : Int) (hm : d.waits.length < 9223372036854775807) :
    Calls Try.prog 65 #[.pointer (some ⟨g, 0, none⟩), .int .i64 i] w fun e w' => e = .returned (.tuple #[.string (d.read i).1, .int .i64 (d.read i).2]) ∧ Below w.heap.size w w' := by
  by_cases hu : d.use i = 0
  · obtain ⟨hd, hi0, hi1⟩ := Dk.use_zero hu
    obtain ⟨n, rfl⟩ := Int.eq_ofNat_of_zero_le hi0
    have hn : n < d.l.length := by omega
    have hr : Hid (d.read n = (Dk.look n d.waits (d.l.getD n ByteArray.empty), 0)) := by unfold Hid Dk.read; rw [if_pos hu]; simp
    have HU := Lib.hid hu
    clear hu hd
    obtain ⟨gl, cl, rfl, hfl, hcl, _⟩ := h.sector
    have hc := hcl n hn
    clear hcl
    have c0 := blk_cell h.blk 0
    have c1 := blk_cell h.blk 1
    simp at c0 c1
    obtain ⟨A, c, rfl⟩ := own_slice h.ownW
    obtain ⟨s0, hs0⟩ : ∃ s0, s0 = d.l.getD n ByteArray.empty := ⟨_, rfl⟩
    rw [← hs0] at hc
    have HS := Lib.hid hs0
    clear hs0
    go_enter Try.func65, Try.ntmps65
    go_wp2_with (first
      | (go_at_call 69; refine (use_any _ _ _ _ _ _ h _).mono ?_; rintro e w' ⟨rfl, rfl⟩; rw [HU.out]))
    go_loopw [7, 28] (fun s j wr => ∃ k : Nat, k ≤ d.waits.length ∧ j = .int .i64 k ∧ s = .string (Dk.look n (d.waits.take k) s0) ∧ Below w.heap.size w wr) (fun _ j _ => d.waits.length - (intOf j).toNat)
    case atStart => exact ⟨0, Nat.zero_le _, rfl, rfl, Below.refl _ _⟩
    case round =>
      obtain ⟨k, hk, rfl, rfl, hb⟩ := hrel
      have HB := Lib.hid hb
      by_cases hlt : k < d.waits.length
      · obtain ⟨gw, rfl, _, a1, a2⟩ := h.wait _ _ rfl k hlt
        have e1 := cell_below hb a1
        have e2 := cell_below hb a2
        have hsz := hb.size
        clear a1 a2 hb
        have hts : d.waits.take (k + 1) = d.waits.take k ++ [d.waits[k]] := by rw [List.take_succ_eq_append_getElem hlt]
        by_cases heq : d.waits[k].1 = (n : Int)
        · have q : (d.waits[k].1 == (n : Int)) = true := by simp [heq]
          have hl : Hid (Dk.look n (d.waits.take (k + 1)) s0 = d.waits[k].2) := by unfold Hid; rw [hts, look_snoc, if_pos heq]
          clear heq hts
          go_wp2
          go_roundw
          case rel => exact ⟨k + 1, by omega, by go_num, by rw [hl.out], HB.out.alloc hsz _⟩
          case measure => simp [intOf]; omega
        · have q : (d.waits[k].1 == (n : Int)) = false := by simp [heq]
          have hl : Hid (Dk.look n (d.waits.take (k + 1)) s0 = Dk.look n (d.waits.take k) s0) := by unfold Hid; rw [hts, look_snoc, if_neg heq]
          clear heq hts
          go_wp2
          go_roundw
          case rel => exact ⟨k + 1, by omega, by go_num, by rw [hl.out], HB.out.alloc hsz _⟩
          case measure => simp [intOf]; omega
      · have hl : Hid (d.waits.take k = d.waits) := List.take_of_length_le (by omega)
        clear hb
        go_wp2
        go_ret2
        exact ⟨by rw [hr.out, hl.out, HS.out]; rfl, HB.out⟩
  · have hu1 : (d.use i == 0) = false := by simp [hu]
    have hr : Hid (d.read i = (ByteArray.empty, d.use i)) := by unfold Hid Dk.read; rw [if_neg hu]
    clear hu
    go_enter Try.func65, Try.ntmps65
    go_wp2_with (first
      | (go_at_call 69; refine (use_any _ _ _ _ _ _ h _).mono ?_; rintro e w' ⟨rfl, rfl⟩))
    go_ret2
    exact ⟨by rw [hr.out]; rfl, Below.refl _ _⟩
end Go.Proofs.Ytoolkamajlgcbaa
/- Disk4: the walks of Fail$1 and settle. -/
set_option linter.unusedVariables false
set_option linter.unusedSimpArgs false
namespace Go.Proofs.Ytoolkamajlgcbaa
open Go.RowKit

theorem settle_snoc (p : Nat → Bool) (w : Int × ByteArray) (ws : List (Int × ByteArray)) : ∀ (n : Nat) (l : List ByteArray),
    Dk.settle p n (ws ++ [w]) l = if p (n + ws.length) = true then (Dk.settle p n ws l).set w.1.toNat w.2 else Dk.settle p n ws l := by
  induction ws with
  | nil => intro n l; rfl
  | cons x ws ih =>
    intro n l
    have := ih (n + 1) (if p n = true then l.set x.1.toNat x.2 else l)
    rw [List.cons_append, Dk.settle, this, List.length_cons, show n + 1 + ws.length = n + (ws.length + 1) by omega]
    rfl

/-- Bools that are read. -/
def RdB (w : World) (v : Value) (l : List Bool) : Prop := Rd w 1 v l.length (l.map Value.bool)
theorem Rd.touch {w w' : World} {S : Nat → Prop} {size n : Nat} {v : Value} {xs : List Value} (h : Rd w size v n xs) (ht : Touch S w w') (hS : 0 < n * size → ∀ k, v.ownBlock = some k → ¬ S k) : Rd w' size v n xs := by
  obtain ⟨hl, A, c, rfl, h1, h2, h3⟩ := h
  refine ⟨hl, A, c, rfl, h1, h2, fun hp => ?_⟩
  obtain ⟨ad, e, hc⟩ := h3 hp
  refine ⟨ad, e, fun j u hu => cell_keep ht (hc j u hu) ?_⟩
  have : (ad.add j).block = ad.block := by unfold Addr.add; split <;> rfl
  rw [this]
  exact hS hp _ (by rw [e]; rfl)

theorem fail1_any (w : World) (pb : Nat) (pv : Value) (picks : List Bool) (hc : w.cell? ⟨pb, 0, none⟩ = some pv) (hr : RdB w pv picks) (i : Nat) (hi : i < 9223372036854775807) :
    Calls Try.prog 57 #[.int .i64 i, .pointer (some ⟨pb, 0, none⟩)] w fun e w' => e = .returned (.bool (picks.getD i false)) ∧ w = w' := by
  obtain ⟨hl, A, c, rfl, h1, h2, h3⟩ := hr
  by_cases hlt : i < picks.length
  · obtain ⟨ad, rfl, hcell⟩ := h3 (by omega)
    have hx := hcell i (.bool picks[i]) (by simp [List.getElem?_eq_getElem hlt])
    have hg : Hid (picks.getD i false = picks[i]) := by unfold Hid; simp [List.getD_eq_getElem?_getD, hlt]
    have hd : decide (i < picks.length) = true := by simp [hlt]
    go_enter Try.func57, Try.ntmps57
    go_wp2
    go_ret
    exact ⟨by rw [hg.out]; rfl, rfl⟩
  · have hg : Hid (picks.getD i false = false) := by unfold Hid; simp [List.getD_eq_getElem?_getD, List.getElem?_eq_none (Nat.le_of_not_lt hlt)]
    have hd : decide (i < picks.length) = false := by simp [hlt]
    go_enter Try.func57, Try.ntmps57
    go_wp2
    go_ret
    exact ⟨by rw [hg.out]; rfl, rfl⟩

set_option maxHeartbeats 800000 in
set_option maxRecDepth 100000 in
theorem settle_fail (w : World) (F : Nat → Prop) (g : Nat) (d : Dk) (vl vw : Value) (h : IsDisk w F g d vl vw) (hm : d.waits.length < 9223372036854775807)
    (pb : Nat) (pv : Value) (picks : List Bool) (hc : w.cell? ⟨pb, 0, none⟩ = some pv) (hr : RdB w pv picks) (hpb : ¬ F pb) (hpv : 0 < picks.length → ∀ k, pv.ownBlock = some k → ¬ F k) :
    Calls Try.prog 56 #[.pointer (some ⟨g, 0, none⟩), .func (.func 57) #[] #[.pointer (some ⟨pb, 0, none⟩)]] w fun e w' => e = .returned (.tuple #[]) ∧
      IsDisk w' F g (d.settled (fun i => picks.getD i false)) vl (.slice none 0 0) ∧ Touch F w w' := by
  obtain ⟨p, hp⟩ : ∃ p : Nat → Bool, p = fun i => picks.getD i false := ⟨_, rfl⟩
  obtain ⟨gl, cl, rfl, hfl, _, hfree⟩ := h.sector
  have c0 := blk_cell h.blk 0
  have c1 := blk_cell h.blk 1
  simp at c0 c1
  obtain ⟨A, c, rfl⟩ := own_slice h.ownW
  have hno := h.ok.at_
  have hlen := h.ok.most
  have HP := Lib.hid hp
  clear hp
  go_enter Try.func56, Try.ntmps56
  go_wp2_with fail
  go_loopw [11] (fun j wr => ∃ k : Nat, k ≤ d.waits.length ∧ j = .int .i64 k ∧ wr.ownsRow 0 9 1 (.slice (some ⟨gl, 0, none⟩) d.l.length cl) d.l.length (strs (Dk.settle p 0 (d.waits.take k) d.l)) ∧ Touch (fun k => k = gl) w wr) (fun j _ => d.waits.length - (intOf j).toNat)
  case atStart => exact ⟨0, Nat.zero_le _, rfl, h.own, Touch.refl _ _⟩
  case round =>
    obtain ⟨k, hk, rfl, ho, ht⟩ := hrel
    have ngl : ¬ g = gl := fun e => own_ne_blk h.own h.blk (by decide) (by rw [← e]; rfl)
    have hT := Lib.hid ht
    have hO := Lib.hid ho
    have hsz := ht.size
    have c0' := cell_keep ht c0 ngl
    have c1' := cell_keep ht c1 ngl
    have f1 : wr.frozen? ⟨g, 1, none⟩ = false := blk_free (blk_touch ht h.blk ngl) 1
    by_cases hlt : k < d.waits.length
    · obtain ⟨gw, rfl, hfw, a1, a2⟩ := h.wait _ _ rfl k hlt
      have nw : ¬ gw = gl := fun e => by
        rcases own_ne_own h.ownW h.own (by decide) with h' | h'
        · simp [Value.ownBlock] at h'
        · exact h' (by simp [Value.ownBlock, e])
      obtain ⟨hx0, hx1⟩ := hno d.waits[k] (List.getElem_mem hlt)
      obtain ⟨n, hn⟩ := Int.eq_ofNat_of_zero_le hx0
      rw [hn] at hx1 a1
      have e1 := cell_keep ht a1 nw
      have e2 := cell_keep ht a2 nw
      have e3 : wr.cell? ⟨pb, 0, none⟩ = some pv := cell_keep ht hc (fun e => hpb (by rw [show pb = gl from e]; exact hfl))
      have e4 : RdB wr pv picks := Rd.touch hr ht (fun hp j hj e => hpv (by omega) j hj (by rw [e]; exact hfl))
      have hn1 : n < d.l.length := by omega
      have e5 : wr.cell? ⟨gl, n, none⟩ = some (.string ((Dk.settle p 0 (d.waits.take k) d.l).getD n ByteArray.empty)) := by
        have := ho.cellAt n (by omega)
        rw [this]
        have hl : n < (Dk.settle p 0 (d.waits.take k) d.l).length := by rw [Dk.settle_length]; exact hn1
        simp [strs, List.getElem?_map, List.getElem?_eq_getElem hl]
      have f5 := ho.frozenAt (g := gl) n
      have hts : d.waits.take (k + 1) = d.waits.take k ++ [d.waits[k]] := by rw [List.take_succ_eq_append_getElem hlt]
      have hss := settle_snoc p d.waits[k] (d.waits.take k) 0 d.l
      rw [← hts] at hss
      have hlk : (d.waits.take k).length = k := by simp; omega
      rw [hlk, Nat.zero_add] at hss
      have E4 := Lib.hid e4
      have hcall : Calls Try.prog 57 #[.int .i64 k, .pointer (some ⟨pb, 0, none⟩)] (wr.alloc (.cells #[.int .i64 n, .string d.waits[k].2] 121)) fun e w' => e = .returned (.bool (picks.getD k false)) ∧ (wr.alloc (.cells #[.int .i64 n, .string d.waits[k].2] 121)) = w' :=
        fail1_any _ pb pv picks (cell_below ((Below.refl _ wr).alloc (Nat.le_refl _) _) e3) (Rd.below e4 ((Below.refl _ wr).alloc (Nat.le_refl _) _)) k (by omega)
      have HC := Lib.hid hcall
      have bal : Below wr.heap.size wr (wr.alloc (.cells #[.int .i64 n, .string d.waits[k].2] 121)) := (Below.refl _ wr).alloc (Nat.le_refl _) _
      have r0 := cell_below bal c0'
      have r5 := cell_below bal e5
      have fr5 : (wr.alloc (.cells #[.int .i64 n, .string d.waits[k].2] 121)).frozen? ⟨gl, n, none⟩ = false := (bal.frozen (p := ⟨gl, n, none⟩) (World.block_lt_of_cell? _ _ e5)).trans f5
      by_cases hpk : picks.getD k false = true
      · have hpk' : p k = true := by rw [HP.out]; exact hpk
        rw [if_pos hpk', hn] at hss
        have HS := Lib.hid hss
        have HPK := Lib.hid hpk
        clear a1 a2 ho ht hcall e4 hss hts hpk hpk' hn hr hc
        go_wp2_with (go_at_call 57; refine HC.out.mono ?_; rintro e w' ⟨rfl, rfl⟩; rw [HPK.out])
        go_region
        all_goals go_wp2
        go_roundw
        case rel =>
          refine ⟨k + 1, by omega, by go_num, ?_, (((hT.out.alloc _).setCell (p := ⟨gl, n, none⟩) (.inl rfl) _).drew)⟩
          have st := ((hO.out.alloc (.cells #[.int .i64 n, .string d.waits[k].2] 121)).stored n (.string d.waits[k].2)).1
          rw [HS.out]
          simp only [strs, List.map_set, Int.toNat_natCast] at st ⊢
          exact st
        case measure => simp [intOf]; omega
      · have hpk' : p k = false := by rw [HP.out]; simpa using hpk
        rw [if_neg (by rw [hpk']; decide)] at hss
        have hpk2 : picks.getD k false = false := by simpa using hpk
        have HS := Lib.hid hss
        have HPK := Lib.hid hpk2
        clear a1 a2 ho ht hcall e4 hss hts hpk hpk' hpk2 hn hr hc
        go_wp2_with (go_at_call 57; refine HC.out.mono ?_; rintro e w' ⟨rfl, rfl⟩; rw [HPK.out])
        go_roundw
        case rel => exact ⟨k + 1, by omega, by go_num, by rw [HS.out]; exact hO.out.alloc _, hT.out.alloc _⟩
        case measure => simp [intOf]; omega
    · have hl : Hid (d.waits.take k = d.waits) := List.take_of_length_le (by omega)
      have H : Hid (IsDisk w F g d _ _) := h
      have hB := Lib.hid (blk_touch ht h.blk ngl)
      clear ho ht h hr hc
      go_wp2
      go_end0
      have h := H.out
      have t2 : Touch F w (wr.setCell ⟨g, 1, none⟩ (.slice none 0 0)) := (hT.out.mono (fun k _ e => by subst e; exact hfl)).setCell (p := ⟨g, 1, none⟩) (.inl h.fg) _
      refine ⟨rfl, ⟨?_, ?_, World.ownsRow_nil _ _ _ _, h.fg, h.fl, fun k hk => by simp [Value.ownBlock] at hk, fun k hk => Nat.lt_of_lt_of_le (h.lt k hk) t2.size, ?_⟩, t2⟩
      · rw [blk_set hB.out]; rfl
      · have o2 := ownsRow_setCell_other hO.out (a := ⟨g, 1, none⟩) (by simp only [Value.ownBlock]; intro e; injection e with e; exact ngl e.symm) (.slice none 0 0)
        rw [hl.out] at o2
        have e : (d.settled (fun i => picks.getD i false)).l = Dk.settle p 0 d.waits d.l := by rw [HP.out]; rfl
        rw [e, Dk.settle_length]
        exact o2
      · exact h.ok.settled _
end Go.Proofs.Ytoolkamajlgcbaa
