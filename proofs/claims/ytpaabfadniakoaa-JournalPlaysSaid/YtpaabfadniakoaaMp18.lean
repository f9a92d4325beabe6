/- JpA: the document's laid and Told: the writes of a page; whether a mark tells a page. -/
import Derived.Test.YtpaabfadniakoaaMp17
set_option linter.unusedVariables false
set_option linter.unusedSimpArgs false
namespace Go.Proofs.Ytpaabfadniakoaa
open Go.RowKit

theorem infoStep : (Try.prog.info? 99).map (fun i => (i.zero, i.size, i.bytes)) = some (some (.agg #[.int .i64 0, .string ByteArray.empty]), 2, 24) := by kernel_rfl
/-- A row of steps. -/
def StepsAt (w : World) (B : Nat) (v : Value) (l : List Stp) : Prop := w.ownsRow B 99 2 v l.length (wcells l)
theorem StepsAt.below {w w' : World} {B : Nat} {v : Value} {l : List Stp} (h : StepsAt w B v l) (hb : Below w.heap.size w w') : StepsAt w' B v l := own_touch h (Touch.of_below hb : Touch (fun _ => False) w w') (fun _ _ x => x)
set_option maxHeartbeats 1600000 in
set_option maxRecDepth 100000 in
theorem laid_any (w : World) (B : Nat) (hB : B ≤ w.heap.size) (v : Value) (l : List Stp) (hl : StepsAt w B v l) (hn : l.length ≤ 100000) (p : Nat) (hp : p ≤ 4096) (s : ByteArray) (hs : s.size = 1024) :
    Calls Try.prog 56 #[v, .int .i64 (p : Int), .string s] w fun e w' => ∃ v', e = .returned v' ∧ StepsAt w' B v' (l ++ laid (p : Int) s) ∧ Below B w w' := by
  obtain ⟨i0, hi, hz0, hz1, hz2⟩ := info_parts infoStep
  have HL := Lib.hid hl; have HS := Lib.hid hs
  have hs2 : s.size ≤ 1024 := by omega
  clear hl hs
  obtain ⟨A0, c0, rfl⟩ := own_slice HL.out
  go_enter Try.func56, Try.ntmps56
  go_wp2_with fail
  go_loopw [0, 7] (fun u i wr => ∃ k : Nat, k ≤ 4 ∧ i = .int .i64 k ∧ Hid (StepsAt wr B u (l ++ layK p s k)) ∧ Hid (Below B w wr)) (fun _ i _ => 4 - (intOf i).toNat)
  case atStart => exact ⟨0, by decide, rfl, by unfold Hid layK; rw [List.append_nil]; exact HL.out, Below.refl _ _⟩
  case round =>
    obtain ⟨k, hk, rfl, ho, hb⟩ := hrel
    by_cases hlt : k < 4
    · have LK : Hid (l ++ layK (p : Int) s (k + 1) = (l ++ layK (p : Int) s k) ++ [(((p + k : Nat) : Int), cut4 s k)]) := by unfold Hid; rw [layK, List.append_assoc]; congr 2
      have hlen : (l ++ layK (p : Int) s k).length ≤ 200000 := by rw [List.length_append, layK_len]; omega
      have hex : s.extract (256 * k) (256 * k + 256) = cut4 s k := rfl
      obtain ⟨q, hq⟩ : ∃ q : Nat, q = p + k := ⟨_, rfl⟩
      obtain ⟨a, ha⟩ : ∃ a : Nat, a = 256 * k := ⟨_, rfl⟩
      obtain ⟨b, hb2⟩ : ∃ b : Nat, b = 256 * k + 256 := ⟨_, rfl⟩
      rw [← hq] at LK
      rw [← hb2, ← ha] at hex
      have e1 : (p : Int) + (k : Int) = (q : Int) := by omega
      have e2 : IntKind.i64.wrap (q : Int) = (q : Int) := by rw [IntKind.wrap_i64]; omega
      have e3 : 256 * (k : Int) = (a : Int) := by omega
      have e4 : IntKind.i64.wrap (a : Int) = (a : Int) := by rw [IntKind.wrap_i64]; omega
      have e6 : (a : Int) + 256 = (b : Int) := by omega
      have e7 : IntKind.i64.wrap (b : Int) = (b : Int) := by rw [IntKind.wrap_i64]; omega
      have hab : a ≤ b := by omega
      have hbs : b ≤ s.size := by have := HS.out; omega
      clear hq ha hb2
      generalize l ++ layK (p : Int) s k = L at ho LK hlen
      have hsz : Hid (B ≤ wr.heap.size) := Nat.le_trans hB hb.out.size
      go_wp2_with (at_builtin; refine wpList_append_own_at _ rfl (.tmp 12) (.tmp 24) 65 rfl B 99 i0 _ 2 24 Try.underlying65 hi hz0 hz1 hz2 rfl (by decide) _ L.length (wcells L) rfl (World.ownsRow.alloc ho.out _) ⟨wr.heap.size, 0, none⟩ 1 1 [.int .i64 (q : Int), .string (cut4 s k)] rfl rfl (two_new _ _ _ _) (by simp [Value.oneCell']) (by unfold maxLen; omega) (by omega) (by have := hsz.out; simp; omega) ?_)
      intro v2 w2 ho2 hg2 _ _
      have B2 : Hid (Below B w w2) := (hb.out.alloc hsz.out _).grown hg2 (Nat.le_trans hsz.out (by simp)) (fun j hj => (ho.out.lt j hj).1)
      have O2 : Hid (StepsAt w2 B v2 (l ++ layK (p : Int) s (k + 1))) := by
        unfold Hid StepsAt
        rw [LK.out, wcells_append, List.length_append]
        exact ho2
      clear ho2 hg2
      go_wp2
      go_roundw
      case rel => first | exact ⟨k + 1, hlt, by go_num, O2, B2⟩ | ((repeat apply Exists.intro); refine ⟨?_, rfl⟩; exact ⟨k + 1, hlt, by go_num, O2, B2⟩)
      case measure => simp [intOf]; omega
    · have hk4 : k = 4 := by omega
      subst hk4
      go_wp2
      go_ret
      exact ⟨_, rfl, ho.out, hb.out⟩
theorem halve (c n : Nat) : ((c / 2 ^ n : Nat) : Int) / 2 = ((c / 2 ^ (n + 1) : Nat) : Int) := by
  have : c / 2 ^ (n + 1) = c / 2 ^ n / 2 := by rw [Nat.pow_succ, Nat.div_div_eq_div_mul]
  rw [this]
  rfl
set_option maxHeartbeats 1600000 in
set_option maxRecDepth 100000 in
theorem rtold_any (w : World) (m : ByteArray) (hm : m.size = 256) (i : Nat) (hi : i ≤ 1000) :
    Calls Try.prog 61 #[.string m, .int .i64 (i : Int)] w fun e w' => e = .returned (.bool (told m i)) ∧ w = w' := by
  have hkm : i / 8 < m.size := by omega
  have hkm2 : (i : Int) / 8 < (m.size : Int) := by omega
  obtain ⟨c, hc⟩ : ∃ c : Nat, c = m[i / 8].toNat := ⟨_, rfl⟩
  have hc2 : c < 256 := by rw [hc]; exact UInt8.toNat_lt _
  have TD : Hid (told m i = (c / 2 ^ (i % 8) % 2 == 1)) := by
    have e2 : m.data.toList.getD (i / 8) 0 = m[i / 8] := by
      rw [List.getD_eq_getElem?_getD, Array.getElem?_toList, Array.getElem?_eq_getElem (by exact hkm)]
      rfl
    unfold Hid told
    rw [e2, hc]
  have HM := Lib.hid hm
  clear hm
  go_enter Try.func61, Try.ntmps61
  go_wp2_with fail
  try rw [← hc]
  go_loopw [5, 6] (fun u n wr => ∃ k : Nat, k ≤ i % 8 ∧ n = .int .i64 k ∧ u = .int .u8 ((c / 2 ^ k : Nat) : Int) ∧ w = wr) (fun _ n _ => 8 - (intOf n).toNat)
  case atStart => exact ⟨0, Nat.zero_le _, rfl, by simp [hc], rfl⟩
  case round =>
    obtain ⟨k, hk, rfl, rfl, rfl⟩ := hrel
    have r8 : i % 8 < 8 := Nat.mod_lt _ (by decide)
    by_cases hlt : k < i % 8
    · have hlt2 : (k : Int) < (i : Int) % 8 := by omega
      have hv := halve c k
      have hle : c / 2 ^ (k + 1) < 256 := Nat.lt_of_le_of_lt (Nat.div_le_self _ _) hc2
      have hle2 : c / 2 ^ k < 256 := Nat.lt_of_le_of_lt (Nat.div_le_self _ _) hc2
      generalize c / 2 ^ k = a at hv hle2
      obtain ⟨b, hB⟩ : ∃ b, b = c / 2 ^ (k + 1) := ⟨_, rfl⟩
      rw [← hB] at hv hle
      have HB := Lib.hid hB
      clear hB
      go_wp2
      go_roundw
      case rel => exact ⟨k + 1, hlt, by go_num, by rw [HB.out], trivial⟩
      case measure => simp [intOf]; omega
    · have hkk : k = i % 8 := by omega
      have hlt2 : ¬ (k : Int) < (i : Int) % 8 := by omega
      rw [← hkk] at TD
      have hle2 : c / 2 ^ k < 256 := Nat.lt_of_le_of_lt (Nat.div_le_self _ _) hc2
      generalize c / 2 ^ k = a at TD hle2
      have hb : (((a : Int) % 2) == 1) = (a % 2 == 1) := by
        rw [Bool.eq_iff_iff, beq_iff_eq, beq_iff_eq]
        omega
      go_wp2
      go_ret
      exact ⟨by rw [TD.out]; rfl, rfl⟩
end Go.Proofs.Ytpaabfadniakoaa
/- JpB: the document's Mark. -/
set_option linter.unusedVariables false
set_option linter.unusedSimpArgs false
namespace Go.Proofs.Ytpaabfadniakoaa
open Go.RowKit

/-- A mark on its way: pages below i, and those of the first k changes that are of page i. -/
def MkAt (l : List (Int × ByteArray)) (i k : Nat) (m : List UInt8) : Prop :=
  m.length = 256 ∧ ∀ j, j < 2048 → bitL m (j / 8) (j % 8) = ((l.any (fun c => decide (c.1 = (j : Int))) && decide (j < i)) || ((l.take k).any (fun c => decide (c.1 = (j : Int))) && decide (j = i)))
theorem mk_zero (l : List (Int × ByteArray)) : MkAt l 0 0 (List.replicate 256 0) := ⟨List.length_replicate, fun j hj => by
  have : bitL (List.replicate 256 0) (j / 8) (j % 8) = false := by
    unfold bitL
    rw [List.getD_eq_getElem?_getD, List.getElem?_replicate]
    split <;> simp
  rw [this]
  simp⟩
theorem mk_next {l : List (Int × ByteArray)} {i : Nat} {m : List UInt8} (h : MkAt l i l.length m) : MkAt l (i + 1) 0 m := ⟨h.1, fun j hj => by
  rw [h.2 j hj, List.take_length, List.take_zero]
  generalize l.any (fun c => decide (c.1 = (j : Int))) = a
  by_cases e : j = i
  · subst e; simp
  · have : decide (j < i + 1) = decide (j < i) := by rw [decide_eq_decide]; omega
    rw [this]
    simp [e]⟩
theorem mk_skip {l : List (Int × ByteArray)} {i k : Nat} {m : List UInt8} (h : MkAt l i k m) (hk : k < l.length) (hne : l[k].1 ≠ (i : Int)) : MkAt l i (k + 1) m := ⟨h.1, fun j hj => by
  rw [h.2 j hj, List.take_succ_eq_append_getElem hk, List.any_append]
  by_cases e : j = i
  · subst e; simp [hne]
  · simp [e]⟩
theorem add_or : ∀ (a : Fin 256) (r : Fin 8), (a : Nat).testBit r = false → (a + 2 ^ (r : Nat) : Nat) = a ||| 2 ^ (r : Nat) := by decide +kernel
theorem add_orU (b : UInt8) {r : Nat} (hr : r < 8) (h : b.toNat.testBit r = false) : b + UInt8.ofNat (2 ^ r) = b ||| UInt8.ofNat (2 ^ r) := by
  apply UInt8.toNat_inj.1
  have hb : b.toNat < 256 := UInt8.toNat_lt b
  have := add_or ⟨b.toNat, hb⟩ ⟨r, hr⟩ h
  simp only at this
  have h2 : (b ||| UInt8.ofNat (2 ^ r)).toNat = b.toNat ||| 2 ^ r := by rw [UInt8.toNat_or, pow_u8 hr]
  have h3 : (b ||| UInt8.ofNat (2 ^ r)).toNat < 256 := UInt8.toNat_lt _
  rw [UInt8.toNat_add, pow_u8 hr, h2, ← this]
  omega
theorem mk_step {l : List (Int × ByteArray)} {i k : Nat} {m : List UInt8} (h : MkAt l i k m) (hi : i < 128) (hk : k < l.length) (he : l[k].1 = (i : Int)) (hd : ∀ j (hj : j < k), l[j].1 ≠ l[k].1) :
    MkAt l i (k + 1) (m.set (i / 8) (m.getD (i / 8) 0 + UInt8.ofNat (2 ^ (i % 8)))) := by
  have h0 : (l.take k).any (fun c => decide (c.1 = (i : Int))) = false := by
    rw [List.any_eq_false]
    intro c hc
    obtain ⟨j, hj, rfl⟩ := List.mem_take_iff_getElem.1 hc
    have := hd j (by omega)
    rw [he] at this
    simpa using this
  have hb := h.2 i (by omega)
  rw [h0] at hb
  simp at hb
  rw [add_orU _ (Nat.mod_lt _ (by decide)) hb]
  refine ⟨by rw [List.length_set]; exact h.1, fun j hj => ?_⟩
  rw [bit_set (by rw [h.1]; omega), h.2 j hj, List.take_succ_eq_append_getElem hk, List.any_append]
  by_cases e : j = i
  · subst e; simp [he]
  · have e2 : ¬ i = j := fun x => e x.symm
    simp [e, e2]
theorem byte_ext {a b : UInt8} (h : ∀ r, r < 8 → a.toNat.testBit r = b.toNat.testBit r) : a = b := by
  apply UInt8.toNat_inj.1
  refine Nat.eq_of_testBit_eq (fun i => ?_)
  by_cases hi : i < 8
  · exact h i hi
  · have big : ∀ x : UInt8, x.toNat.testBit i = false := fun x => Nat.testBit_lt_two_pow (Nat.lt_of_lt_of_le (UInt8.toNat_lt x) (Nat.pow_le_pow_right (by decide) (by omega)))
    rw [big, big]
/-- A whole mark is the mark of these pages. -/
theorem mk_done {l : List (Int × ByteArray)} {m : List UInt8} (h : MkAt l 128 0 m) (hl : ∀ c ∈ l, c.1 < 128) {M : List Chg} (hM : ∀ j : Nat, M.any (fun c => decide (c.1 = j)) = l.any (fun c => decide (c.1 = (j : Int)))) (hM2 : ∀ c ∈ M, c.1 < 128) : m = mkK M := by
  refine List.ext_getElem (by rw [h.1, mkK_len]) (fun b h1 h2 => ?_)
  have hb : b < 256 := by rw [h.1] at h1; exact h1
  refine byte_ext (fun r hr => ?_)
  have e1 : (8 * b + r) / 8 = b := by omega
  have e2 : (8 * b + r) % 8 = r := by omega
  have t1 := h.2 (8 * b + r) (by omega)
  have t2 := told_mk (P := 128) (Nat.le_refl _) hM2 (8 * b + r)
  rw [told_bitL] at t2
  change bitL (mkK M) _ _ = _ at t2
  rw [e1, e2] at t1 t2
  unfold bitL at t1 t2
  rw [List.getD_eq_getElem?_getD, List.getElem?_eq_getElem h1, Option.getD_some] at t1
  rw [List.getD_eq_getElem?_getD, List.getElem?_eq_getElem h2, Option.getD_some] at t2
  rw [t1, t2, hM, List.take_zero]
  by_cases hj : 8 * b + r < 128
  · simp [hj]
  · have : l.any (fun c => decide (c.1 = ((8 * b + r : Nat) : Int))) = false := by
      rw [List.any_eq_false]
      intro c hc
      have := hl c hc
      simp
      omega
    rw [this]
    simp
theorem add_u8 (b : UInt8) (r : Nat) (h : r < 8) : IntKind.u8.wrap ((b.toNat : Int) + ((2 ^ r : Nat) : Int)) = ((b + UInt8.ofNat (2 ^ r)).toNat : Int) := by
  rw [IntKind.wrap_u8, UInt8.toNat_add, pow_u8 h]
  omega
theorem pow_lt {n r : Nat} (h : n < r) (h8 : r < 8) : IntKind.u8.wrap (((2 ^ n : Nat) : Int) * 2) = ((2 ^ (n + 1) : Nat) : Int) := by
  have : 2 ^ (n + 1) ≤ 2 ^ 7 := Nat.pow_le_pow_right (by decide) (by omega)
  rw [IntKind.wrap_u8, Nat.pow_succ]
  rw [Nat.pow_succ] at this
  omega
set_option maxHeartbeats 3200000 in
set_option maxRecDepth 100000 in
theorem rmark_any (w : World) (A : Option Addr) (c : Nat) (l : List (Int × ByteArray)) (hl : RdC w A l) (hn : l.length ≤ 1000000) (hp : ∀ x ∈ l, 0 ≤ x.1 ∧ x.1 < 128) (hd : l.Pairwise (fun a b => a.1 ≠ b.1)) (M : List Chg) (hM : ∀ j : Nat, M.any (fun c => decide (c.1 = j)) = l.any (fun c => decide (c.1 = (j : Int)))) (hM2 : ∀ c ∈ M, c.1 < 128) :
    Calls Try.prog 57 #[.slice A l.length c] w fun e w' => e = .returned (.string (mkB M)) ∧ Below w.heap.size w w' := by
  have HL := Lib.hid hl; have HP := Lib.hid hp; have HD := Lib.hid hd
  have DONE : Hid (∀ m, MkAt l 128 0 m → m = mkK M) := fun m h => mk_done h (fun x hx => (hp x hx).2) hM hM2
  clear hl hp hd hM hM2
  have hmk : ∀ W : World, (Instr.makeSlice 84 (.int .i64 256) (.int .i64 256)).run Try.prog W = .ok (.slice (some ⟨W.heap.size, 0, none⟩) 256 256) (W.alloc (.cells (u8s (List.replicate 256 0)).toArray 5)) := by
    intro W
    rw [← made256]
    exact run_make_row' 84 5 (.int .u8 0) 1 Try.underlying84 infoB rfl .i64 .i64 256 (by decide) (by decide) W
  go_enter Try.func57, Try.ntmps57
  go_wp2_with fail
  go_loopw [4] (fun i wr => ∃ i' : Nat, i' ≤ 128 ∧ i = .int .i64 i' ∧ Hid (∃ m, MkAt l i' 0 m ∧ wr.heap[w.heap.size]? = some (.cells (u8s m).toArray 5 (0, 0))) ∧ Hid (Below w.heap.size w wr)) (fun i _ => 128 - (intOf i).toNat)
  case atStart => exact ⟨0, by decide, rfl, ⟨_, mk_zero l, blk_new w _⟩, (Below.refl _ w).alloc (Nat.le_refl _) _⟩
  case round =>
    obtain ⟨i, hi, rfl, hm, hb⟩ := hrel
    by_cases hlt : i < 128
    · go_wp2_with fail
      go_loopw [5] (fun kv wr2 => ∃ k : Nat, k ≤ l.length ∧ kv = .int .i64 k ∧ Hid (∃ m, MkAt l i k m ∧ wr2.heap[w.heap.size]? = some (.cells (u8s m).toArray 5 (0, 0))) ∧ Hid (Below w.heap.size w wr2)) (fun kv _ => l.length - (intOf kv).toNat)
      case atStart => exact ⟨0, Nat.zero_le _, rfl, hm, hb⟩
      case round =>
        obtain ⟨k, hk, rfl, hm2, hb2⟩ := hrel
        clear hm hb
        by_cases hkl : k < l.length
        · obtain ⟨b, off, e1, hcs⟩ := HL.out (by omega)
          subst e1
          obtain ⟨z0, _⟩ := hcs k hkl
          replace z0 := cell_below hb2.out z0
          have NX := fun j (hj : j < k) => List.pairwise_iff_getElem.1 HD.out j k (by omega) hkl hj
          have HNX := Lib.hid NX
          obtain ⟨x, hx⟩ : ∃ x, x = l[k].1 := ⟨_, rfl⟩
          rw [← hx] at z0
          clear hcs NX
          by_cases he : x = (i : Int)
          · subst he
            obtain ⟨m, hmk1, hblk⟩ := hm2.out
            have MK := Lib.hid (mk_step hmk1 hlt hkl hx.symm HNX.out)
            have ML := Lib.hid hmk1.1
            have BLK := Lib.hid hblk
            clear hmk1 hblk hm2 hx
            go_wp2_with fail
            go_loopw [6, 7] (fun u n wr3 => ∃ r : Nat, r ≤ i % 8 ∧ n = .int .i64 r ∧ u = .int .u8 ((2 ^ r : Nat) : Int) ∧ wr = wr3) (fun _ n _ => 8 - (intOf n).toNat)
            case atStart => exact ⟨0, Nat.zero_le _, rfl, rfl, rfl⟩
            case round =>
              obtain ⟨r, hr, rfl, rfl, rfl⟩ := hrel
              have r8 : i % 8 < 8 := Nat.mod_lt _ (by decide)
              by_cases hrl : r < i % 8
              · have hlt2 : (r : Int) < (i : Int) % 8 := by omega
                have hv := pow_lt hrl r8
                generalize 2 ^ r = a at hv
                obtain ⟨a2, hA2⟩ : ∃ a2, a2 = 2 ^ (r + 1) := ⟨_, rfl⟩
                rw [← hA2] at hv
                have HB := Lib.hid hA2
                clear hA2
                go_wp2
                go_roundw
                case rel => exact ⟨r + 1, hrl, by go_num, by rw [HB.out], trivial⟩
                case measure => simp [intOf]; omega
              · have hrr : r = i % 8 := by omega
                have hlt2 : ¬ (r : Int) < (i : Int) % 8 := by omega
                subst hrr
                obtain ⟨q, hq⟩ : ∃ q : Nat, q = i / 8 := ⟨_, rfl⟩
                have eq1 : (i : Int) / 8 = (q : Int) := by omega
                have hq2 : q < 256 := by omega
                have hq3 : (q : Int) < 256 := by omega
                rw [← hq] at MK
                obtain ⟨bv, hbv⟩ : ∃ bv, bv = m.getD q 0 := ⟨_, rfl⟩
                rw [← hbv] at MK
                have blk := BLK.out
                have z1 : wr.cell? ⟨w.heap.size, q, none⟩ = some (.int .u8 (bv.toNat : Int)) := by rw [blk_cell blk, blk_u8 (by rw [ML.out]; exact hq2), hbv]
                have z2 : wr.frozen? ⟨w.heap.size, q, none⟩ = false := by simp [World.frozen?, blk]
                have ad := add_u8 bv (i % 8) r8
                generalize 2 ^ (i % 8) = un at ad MK
                obtain ⟨nv, hnv⟩ : ∃ nv, nv = bv + UInt8.ofNat un := ⟨_, rfl⟩
                rw [← hnv] at ad MK
                have B4 : Hid (Below w.heap.size w (wr.setCell ⟨w.heap.size, q, none⟩ (.int .u8 (nv.toNat : Int)))) := hb2.out.setCell (p := ⟨w.heap.size, q, none⟩) (Nat.le_refl _) _
                have G4 : Hid (∃ m, MkAt l i (k + 1) m ∧ (wr.setCell ⟨w.heap.size, q, none⟩ (.int .u8 (nv.toNat : Int))).heap[w.heap.size]? = some (.cells (u8s m).toArray 5 (0, 0))) := ⟨_, MK.out, by rw [← blk_u8_set]; exact blk_set blk q _⟩
                clear hq hbv hnv
                go_wp2
                go_roundw
                case rel => exact ⟨k + 1, hkl, by go_num, G4, B4⟩
                case measure => simp [intOf]; omega
          · have G4 : Hid (∃ m, MkAt l i (k + 1) m ∧ wr.heap[w.heap.size]? = some (.cells (u8s m).toArray 5 (0, 0))) := by
              obtain ⟨m, h1, h2⟩ := hm2.out
              exact ⟨m, mk_skip h1 hkl (by rw [← hx]; exact he), h2⟩
            have he2 : (x == (i : Int)) = false := by simpa using he
            clear hm2
            go_wp2
            go_roundw
            case rel => exact ⟨k + 1, hkl, by go_num, G4, hb2⟩
            case measure => simp [intOf]; omega
        · have hkn : k = l.length := by omega
          subst hkn
          have G4 : Hid (∃ m, MkAt l (i + 1) 0 m ∧ wr.heap[w.heap.size]? = some (.cells (u8s m).toArray 5 (0, 0))) := by
            obtain ⟨m, h1, h2⟩ := hm2.out
            exact ⟨m, mk_next h1, h2⟩
          clear hm2
          go_wp2
          go_roundw
          case rel => exact ⟨i + 1, hlt, by go_num, G4, hb2⟩
          case measure => simp [intOf]; omega
    · have hi2 : i = 128 := by omega
      subst hi2
      obtain ⟨m, h1, h2⟩ := hm.out
      have cv := conv_u8 h2 256 256 h1.1
      have hmm := DONE.out m h1
      subst hmm
      go_wp2
      go_ret
      exact ⟨rfl, hb.out⟩
end Go.Proofs.Ytpaabfadniakoaa
/- RefA: the document's disk, a value: what it is in memory; the walks of why and Read. -/
set_option linter.unusedVariables false
set_option linter.unusedSimpArgs false
namespace Go.Proofs.Ytpaabfadniakoaa
open Go.RowKit

/-- The document's disk d, a value of two slices that lie in blocks of F. -/
structure RefAt (w : World) (F : Nat → Prop) (d : Dk) (vl vw : Value) : Prop where
  own : w.ownsRow 0 9 1 vl d.l.length (strs d.l)
  ownW : w.ownsRow 0 104 2 vw d.waits.length (wcells d.waits)
  fl : ∀ k, vl.ownBlock = some k → F k
  fw : ∀ k, vw.ownBlock = some k → F k
  lt : ∀ k, F k → k < w.heap.size
  ok : d.Ok
  nil : d.waits = [] → vw = .slice none 0 0
def refV (d : Dk) (vl vw : Value) : Value := .agg #[vl, vw, .int .i64 d.fuse, .int .i64 d.writes, .bool d.down]
theorem RefAt.keep {w w' : World} {S F : Nat → Prop} {d : Dk} {vl vw : Value} (h : RefAt w F d vl vw) (ht : Touch S w w') (hS : ∀ k, F k → ¬ S k) : RefAt w' F d vl vw :=
  ⟨own_touch h.own ht (fun k hk => hS k (h.fl k hk)), own_touch h.ownW ht (fun k hk => hS k (h.fw k hk)), h.fl, h.fw, fun k hk => Nat.lt_of_lt_of_le (h.lt k hk) ht.size, h.ok, h.nil⟩
theorem RefAt.below {w w' : World} {F : Nat → Prop} {d : Dk} {vl vw : Value} (h : RefAt w F d vl vw) (hb : Below w.heap.size w w') : RefAt w' F d vl vw :=
  h.keep (S := fun _ => False) (Touch.of_below hb) (fun _ _ x => x)
theorem RefAt.wait {w : World} {F : Nat → Prop} {d : Dk} {vl vw : Value} (h : RefAt w F d vl vw) : ∀ A c, vw = .slice A d.waits.length c → ∀ k (hk : k < d.waits.length),
    ∃ gw, A = some ⟨gw, 0, none⟩ ∧ F gw ∧ w.cell? ⟨gw, k * 2, none⟩ = some (.int .i64 d.waits[k].1) ∧ w.cell? ⟨gw, k * 2 + 1, none⟩ = some (.string d.waits[k].2) := by
  intro A c e k hk
  subst e
  rcases h.ownW.2 with ⟨e, h0⟩ | ⟨gw, cap, cur, e, _⟩
  · omega
  · injection e with e1 e2 e3
    subst e1
    obtain ⟨a, b⟩ := wcells_at d.waits k hk
    exact ⟨gw, rfl, h.fw _ rfl, (h.ownW.cellAt (k * 2) (by omega)).trans a, (h.ownW.cellAt (k * 2 + 1) (by omega)).trans b⟩
theorem RefAt.sector {w : World} {F : Nat → Prop} {d : Dk} {vl vw : Value} (h : RefAt w F d vl vw) : ∃ gl c, vl = .slice (some ⟨gl, 0, none⟩) d.l.length c ∧ F gl ∧
    (∀ k, k < d.l.length → w.cell? ⟨gl, k, none⟩ = some (.string (d.l.getD k ByteArray.empty))) ∧ (∀ k, w.frozen? ⟨gl, k, none⟩ = false) := by
  rcases h.own.2 with ⟨e, h0⟩ | ⟨gl, cap, cur, rfl, _⟩
  · have := h.ok.pos; omega
  · refine ⟨gl, cap, rfl, h.fl _ rfl, fun k hk => (h.own.cellAt k (by omega)).trans ?_, fun k => h.own.frozenAt k⟩
    simp [strs, List.getElem?_map, List.getElem?_eq_getElem hk]

theorem why_any (w : World) (F : Nat → Prop) (d : Dk) (vl vw : Value) (h : RefAt w F d vl vw) (i : Int) :
    Calls Try.prog 58 #[refV d vl vw, .int .i64 i] w fun e w' => e = .returned (.int .i64 (d.use i)) ∧ Below w.heap.size w w' := by
  unfold refV
  have B0 : ∀ b, Hid (Below w.heap.size w (w.alloc b)) := fun b => (Below.refl _ w).alloc (Nat.le_refl _) b
  obtain ⟨A, c, rfl⟩ := own_slice h.own
  have hlen := h.ok.most
  by_cases hd : d.down = true
  · have hu : Hid (d.use i = 10) := by unfold Hid Dk.use; rw [if_pos hd]
    rw [hd]
    go_enter Try.func58, Try.ntmps58
    go_wp2
    go_ret
    exact ⟨by rw [hu.out]; rfl, (B0 _).out⟩
  · have hd' : d.down = false := by simpa using hd
    rw [hd']
    by_cases h0 : i < 0
    · have hu : Hid (d.use i = 9) := by unfold Hid Dk.use; rw [if_neg hd, if_pos (.inl h0)]
      go_enter Try.func58, Try.ntmps58
      go_wp2
      go_ret
      exact ⟨by rw [hu.out]; rfl, (B0 _).out⟩
    · have h0' : decide (i < 0) = false := by simpa using h0
      by_cases h1 : (d.l.length : Int) ≤ i
      · have hu : Hid (d.use i = 9) := by unfold Hid Dk.use; rw [if_neg hd, if_pos (.inr h1)]
        go_enter Try.func58, Try.ntmps58
        go_wp2
        go_ret
        exact ⟨by rw [hu.out]; rfl, (B0 _).out⟩
      · have hu : Hid (d.use i = 0) := by unfold Hid Dk.use; rw [if_neg hd, if_neg (by omega)]
        go_enter Try.func58, Try.ntmps58
        go_wp2
        go_ret
        exact ⟨by rw [hu.out]; rfl, (B0 _).out⟩

/-- The last write of all at i is the one that is found from the end. -/
theorem look_none (i : Int) (ws : List (Int × ByteArray)) : ∀ s, (∀ w ∈ ws, ¬ w.1 = i) → Dk.look i ws s = s := by
  induction ws with
  | nil => intro s _; rfl
  | cons x ws ih => intro s h; rw [Dk.look, if_neg (h x (by simp))]; exact ih s (fun w hw => h w (by simp [hw]))
theorem rlook_append (i : Int) (b : List (Int × ByteArray)) : ∀ (a : List (Int × ByteArray)) s, Dk.look i (a ++ b) s = Dk.look i b (Dk.look i a s) := by
  intro a
  induction a with
  | nil => intro s; rfl
  | cons x a ih => intro s; exact ih _
theorem look_last (i : Int) (ws : List (Int × ByteArray)) (s : ByteArray) (k : Nat) (hk : k < ws.length) (h : ws[k].1 = i) (hn : ∀ j (hj : j < ws.length), k < j → ¬ ws[j].1 = i) : Dk.look i ws s = ws[k].2 := by
  have e : Dk.look i ws s = Dk.look i ((ws.take k ++ [ws[k]]) ++ ws.drop (k + 1)) s := by rw [← List.take_succ_eq_append_getElem hk, List.take_append_drop]
  rw [e, rlook_append, look_snoc, if_pos h, look_none]
  intro w hw
  obtain ⟨j, hj, rfl⟩ := List.getElem_of_mem hw
  rw [List.length_drop] at hj
  rw [List.getElem_drop]
  exact hn _ (by omega) (by omega)
theorem look_all (i : Int) (ws : List (Int × ByteArray)) (s : ByteArray) (hn : ∀ j (hj : j < ws.length), ¬ ws[j].1 = i) : Dk.look i ws s = s := by
  refine look_none i ws s fun w hw => ?_
  obtain ⟨j, hj, rfl⟩ := List.getElem_of_mem hw
  exact hn j hj

set_option maxHeartbeats 800000 in
set_option maxRecDepth 100000 in
theorem rread_any (w : World) (F : Nat → Prop) (d : Dk) (vl vw : Value) (h : RefAt w F d vl vw) (i : Int) (hm : d.waits.length < 9223372036854775807) :
    Calls Try.prog 60 #[refV d vl vw, .int .i64 i] w fun e w' => e = .returned (.tuple #[.string (d.read i).1, .int .i64 (d.read i).2]) ∧ Below w.heap.size w w' := by
  have B0 : ∀ b, Hid (Below w.heap.size w (w.alloc b)) := fun b => (Below.refl _ w).alloc (Nat.le_refl _) b
  have H := Lib.hid h
  by_cases hu : d.use i = 0
  · obtain ⟨hd, hi0, hi1⟩ := Dk.use_zero hu
    obtain ⟨n, rfl⟩ := Int.eq_ofNat_of_zero_le hi0
    have hn : n < d.l.length := by omega
    have hr : Hid (d.read n = (Dk.look n d.waits (d.l.getD n ByteArray.empty), 0)) := by unfold Hid Dk.read; rw [if_pos hu]; simp
    have HU := Lib.hid hu
    clear hu hd
    obtain ⟨gl, cl, rfl, hfl, hcl, _⟩ := h.sector
    have hc := hcl n hn
    have hlen := h.ok.most
    clear hcl
    obtain ⟨A, c, rfl⟩ := own_slice h.ownW
    obtain ⟨s0, hs0⟩ : ∃ s0, s0 = d.l.getD n ByteArray.empty := ⟨_, rfl⟩
    rw [← hs0] at hc
    have HS := Lib.hid hs0
    clear hs0 h
    unfold refV
    go_enter Try.func60, Try.ntmps60
    go_wp2_with fail
    refine (why_any _ F d _ _ (H.out.below (B0 _).out) _).mono ?_
    rintro e w1 ⟨rfl, b1⟩
    rw [HU.out]
    have hsz : Hid (w.heap.size < w1.heap.size) := by have := b1.size; unfold Hid; simp at this; omega
    have q0 : w1.cell? ⟨w.heap.size, 0, none⟩ = some (.slice (some ⟨gl, 0, none⟩) d.l.length cl) := cell_below b1 (by go_simp)
    have q1 : w1.cell? ⟨w.heap.size, 1, none⟩ = some (.slice A d.waits.length c) := cell_below b1 (by go_simp)
    have B1 : Hid (Below w.heap.size w w1) := (B0 _).out.trans (b1.mono (by simp))
    have H1 : Hid (RefAt w1 F d _ _) := H.out.below B1.out
    have hc1 := cell_below B1.out hc
    clear b1 B0 hc
    go_wp2_with fail
    go_loopw [7, 18] (fun i i2 wr => ∃ k : Nat, k ≤ d.waits.length ∧ i = .int .i64 ((k : Int) - 1) ∧ Hid (∀ j (hj : j < d.waits.length), k ≤ j → ¬ d.waits[j].1 = (n : Int)) ∧ wr = w1) (fun i _ _ => (intOf i + 1).toNat)
    case atStart => exact ⟨d.waits.length, Nat.le_refl _, rfl, fun j hj h => by omega, rfl⟩
    case round =>
      obtain ⟨k, hk, rfl, hno, rfl⟩ := hrel
      cases k with
      | zero =>
        have hl : Hid (Dk.look n d.waits s0 = s0) := look_all _ _ _ fun j hj => hno.out j hj (Nat.zero_le _)
        rw [show ((0 : Nat) : Int) - 1 = -1 by omega]
        go_wp2
        go_ret2
        exact ⟨by rw [hr.out, HS.out.symm, hl.out]; rfl, B1.out⟩
      | succ m =>
        rw [show ((m + 1 : Nat) : Int) - 1 = (m : Int) by omega]
        obtain ⟨gw, rfl, _, a1, a2⟩ := H1.out.wait _ _ rfl m (by omega)
        have hm1 : m < d.waits.length := by omega
        by_cases heq : d.waits[m].1 = (n : Int)
        · have hl : Hid (Dk.look n d.waits s0 = d.waits[m].2) := look_last _ _ _ m hm1 heq fun j hj hlt => hno.out j hj (by omega)
          rw [heq] at a1
          clear heq
          go_wp2
          go_ret2
          exact ⟨by rw [hr.out, HS.out.symm, hl.out]; rfl, B1.out⟩
        · have q : (d.waits[m].1 == (n : Int)) = false := by simp [heq]
          have HQ := Lib.hid heq
          clear heq
          go_wp2
          go_roundw
          case rel =>
            refine ⟨m, by omega, rfl, fun j hj hle => ?_, by trivial⟩
            rcases Nat.lt_or_ge m j with h | h
            · exact hno.out j hj (by omega)
            · obtain rfl : m = j := by omega
              exact HQ.out
          case measure => first | (simp [intOf]; done) | (simp [intOf]; omega)
  · have hu1 : (d.use i == 0) = false := by simp [hu]
    have hr : Hid (d.read i = (ByteArray.empty, d.use i)) := by unfold Hid Dk.read; rw [if_neg hu]
    clear hu h
    unfold refV
    go_enter Try.func60, Try.ntmps60
    go_wp2_with fail
    refine (why_any _ F d _ _ (H.out.below (B0 _).out) _).mono ?_
    rintro e w1 ⟨rfl, b1⟩
    have B1 : Hid (Below w.heap.size w w1) := (B0 _).out.trans (b1.mono (by simp))
    clear b1
    go_wp2
    go_ret2
    exact ⟨by rw [hr.out]; rfl, B1.out⟩
end Go.Proofs.Ytpaabfadniakoaa
