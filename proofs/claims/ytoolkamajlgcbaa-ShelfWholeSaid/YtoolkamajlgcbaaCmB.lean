/- CmB: shelf.bytes: a page's bytes. -/
import Derived.Test.YtoolkamajlgcbaaCmA
set_option linter.unusedVariables false
set_option linter.unusedSimpArgs false
namespace Go.Proofs.Ytoolkamajlgcbaa
open Go.RowKit

/-- An entry's bytes; a page's. -/
def entB (p : ByteArray × ByteArray) : List UInt8 := [UInt8.ofNat p.1.size, UInt8.ofNat (p.2.size / 256), UInt8.ofNat p.2.size] ++ p.1.data.toList ++ p.2.data.toList
def entsB (l : PL) : List UInt8 := l.flatMap entB
def headB (next n : Nat) : List UInt8 := [UInt8.ofNat (next / 256), UInt8.ofNat next, UInt8.ofNat (n / 256), UInt8.ofNat n]
def pgL (next : Nat) (l : PL) : List UInt8 := headB next l.length ++ entsB l ++ List.replicate (1020 - szL l) 0
def pgB (next : Nat) (l : PL) : ByteArray := ⟨(pgL next l).toArray⟩
theorem entB_len (p : ByteArray × ByteArray) : (entB p).length = szP p := by
  unfold entB szP
  simp only [List.length_append, List.length_cons, List.length_nil, Array.length_toList]
  show 0 + 1 + 1 + 1 + p.1.size + p.2.size = _
  omega
theorem entsB_snoc (l : PL) (p : ByteArray × ByteArray) : entsB (l ++ [p]) = entsB l ++ entB p := by
  unfold entsB
  rw [List.flatMap_append, List.flatMap_cons, List.flatMap_nil, List.append_nil]
theorem entsB_len (l : PL) : (entsB l).length = szL l := by
  induction l with
  | nil => rfl
  | cons p r ih =>
    unfold entsB at *
    rw [List.flatMap_cons, List.length_append, entB_len, ih, szL_cons]
theorem u8_nat (n : Nat) : ((UInt8.ofNat n).toNat : Int) = IntKind.u8.wrap (n : Int) := by
  rw [IntKind.wrap_u8]
  simp
set_option maxHeartbeats 1600000 in
set_option maxRecDepth 100000 in
theorem bytes_any (w : World) (next : Nat) (A : Option Addr) (n c : Nat) (l : PL) (hn : n = l.length) (hl : RdPr w A l) (he : ∀ p ∈ l, EntOK p) (hz : szL l ≤ 1020) (hx : next ≤ 65535) :
    Calls Try.prog 61 #[.int .i64 next, .slice A n c] w fun e w' => e = .returned (.string (pgB next l)) ∧ Below w.heap.size w w' := by
  subst hn
  have HL := Lib.hid hl; have HE := Lib.hid he
  have hlen : l.length ≤ 340 := by have := (szL_len l).1; omega
  have SZL := Lib.hid hz
  clear hl he hz
  have W0 : ∀ t, OwnU (w.alloc (.cells #[.int .u8 ((next : Int) / 256), .int .u8 ((next : Int) % 256), .int .u8 ((l.length : Int) / 256), .int .u8 ((l.length : Int) % 256)] 5)) w.heap.size (.slice (some ⟨w.heap.size, 0, none⟩) 4 4) (headB next l.length ++ entsB (l.take t)) ∨ t ≠ 0 := fun t => by
    rcases Nat.eq_zero_or_pos t with rfl | h
    · left
      have := World.ownsRow_lit (base := w.heap.size) (e := 5) (size := 1) w #[.int .u8 ((next : Int) / 256), .int .u8 ((next : Int) % 256), .int .u8 ((l.length : Int) / 256), .int .u8 ((l.length : Int) % 256)] 4 (Nat.le_refl _) (by decide) rfl
      have e : uvs (headB next l.length ++ entsB (l.take 0)) = [.int .u8 ((next : Int) / 256), .int .u8 ((next : Int) % 256), .int .u8 ((l.length : Int) / 256), .int .u8 ((l.length : Int) % 256)] := by
        simp [uvs, headB, entsB]
        omega
      unfold OwnU
      rw [e]
      exact this
    · right; omega
  have O0 : Hid (OwnU (w.alloc (.cells #[.int .u8 ((next : Int) / 256), .int .u8 ((next : Int) % 256), .int .u8 ((l.length : Int) / 256), .int .u8 ((l.length : Int) % 256)] 5)) w.heap.size (.slice (some ⟨w.heap.size, 0, none⟩) 4 4) (headB next l.length ++ entsB (l.take 0))) := (W0 0).resolve_right (by simp)
  have B0 : Hid (Below w.heap.size w (w.alloc (.cells #[.int .u8 ((next : Int) / 256), .int .u8 ((next : Int) % 256), .int .u8 ((l.length : Int) / 256), .int .u8 ((l.length : Int) % 256)] 5))) := (Below.refl _ w).alloc (Nat.le_refl _) _
  clear W0
  go_enter Try.func61, Try.ntmps61
  go_wp2_with fail
  go_loopw [5, 23] (fun bv iv wr => ∃ (k : Nat) (Ab : Option Addr) (cb : Nat), k ≤ l.length ∧ iv = .int .i64 k ∧ bv = .slice Ab (4 + szL (l.take k)) cb ∧ Hid (OwnU wr w.heap.size (.slice Ab (4 + szL (l.take k)) cb) (headB next l.length ++ entsB (l.take k))) ∧ Hid (Below w.heap.size w wr)) (fun _ iv _ => l.length - (intOf iv).toNat)
  case atStart => exact ⟨0, some ⟨w.heap.size, 0, none⟩, 4, Nat.zero_le _, rfl, rfl, O0, B0⟩
  case round =>
    obtain ⟨k, Ab, cb, hk, rfl, rfl, ho, hb⟩ := hrel
    by_cases hlt : k < l.length
    · obtain ⟨b, o, rfl, hc⟩ := HL.out (by omega)
      obtain ⟨z0, z1⟩ := hc k hlt
      replace z0 := cell_below hb.out z0; replace z1 := cell_below hb.out z1
      obtain ⟨S1, S2, S3⟩ := HE.out l[k] (List.getElem_mem _)
      have ET : Hid (entsB (l.take (k + 1)) = entsB (l.take k) ++ entB l[k]) := by unfold Hid; rw [List.take_succ_eq_append_getElem hlt, entsB_snoc]
      have ST : Hid (szL (l.take (k + 1)) = szL (l.take k) + szP l[k]) := by unfold Hid; rw [List.take_succ_eq_append_getElem hlt, szL_append]
      have SB : Hid (szL (l.take (k + 1)) ≤ 1020) := by
        unfold Hid
        have := szL_app (l.take (k + 1)) (l.drop (k + 1))
        rw [List.take_append_drop] at this
        have := SZL.out
        omega
      generalize l[k] = x at z0 z1 S1 S2 S3 ET ST
      obtain ⟨x1, x2⟩ := x
      simp only at z0 z1 S1 S2 S3
      obtain ⟨L0, hL0⟩ : ∃ L, L = headB next l.length ++ entsB (l.take k) := ⟨_, rfl⟩
      obtain ⟨L1, hL1⟩ : ∃ L, L = headB next l.length ++ entsB (l.take (k + 1)) := ⟨_, rfl⟩
      obtain ⟨n0, hn0⟩ : ∃ n, n = szL (l.take k) := ⟨_, rfl⟩
      obtain ⟨n1, hn1⟩ : ∃ n, n = szL (l.take (k + 1)) := ⟨_, rfl⟩
      have l0 : Hid (L0.length = 4 + n0) := by unfold Hid; rw [hL0, List.length_append, entsB_len, hn0]; rfl
      have EL : Hid (L1 = L0 ++ [UInt8.ofNat x1.size, UInt8.ofNat (x2.size / 256), UInt8.ofNat x2.size] ++ x1.data.toList ++ x2.data.toList) := by
        unfold Hid
        rw [hL1, ET.out, hL0]
        simp only [entB, List.append_assoc]
      have EN : Hid (n1 = n0 + (3 + x1.size + x2.size)) := by unfold Hid; rw [hn1, ST.out, hn0]; rfl
      have NB : Hid (n1 ≤ 1020) := by unfold Hid; rw [hn1]; exact SB.out
      rw [← hL0, ← hn0] at ho
      rw [← hn0]
      have HL1 := Lib.hid hL1; have HN1 := Lib.hid hn1
      clear hc ET ST SB hL0 hL1 hn0 hn1
      obtain ⟨W1, hW1⟩ : ∃ W, W = wr.alloc (.cells #[.string x1, .string x2] 47) := ⟨_, rfl⟩
      obtain ⟨W2, hW2⟩ : ∃ W, W = W1.alloc (.cells #[.int .u8 (x1.size : Int), .int .u8 ((x2.size : Int) / 256), .int .u8 ((x2.size : Int) % 256)] 5) := ⟨_, rfl⟩
      have K1 : Below wr.heap.size wr W1 := by rw [hW1]; exact (Below.refl _ wr).alloc (Nat.le_refl _) _
      have K2 : Below W1.heap.size W1 W2 := by rw [hW2]; exact (Below.refl _ W1).alloc (Nat.le_refl _) _
      have sz1 : W1.heap.size = wr.heap.size + 1 := by rw [hW1]; simp
      have P1 : W1.heap[wr.heap.size]? = some (.cells #[.string x1, .string x2] 47 (0, 0)) := by rw [hW1]; exact blk_new wr _
      have P2 : W2.heap[wr.heap.size]? = some (.cells #[.string x1, .string x2] 47 (0, 0)) := (K2.block _ (by omega)).trans P1
      have HP2 := Lib.hid P2
      have O2 : Hid (OwnU W2 w.heap.size (.slice Ab (4 + n0) cb) L0) := (ho.out.below K1).below K2
      have K12 : Below wr.heap.size wr W2 := K1.trans (K2.mono K1.size)
      have B2 : Hid (Below w.heap.size w W2) := hb.out.trans (K12.mono hb.out.size)
      have R2 : Hid (∀ j u, (uvs [UInt8.ofNat x1.size, UInt8.ofNat (x2.size / 256), UInt8.ofNat x2.size])[j]? = some u → W2.cell? ((⟨wr.heap.size + 1, 0, none⟩ : Addr).add j) = some u) := by
        unfold Hid
        rw [← sz1]
        have e : uvs [UInt8.ofNat x1.size, UInt8.ofNat (x2.size / 256), UInt8.ofNat x2.size] = [.int .u8 (x1.size : Int), .int .u8 ((x2.size : Int) / 256), .int .u8 ((x2.size : Int) % 256)] := by
          simp [uvs]
          omega
        rw [e, hW2]
        intro j u hu
        have hb2 := blk_new W1 (.cells #[.int .u8 (x1.size : Int), .int .u8 ((x2.size : Int) / 256), .int .u8 ((x2.size : Int) % 256)] 5)
        match j, hu with
        | 0, hu => simp at hu; subst hu; rw [show (⟨W1.heap.size, 0, none⟩ : Addr).add 0 = ⟨W1.heap.size, 0, none⟩ from rfl, blk_cell hb2]; rfl
        | 1, hu => simp at hu; subst hu; rw [show (⟨W1.heap.size, 0, none⟩ : Addr).add 1 = ⟨W1.heap.size, 1, none⟩ from rfl, blk_cell hb2]; rfl
        | 2, hu => simp at hu; subst hu; rw [show (⟨W1.heap.size, 0, none⟩ : Addr).add 2 = ⟨W1.heap.size, 2, none⟩ from rfl, blk_cell hb2]; rfl
        | j + 3, hu => simp at hu
      have HW1 := Lib.hid hW1; have HW2 := Lib.hid hW2
      have hpb : Hid (w.heap.size ≤ W2.heap.size) := B2.out.size
      clear hW1 hW2 K1 K2 sz1 P1 P2 K12
      go_wp2_with (at_builtin; rw [← HW1.out, ← HW2.out]; refine wpList_app_u8 rfl (.tmp 27) (.tmp 41) 51 rfl Try.underlying51 w.heap.size hpb.out (.slice Ab (4 + n0) cb) L0 [UInt8.ofNat x1.size, UInt8.ofNat (x2.size / 256), UInt8.ofNat x2.size] rfl O2.out ⟨wr.heap.size + 1, 0, none⟩ 3 rfl R2.out (by have := l0.out; have := NB.out; have := EN.out; simp only [List.length_cons, List.length_nil]; omega) ?_)
      intro v3 w3 o3 g3
      have O3 : Hid (OwnU w3.drew w.heap.size v3 (L0 ++ [UInt8.ofNat x1.size, UInt8.ofNat (x2.size / 256), UInt8.ofNat x2.size])) := o3.below ((Below.refl _ w3).drew)
      have B3 : Hid (Below w.heap.size w w3.drew) := (B2.out.trans ((Below.refl w.heap.size W2).grown g3 hpb.out (fun j hj => (O2.out.lt j hj).1))).drew
      have P3 : w3.drew.heap[wr.heap.size]? = some (.cells #[.string x1, .string x2] 47 (0, 0)) := (g3.block _ (lt_of_block HP2.out) (fun e => O2.out.ne HP2.out e.symm)).trans HP2.out
      clear o3 g3 O2 B2 R2 HP2
      have hw3 : Hid (w.heap.size ≤ w3.drew.heap.size) := B3.out.size
      go_wp2_with fail
      refine wp_region_flag (fun w' => w'.cell? ⟨wr.heap.size, 0, none⟩ = some (.string x1) ∧ w'.cell? ⟨wr.heap.size, 1, none⟩ = some (.string x2)) [(0, 1), (1, 1), (4, 1), (2, 2), (5, 2), (3, 0), (6, 0), (7, 1)] (by kernel_rfl) (by kernel_rfl) ⟨by rw [blk_cell P3]; rfl, by rw [blk_cell P3]; rfl⟩ ?_
      simp only [ordered, List.map_cons, List.map_nil, List.getD_cons_zero, List.getD_cons_succ]
      repeat (refine wpF_dry (fun K hK => ?_); go_simp; refine hK _ ?_; clear hK K)
      refine wpF_read (.string x1) rfl (fun w' hS => by obtain ⟨s0, s1⟩ := hS; go_simp) (fun K hK => ?_); go_simp; refine hK _ ?_; clear hK K
      refine wpF_read (.string x2) rfl (fun w' hS => by obtain ⟨s0, s1⟩ := hS; go_simp) (fun K hK => ?_); go_simp; refine hK _ ?_; clear hK K
      refine wpF_do ?_
      at_builtin
      refine wpList_app_text rfl (.tmp 43) (.tmp 45) 51 9 rfl Try.underlying51 Try.underlying9 w.heap.size hw3.out v3 _ rfl O3.out x1 rfl (by have := l0.out; have := NB.out; have := EN.out; simp only [List.length_append, List.length_cons, List.length_nil]; omega) ?_
      intro v4 w4 o4 g4
      have P4 : w4.heap[wr.heap.size]? = some (.cells #[.string x1, .string x2] 47 (0, 0)) := (g4.block _ (lt_of_block P3) (fun e => O3.out.ne P3 e.symm)).trans P3
      have O4 := Lib.hid o4
      have B4 : Hid (Below w.heap.size w w4) := B3.out.trans ((Below.refl w.heap.size w3.drew).grown g4 hw3.out (fun j hj => (O3.out.lt j hj).1))
      have hw4 : Hid (w.heap.size ≤ w4.heap.size) := B4.out.size
      clear o4 g4 O3 B3 P3
      go_wp2_with fail
      refine ⟨⟨by rw [blk_cell P4]; rfl, by rw [blk_cell P4]; rfl⟩, ?_⟩
      refine wpF_do ?_
      at_builtin
      refine wpList_app_text rfl (.tmp 46) (.tmp 48) 51 9 rfl Try.underlying51 Try.underlying9 w.heap.size hw4.out v4 _ rfl O4.out x2 rfl (by have := l0.out; have := NB.out; have := EN.out; have : x1.data.toList.length = x1.size := Array.length_toList; simp only [List.length_append, List.length_cons, List.length_nil]; omega) ?_
      intro v5 w5 o5 g5
      have P5 : w5.heap[wr.heap.size]? = some (.cells #[.string x1, .string x2] 47 (0, 0)) := (g5.block _ (lt_of_block P4) (fun e => O4.out.ne P4 e.symm)).trans P4
      have O5 := Lib.hid o5
      have B5 : Hid (Below w.heap.size w w5) := B4.out.trans ((Below.refl w.heap.size w4).grown g5 hw4.out (fun j hj => (O4.out.lt j hj).1))
      clear o5 g5 O4 B4 P4
      go_wp2_with fail
      refine ⟨⟨by rw [blk_cell P5]; rfl, by rw [blk_cell P5]; rfl⟩, ?_⟩
      repeat (refine wpF_dry (fun K hK => ?_); go_simp; refine hK _ ?_; clear hK K)
      refine wpF_nil ?_
      rw [← EL.out] at O5
      obtain ⟨A5, c5, rfl⟩ := O5.out.slice
      have l1 : L1.length = 4 + n1 := by
        rw [HL1.out, List.length_append, entsB_len, HN1.out]; rfl
      rw [l1] at O5
      rw [l1]
      rw [HL1.out] at O5
      rw [HN1.out] at O5
      rw [HN1.out]
      go_wp2
      go_roundw
      case rel => first | exact ⟨k + 1, A5, c5, hlt, by go_num, rfl, O5, B5⟩ | ((repeat apply Exists.intro); refine ⟨?_, rfl⟩; exact ⟨k + 1, A5, c5, hlt, by go_num, rfl, O5, B5⟩)
      case measure => simp [intOf]; omega
    · have hkl : k = l.length := by omega
      subst hkl
      rw [List.take_length] at ho
      rw [List.take_length]
      have hzz := SZL.out
      have hwr : Hid (w.heap.size ≤ wr.heap.size) := hb.out.size
      have hll : Hid ((headB next l.length ++ entsB l).length = 4 + szL l) := by unfold Hid; rw [List.length_append, entsB_len]; rfl
      obtain ⟨z, hz⟩ : ∃ z, z = szL l := ⟨_, rfl⟩
      rw [← hz] at ho hll hzz
      rw [← hz]
      have HZ := Lib.hid hz
      clear hz
      have e1 : (1024 : Int) - ((4 + z : Nat) : Int) = ((1020 - z : Nat) : Int) := by omega
      obtain ⟨q, hq⟩ : ∃ q, q = 1020 - z := ⟨_, rfl⟩
      rw [← hq] at e1
      obtain ⟨z4, hz4⟩ : ∃ q, q = 4 + z := ⟨_, rfl⟩
      rw [← hz4] at ho hll e1
      rw [← hz4]
      have HQ := Lib.hid hq; have HZ4 := Lib.hid hz4
      have hqb : q ≤ 1020 := by omega
      have hz4b : z4 ≤ 1024 := by omega
      clear hq hz4
      go_wp2_with (at_builtin; refine wpList_app_zeros rfl (.tmp 51) (.tmp 54) 51 3 rfl Try.underlying51 Try.underlying3 w.heap.size hwr.out (.slice Ab z4 cb) (headB next l.length ++ entsB l) rfl ho.out (by rw [hll.out]; have := HZ4.out; omega) q rfl (by rw [hll.out]; omega) ?_)
      intro v6 w6 o6 g6
      have B6 : Hid (Below w.heap.size w w6) := hb.out.trans ((Below.refl w.heap.size wr).grown g6 hwr.out (fun j hj => (ho.out.lt j hj).1))
      have PE : (⟨((headB next l.length ++ entsB l ++ List.replicate q 0).toArray)⟩ : ByteArray) = pgB next l := by unfold pgB pgL; rw [HQ.out, HZ.out]
      have CV : (convert 51 9 v6).run Try.prog w6 = .ok (.string (pgB next l)) w6 := by rw [← PE]; exact conv_own o6
      clear o6 g6
      go_wp2
      go_ret
      exact ⟨rfl, B6.out⟩
end Go.Proofs.Ytoolkamajlgcbaa
