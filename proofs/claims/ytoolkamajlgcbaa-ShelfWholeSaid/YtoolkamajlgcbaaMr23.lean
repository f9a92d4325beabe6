/- RdD: the walk of the law ShelfReads, given what Commit does (written by gen_rdd.py). -/
import Derived.Test.YtoolkamajlgcbaaMr22
import Derived.Deep.Cut
import Derived.Deep.CutRange
import Derived.Deep.DeepCutAuto
import Derived.Deep.CutBlock
import Derived.Laws.AppendOwnNone
import Derived.Deep.OwnRows
import Derived.Laws.OwnMore
import Derived.Lib.SliceRun
import Derived.Shelf.SlSortCmp.WholeK
import Derived.RangeFuncGives
import Derived.RangeFuncNested
import Derived.RangeFuncLeaves
import Derived.RangeFuncIn
import Derived.RangeFuncBox
import Derived.Maps.AppendAt
import Derived.Shelf.Abstract
import Derived.OwnWalkIn
import Derived.TacticsInMore
import Derived.LoopNIn
import Derived.LoopIn
set_option linter.unusedVariables false
set_option linter.unusedSimpArgs false
namespace Go.Proofs.Ytoolkamajlgcbaa
open Go.RowKit

theorem infoChg : (Try.prog.info? 53).map (fun i => (i.zero, i.size, i.bytes)) = some (some (.agg #[.int .i64 0, .string ByteArray.empty]), 2, 24) := by kernel_rfl
/-- What a good commit leaves. -/
def CmTo (w : World) (F : Nat → Prop) (g P : Nat) (w' : World) : Prop := ∃ d' F', DTo w F g d' w' F' ∧ Sz d' ∧ d'.down = false ∧ d'.l.length = 8 * P + 1 ∧ d'.waits = []
/-- What Commit does on a new store, of changes that may be. -/
def CmOK : Prop := ∀ (w : World) (F : Nat → Prop) (gj g P : Nat) (A : Option Addr) (c : Nat) (l : List (Int × ByteArray)), HasDisk w F g (Dk.new (8 * P + 1)) → Jb w gj g P → ¬ F gj → 2 ≤ P → P ≤ 12 → RdC w A l → l.length ≤ 12 → whyE P l = 0 →
  Calls Try.prog 21 #[.pointer (some ⟨gj, 0, none⟩), .slice A l.length c] w fun e w' => e = .returned (.int .i64 0) ∧ CmTo w F g P w'
theorem lenS_flat (sh : List (Nat × PL)) : lenS sh sh.length = (flatS sh).length := by
  have key : ∀ n, n ≤ sh.length → lenS sh n = ((sh.take n).flatMap (·.2)).length := by
    intro n
    induction n with
    | zero => intro _; rfl
    | succ n ih =>
      intro hn
      rw [lenS, ih (by omega), List.take_succ_eq_append_getElem (by omega), List.flatMap_append, List.length_append, List.flatMap_cons, List.flatMap_nil, List.append_nil, lfA_get (by omega)]
  rw [key _ (Nat.le_refl _), List.take_length]
  rfl
theorem strOfNums_u8 (l : List UInt8) : strOfNums (l.map (fun b => (b.toNat : Int))) = ⟨l.toArray⟩ := by
  simp [strOfNums, Function.comp_def]
theorem splice_pad (L : List UInt8) : splice (List.replicate 1024 (Value.int .u8 0)) 0 (uvs (L.take 1024)) = uvs (padL L) := by
  unfold splice padL uvs
  rw [List.take_zero, List.nil_append, List.map_append, List.map_replicate, List.drop_replicate, List.length_map, Nat.zero_add]
  rfl
theorem conv_pad (W : World) (L : List UInt8) (b : Nat) (h : W.heap[b]? = some (.cells (uvs (padL L)).toArray 5 (0, 0))) :
    (convert 51 9 (.slice (some ⟨b, 0, none⟩) 1024 1024)).run Try.prog W = .ok (.string (padB L)) W := by
  have e : padB L = strOfNums ((padL L).map (fun b => (b.toNat : Int))) := by rw [strOfNums_u8]; rfl
  rw [e]
  refine run_convert_bytes_arg _ _ _ Try.underlying51 Try.underlying5 _ 0 1024 1024 _ (by rw [List.length_map, padL_len]) (fun i hi => ?_) _ Try.underlying9
  rw [Nat.zero_add, blk_cell h]
  have hl : i < (padL L).length := by rw [padL_len]; first | omega | (rw [List.length_map, padL_len] at hi; exact hi)
  simp [uvs, List.getD_eq_getElem?_getD, hl]
set_option maxHeartbeats 6400000 in
set_option maxRecDepth 100000 in
theorem shelfReads_walk (CM : CmOK) (w : World) (pages : Int) (v1 : Value) (ls : List (List UInt8)) (h1 : RdUU w v1 ls) :
    Calls Try.prog 5 #[.int .i64 pages, v1] w fun e w' => e = .returned (.bool true) ∧ Below w.heap.size w w' := by
  obtain ⟨A1, c1, rfl, k1, k2, k3⟩ := h1
  have HL := Lib.hid k3
  clear k3
  by_cases hbad : pages < 2 ∨ 12 < pages
  · have SN := Lib.hid (sopened_no w pages hbad)
    rcases (show pages < 2 ∨ 2 ≤ pages by omega) with h | h
    · have d1 : decide (pages < 2) = true := by simpa using h
      clear hbad h
      go_enter Try.func5, Try.ntmps5
      go_wp2_with fail
      refine SN.out.mono ?_
      rintro e w' ⟨rfl, rfl⟩
      go_wp2_with fail
      refine (slives_any _).mono ?_
      rintro e w9 ⟨rfl, b9⟩
      have B9 := Lib.hid b9
      clear b9
      go_wp2
      go_ret
      exact ⟨rfl, B9.out⟩
    · have d1 : decide (pages < 2) = false := decide_eq_false (by omega)
      have d2 : decide (12 < pages) = true := by simp; omega
      clear hbad h
      go_enter Try.func5, Try.ntmps5
      go_wp2_with fail
      refine SN.out.mono ?_
      rintro e w' ⟨rfl, rfl⟩
      go_wp2_with fail
      refine (slives_any _).mono ?_
      rintro e w9 ⟨rfl, b9⟩
      have B9 := Lib.hid b9
      clear b9
      go_wp2
      go_ret
      exact ⟨rfl, B9.out⟩
  obtain ⟨P, rfl⟩ := Int.eq_ofNat_of_zero_le (show 0 ≤ pages by omega)
  have hP1 : 2 ≤ P := by omega
  have hP2 : P ≤ 12 := by omega
  have OP := Lib.hid (sopened_far w P hP1 hP2)
  have q1 : decide ((P : Int) < 2) = false := decide_eq_false (by omega)
  have q2 : decide (12 < (P : Int)) = false := decide_eq_false (by omega)
  have q1' : decide (P < 2) = false := decide_eq_false (by omega)
  have q2' : decide (12 < P) = false := decide_eq_false (by omega)
  have hmk : ∀ W : World, (Instr.makeSlice 51 (.int .i64 (1024 : Int)) (.int .i64 (1024 : Int))).run Try.prog W = .ok (.slice (some ⟨W.heap.size, 0, none⟩) 1024 1024) (W.alloc (.cells (madeCells #[.int .u8 0] 1024) 5)) := by
    intro W
    exact run_make_row' 51 5 (.int .u8 0) 1 Try.underlying51 infoB rfl .i64 .i64 1024 (by decide) (by decide) W
  obtain ⟨i0, hi0, hz0, hz1, hz2⟩ := info_parts infoChg
  clear hbad
  go_enter Try.func5, Try.ntmps5
  go_wp2_with fail
  refine OP.out.mono ?_
  rintro e w1 ⟨g, gj, gs, rfl, hb, hgs, b1, hj, F, hd, hfar⟩
  obtain ⟨F0, hd0, hsub0, hk0⟩ := hd.least
  have HFAR : Hid (∀ k, F0 k → w.heap.size ≤ k) := fun k hk => hfar k (hsub0 k hk)
  have HD := Lib.hid hd0
  have HK := Lib.hid hk0
  have HJ := Lib.hid hj
  have B1 := Lib.hid b1
  clear hb hgs b1 hj hd hd0 hk0 OP hsub0 hfar
  by_cases hlen : 12 < ls.length
  · have dl : decide ((12 : Int) < (ls.length : Int)) = true := decide_eq_true (by omega)
    have dl' : decide (12 < ls.length) = true := decide_eq_true hlen
    go_wp2_with fail
    refine (slives_any _).mono ?_
    rintro e w9 ⟨rfl, b9⟩
    have B9 : Hid (Below w.heap.size w w9) := B1.out.trans (b9.mono B1.out.size)
    clear b9
    go_wp2
    go_ret
    exact ⟨rfl, B9.out⟩
  have dl : decide ((12 : Int) < (ls.length : Int)) = false := decide_eq_false (by omega)
  have dl' : decide (12 < ls.length) = false := decide_eq_false hlen
  go_upto_block 0 with fail
  go_cut [8] (fun cv wx => ∃ (k : Nat) (Ac : Option Addr) (cc : Nat), cv = .slice Ac k cc ∧ k ≤ ls.length ∧ k ≤ P ∧ Hid (wx.ownsRow w1.heap.size 53 2 (.slice Ac k cc) k (civ (chL ls k))) ∧ Hid (Below w1.heap.size w1 wx))
  case first =>
    go_wp2_with fail
    go_loopw [8, 9, 45] (fun cv iv iv2 wr => ∃ k : Nat, k ≤ ls.length ∧ k ≤ P ∧ iv = .int .i64 k ∧ Hid (wr.ownsRow w1.heap.size 53 2 cv k (civ (chL ls k))) ∧ Hid (Below w1.heap.size w1 wr)) (fun _ iv _ _ => ls.length - (intOf iv).toNat)
    case atStart => exact ⟨0, Nat.zero_le _, Nat.zero_le _, rfl, World.ownsRow_nil _ _ _ _, Below.refl _ _⟩
    case round =>
      obtain ⟨k, hk, hkP, rfl, ho, hb⟩ := hrel
      obtain ⟨Ac, cc, rfl⟩ := own_slice ho.out
      by_cases hgo : k < ls.length ∧ k < P
      · obtain ⟨hlt, hltP⟩ := hgo
        have i1 : (k : Int) < (ls.length : Int) := by omega
        have i2 : (k : Int) < (P : Int) := by omega
        obtain ⟨bx, ox, rfl, hc⟩ := HL.out (by omega)
        obtain ⟨vi, z0, zr⟩ := hc k hlt
        have BB : Hid (Below w.heap.size w wr) := B1.out.trans (hb.out.mono B1.out.size)
        obtain ⟨sp, sc, rfl, s1, s2, s3⟩ := zr.below BB.out
        replace z0 := cell_below BB.out z0
        have HC := Lib.hid (chL_succ ls k)
        have eg : ls.getD k [] = ls[k] := by rw [List.getD_eq_getElem?_getD, List.getElem?_eq_getElem hlt]; rfl
        rw [eg] at HC
        generalize ls[k] = bs at z0 s1 s3 HC
        obtain ⟨Wm, hWm⟩ : ∃ W, W = wr.alloc (.cells (madeCells #[.int .u8 0] 1024) 5) := ⟨_, rfl⟩
        have KM : Hid (Below wr.heap.size wr Wm) := by rw [hWm]; exact (Below.refl _ wr).alloc (Nat.le_refl _) _
        have eM : madeCells #[Value.int .u8 0] 1024 = (List.replicate 1024 (Value.int .u8 0)).toArray := by rw [← toList_madeCells_one]
        obtain ⟨Z, hZ⟩ : ∃ Z, Z = List.replicate 1024 (Value.int .u8 0) := ⟨_, rfl⟩
        rw [← hZ] at eM
        have zl : Z.length = 1024 := by rw [hZ, List.length_replicate]
        have HZ := Lib.hid hZ
        have GM : Hid (Wm.heap[wr.heap.size]? = some (.cells Z.toArray 5 (0, 0))) := by rw [hWm, eM]; exact blk_new wr _
        clear hZ
        have OM : Hid (Wm.ownsRow w1.heap.size 53 2 (.slice Ac k cc) k (civ (chL ls k))) := own_touch ho.out (Touch.of_below KM.out : Touch (fun _ => False) wr Wm) (fun _ _ x => x)
        have BM : Hid (Below w1.heap.size w1 Wm) := hb.out.trans (KM.out.mono hb.out.size)
        have z0m : ∀ q, (wr.alloc q).cell? ⟨bx, ox + k, none⟩ = some (.slice sp bs.length sc) := fun q => cell_below ((Below.refl _ wr).alloc (Nat.le_refl _) q) z0
        have S3 : Hid (0 < bs.length → ∃ ad, sp = some ad ∧ ∀ j u, (uvs bs)[j]? = some u → Wm.cell? (ad.add j) = some u) := fun hp => by
          obtain ⟨ad, e, hc⟩ := s3 hp
          exact ⟨ad, e, fun j u hu => cell_below KM.out (hc j u hu)⟩
        obtain ⟨cs, hcs⟩ : ∃ q, q = uvs (bs.take 1024) := ⟨_, rfl⟩
        have csl : cs.length = Nat.min bs.length 1024 := by rw [hcs, uvs_len, List.length_take]; exact Nat.min_comm _ _
        have HCS := Lib.hid hcs
        have HWM := Lib.hid hWm
        have hlb : Hid (w1.heap.size ≤ wr.heap.size) := hb.out.size
        clear hc zr hWm eM eg s3 hcs z0
        have HPOS : Hid (0 < cs.length → (some ⟨wr.heap.size, 0, none⟩ : Option Addr) = some ⟨wr.heap.size, 0, none⟩ ∧ ∃ ad, sp = some ad ∧ ∀ j v, cs[j]? = some v → Wm.cell? (ad.add j) = some v) := fun hp => ⟨rfl, by
          have hp2 : 0 < bs.length := by rw [csl] at hp; have := Nat.min_le_left bs.length 1024; show 0 < bs.length; exact Nat.lt_of_lt_of_le hp this
          obtain ⟨ad, e, hc⟩ := S3.out hp2
          refine ⟨ad, e, fun j v hv => hc j v ?_⟩
          rw [HCS.out] at hv
          have hjl := (List.getElem?_eq_some_iff.1 hv).1
          rw [show bs = bs.take 1024 ++ bs.drop 1024 from (List.take_append_drop 1024 bs).symm]
          show ((bs.take 1024 ++ bs.drop 1024).map _)[j]? = some v
          rw [List.map_append, List.getElem?_append_left (by rw [List.length_map]; rw [uvs_len] at hjl; exact hjl)]
          exact hv⟩
        have HFIT : Hid (0 + cs.length ≤ Z.length) := by unfold Hid; rw [csl, zl, Nat.zero_add]; exact Nat.min_le_right _ _
        have HONE : Hid (∀ v ∈ cs, v.oneCell' = true) := by unfold Hid; rw [HCS.out]; exact uvs_one _
        have HCSL := Lib.hid csl
        have SPL : Hid (splice Z 0 cs = uvs (padL bs)) := by unfold Hid; rw [HZ.out, HCS.out]; exact splice_pad bs
        clear csl zl
        go_wp2_with (rw [← HWM.out]; refine (wpList_copy_splice rfl (.tmp 57) (.tmp 61) 51 51 rfl 5 Try.underlying51 (by kernel_rfl) (some ⟨wr.heap.size, 0, none⟩) sp 1024 1024 bs.length sc rfl rfl wr.heap.size 0 Z 5 GM.out cs HCSL.out HPOS.out HFIT.out HONE.out wr.heap.size wr KM.out (Nat.le_refl _) ?_))
        intro w2 HG2 hB2
        have GP : w2.heap[wr.heap.size]? = some (.cells (uvs (padL bs)).toArray 5 (0, 0)) := by rw [← SPL.out]; exact HG2.out
        have hcv := conv_pad w2 bs wr.heap.size GP
        have O2 : Hid (w2.ownsRow w1.heap.size 53 2 (.slice Ac k cc) k (civ (chL ls k))) := own_touch ho.out (Touch.of_below hB2 : Touch (fun _ => False) wr w2) (fun _ _ x => x)
        have B2 : Hid (Below w1.heap.size w1 w2) := hb.out.trans (hB2.mono hb.out.size)
        generalize padB bs = pb at hcv HC
        obtain ⟨W3, hW3⟩ : ∃ W, W = w2.alloc (.cells #[.int .i64 (k : Int), .string pb] 53) := ⟨_, rfl⟩
        have K3 : Hid (Below w2.heap.size w2 W3) := by rw [hW3]; exact (Below.refl _ w2).alloc (Nat.le_refl _) _
        have O3 : Hid (W3.ownsRow w1.heap.size 53 2 (.slice Ac k cc) k (civ (chL ls k))) := own_touch O2.out (Touch.of_below K3.out : Touch (fun _ => False) w2 W3) (fun _ _ x => x)
        have NW : Hid (∀ j u, [Value.int .i64 (k : Int), .string pb][j]? = some u → W3.cell? ((⟨w2.heap.size, 0, none⟩ : Addr).add j) = some u) := by unfold Hid; rw [hW3]; exact two_new _ _ _ _
        have B3 : Hid (Below w1.heap.size w1 W3) := B2.out.trans (K3.out.mono B2.out.size)
        have HW3 := Lib.hid hW3
        clear hW3 HG2 hB2 GP GM HPOS HFIT HONE HCSL SPL HZ S3 KM OM BM
        go_wp2_with (at_builtin; rw [← HW3.out]; refine (wpList_append_own_at _ rfl (.tmp 63) (.tmp 68) 50 rfl w1.heap.size 53 i0 _ 2 24 Try.underlying50 hi0 hz0 hz1 hz2 rfl (by decide) (.slice Ac k cc) k (civ (chL ls k)) rfl O3.out ⟨w2.heap.size, 0, none⟩ 1 1 [.int .i64 (k : Int), .string pb] rfl rfl NW.out (by simp [Value.oneCell']) (by unfold maxLen; omega) (by omega) B3.out.size ?_))
        intro v5 w5 ho5 hg5 _ _
        have O5 : Hid (w5.ownsRow w1.heap.size 53 2 v5 (k + 1) (civ (chL ls (k + 1)))) := by
          unfold Hid
          rw [HC.out, civ_append]
          exact ho5
        have B5 : Hid (Below w1.heap.size w1 w5) := B3.out.trans ((Below.refl w1.heap.size W3).grown hg5 B3.out.size (fun j hj => (O3.out.lt j hj).1))
        clear ho5 hg5 hcv
        go_wp2
        go_roundw
        case rel => first | exact ⟨k + 1, hlt, hltP, by go_num, O5, B5⟩ | ((repeat apply Exists.intro); refine ⟨?_, rfl⟩; exact ⟨k + 1, hlt, hltP, by go_num, O5, B5⟩)
        case measure => simp [intOf]; omega
      · have HO := Lib.hid ho.out
        rcases (show ¬ k < ls.length ∨ (k < ls.length ∧ ¬ k < P) by omega) with hn | ⟨hn, hn2⟩
        · have e1 : ¬ (k : Int) < (ls.length : Int) := by omega
          have e2 : decide ((k : Int) < (ls.length : Int)) = false := decide_eq_false e1
          go_wp2_with fail
          go_meet
          exact ⟨k, Ac, cc, rfl, hk, hkP, HO, hb⟩
        · have e1 : (k : Int) < (ls.length : Int) := by omega
          have e2 : decide ((k : Int) < (ls.length : Int)) = true := decide_eq_true e1
          have e3 : ¬ (k : Int) < (P : Int) := by omega
          have e4 : decide ((k : Int) < (P : Int)) = false := decide_eq_false e3
          go_wp2_with fail
          go_meet
          exact ⟨k, Ac, cc, rfl, hk, hkP, HO, hb⟩
  case rest =>
    obtain ⟨k, Ac, cc, rfl, hk, hkP, HO, hb⟩ := hcut
    have lk : (chL ls k).length = k := chL_len ls k
    have hjr := HJ.out.below hb.out
    have hnf : ¬ F0 gj := fun hf => HJ.out.far (HK.out gj hf) rfl
    have RCk : RdC wc Ac (chL ls k) := rdC_own (by rw [lk]; exact HO.out)
    have CMr := CM wc F0 gj g P Ac cc (chL ls k) (HD.out.below hb.out) hjr hnf hP1 hP2 RCk (by rw [lk]; omega) (chL_why ls hkP)
    rw [lk] at CMr
    have CMh := Lib.hid CMr
    clear CMr RCk lk
    go_wp2_with fail
    refine CMh.out.mono ?_
    rintro e w2 ⟨rfl, hcm⟩
    obtain ⟨d', F', ht, hz, hup, hl, hw⟩ := hcm
    obtain ⟨F1, hd1, hsub1, hk1⟩ := ht.has.least
    have hj2 := hjr.touch ht.touch hnf
    have BR : Hid (Below w.heap.size w wc) := B1.out.trans (hb.out.mono B1.out.size)
    have B2 : Hid (Below w.heap.size w w2) := BR.out.trans (ht.touch.below BR.out.size HFAR.out)
    have HFAR1 : Hid (∀ k, F1 k → w.heap.size ≤ k) := fun k hk => by
      rcases ht.new k (hsub1 k hk) with h | h
      · exact HFAR.out k h
      · exact Nat.le_trans BR.out.size h
    have SO := Lib.hid (sopen_up w2 F1 gj g P d' hd1 hj2 hz (by rw [hw]; decide) hP1 (by omega) (by omega) hup)
    have LA := Lib.hid (loadA_ok (P := P) hz hup (by omega) (by omega))
    have HJ2 := Lib.hid hj2; have HD1 := Lib.hid hd1; have HK1 := Lib.hid hk1; have HZ := Lib.hid hz; have HL' := Lib.hid hl; have HW' := Lib.hid hw
    obtain ⟨R, hR⟩ : ∃ R, R = loadA d' P := ⟨_, rfl⟩
    rw [← hR] at SO LA
    clear ht hz hup hl hw hd1 hsub1 hk1 hj2 hjr hnf CMh hR HO hb HL
    obtain ⟨r1, sh⟩ := R
    simp only at SO LA
    go_wp2_with fail
    refine SO.out.mono ?_
    rintro e w3 hso
    rcases hso with ⟨rfl, gs2, rfl, hop⟩ | ⟨hr, rfl, b3⟩
    rotate_left
    · have hr4 : r1 = 4 := by
        rcases LA.out.1 with h | h
        · exact absurd h hr
        · exact h
      subst hr4
      have B3 : Hid (Below w.heap.size w w3) := B2.out.trans (b3.mono B2.out.size)
      clear b3 SO hr
      go_wp2_with fail
      refine (slives_any _).mono ?_
      rintro e w9 ⟨rfl, b9⟩
      have B9 : Hid (Below w.heap.size w w9) := B3.out.trans (b9.mono B3.out.size)
      clear b9
      go_wp2
      go_ret
      exact ⟨rfl, B9.out⟩
    obtain ⟨hgs2, b3, L, v, hsh, hsho⟩ := hop
    have B3 : Hid (Below w.heap.size w w3) := B2.out.trans (b3.mono B2.out.size)
    have SH := Lib.hid hsho
    have HD3 := Lib.hid (HD1.out.below b3)
    have HJ3 := Lib.hid (HJ2.out.below b3)
    have GS := Lib.hid LA.out.2.1
    have SR := Lib.hid LA.out.2.2.1
    have SHP := Lib.hid hsh
    have shn : sh.length ≤ 11 := by
      have := few_ids (P - 1) _ LA.out.2.2.2.1 LA.out.2.2.2.2
      rw [List.length_map] at this
      omega
    obtain ⟨FF, hFF⟩ : ∃ FF, FF = flatS sh := ⟨_, rfl⟩
    have HFF := Lib.hid hFF
    have FL : FF.length ≤ 3740 := by
      have := flatG_len GS.out
      rw [hFF]; omega
    have AL := Lib.hid (all_any w3 gs2 sh (by rw [← hsh]; exact hsho.read) GS.out SR.out (by omega))
    have GETO : Hid (∀ a v, (a, v) ∈ FF → getK sh a = some v) := fun a v h => by rw [hFF] at h; exact getK_of_mem SR.out (goodS_full GS.out) h
    have EOK : Hid (∀ p ∈ FF, EntOK p) := fun p hp => by rw [hFF] at hp; exact flat_ok GS.out p hp
    rw [← hFF] at AL SR
    clear hsh hsho b3 hFF SO LA
    go_wp2_with fail
    refine AL.out.mono ?_
    rintro e w4 ⟨vx, rfl, ox, b4⟩
    obtain ⟨AX, cX, rfl, rx⟩ := lf_own ox 0
    have RX := Lib.hid rx.1
    have SH4 := Lib.hid (SH.out.below b4)
    have HD4 := Lib.hid (HD3.out.below b4)
    have HJ4 := Lib.hid (HJ3.out.below b4)
    have B4 : Hid (Below w.heap.size w w4) := B3.out.trans (b4.mono B3.out.size)
    clear ox rx b4 AL SH HD3 HJ3
    go_wp2_with fail
    go_loopw [14, 92] (fun iv iv2 wr => ∃ i : Nat, i ≤ FF.length ∧ iv = .int .i64 i ∧ Hid (Below w4.heap.size w4 wr)) (fun iv _ _ => FF.length - (intOf iv).toNat)
    case atStart => exact ⟨0, Nat.zero_le _, rfl, Below.refl _ _⟩
    case round =>
      obtain ⟨i, hi, rfl, hb⟩ := hrel
      by_cases hlt : i < FF.length
      · obtain ⟨bx, ox, rfl, hc⟩ := (RX.out.below hb.out) (by omega)
        obtain ⟨y0, y1⟩ := hc i hlt
        have hsh4 := (SH4.out.below hb.out).read
        rw [SHP.out] at hsh4
        have GT := Lib.hid (get_any _ gs2 sh hsh4 (goodS_full GS.out) (by omega) (fun i => by have := (goodS_leaf GS.out i).2; omega) FF[i].1)
        rw [GETO.out FF[i].1 FF[i].2 (List.getElem_mem hlt)] at GT
        have hmay' := EOK.out FF[i] (List.getElem_mem hlt)
        have PV : Hid (0 < i → ∃ pk, wr.cell? ⟨bx, ox + (i - 1) * 2, none⟩ = some (.string pk) ∧ ltB pk FF[i].1 = true) := fun h0 => by
          exact ⟨FF[i - 1].1, (hc (i - 1) (by omega)).1, List.pairwise_iff_getElem.1 SR.out (i - 1) i (by omega) hlt (by omega)⟩
        generalize FF[i] = p at y0 y1 GT PV hmay'
        obtain ⟨xk, xv⟩ := p
        simp only [Option.getD_some, Option.isSome_some] at y0 y1 GT PV
        have hmay : mayB xk xv = true := mayB_iff.2 hmay'
        have hil : (i : Int) < (FF.length : Int) := by omega
        clear hc hsh4 hmay'
        go_wp2_with fail
        refine GT.out.mono ?_
        rintro e w6 ⟨rfl, b6⟩
        have B7 : Hid (Below w4.heap.size w4 w6.drew) := (hb.out.trans (b6.mono hb.out.size)).drew
        have y0d : w6.drew.cell? ⟨bx, ox + i * 2, none⟩ = some (.string xk) := cell_below b6 y0
        have y1d : w6.drew.cell? ⟨bx, ox + i * 2 + 1, none⟩ = some (.string xv) := cell_below b6 y1
        have PV7 : Hid (0 < i → ∃ pk, w6.drew.cell? ⟨bx, ox + (i - 1) * 2, none⟩ = some (.string pk) ∧ ltB pk xk = true) := fun h0 => by
          obtain ⟨pk, h1, h2⟩ := PV.out h0
          exact ⟨pk, cell_below b6 h1, h2⟩
        clear y0 y1 b6 GT hb PV
        by_cases h0 : i = 0
        · subst h0
          simp only [Nat.zero_mul, Nat.add_zero] at y0d y1d
          go_wp2_with fail
          refine wp_region_flag (fun w' => w'.cell? ⟨bx, ox, none⟩ = some (.string xk) ∧ w'.cell? ⟨bx, ox + 1, none⟩ = some (.string xv)) [(0, 1), (1, 1), (2, 1), (3, 1), (4, 1), (5, 1), (6, 1), (7, 1), (8, 0), (9, 1), (10, 1), (11, 1), (12, 1), (13, 1), (14, 1), (15, 1), (16, 1), (17, 1), (18, 1), (19, 1), (21, 1), (22, 1), (23, 1), (24, 1), (20, 2), (25, 0), (26, 1), (27, 1), (28, 1), (29, 1), (30, 1), (31, 1), (32, 1), (33, 1), (35, 1), (36, 1), (37, 1), (38, 1), (34, 2), (39, 0), (40, 0), (41, 1), (42, 1)] (by kernel_rfl) (by kernel_rfl) ⟨y0d, y1d⟩ ?_
          simp only [ordered, List.map_cons, List.map_nil, List.getD_cons_zero, List.getD_cons_succ]
          repeat (refine wpF_dry (fun K hK => ?_); go_simp; refine hK _ ?_; clear hK K)
          refine wpF_do ?_
          go_wp2_with fail
          refine ⟨⟨y0d, y1d⟩, ?_⟩
          repeat (refine wpF_dry (fun K hK => ?_); go_simp; refine hK _ ?_; clear hK K)
          refine wpF_skip (fun K hK => ?_)
          go_simp
          refine hK _ ?_
          clear hK K
          refine wpF_do ?_
          go_wp2_with fail
          refine ⟨⟨y0d, y1d⟩, ?_⟩
          repeat (refine wpF_dry (fun K hK => ?_); go_simp; refine hK _ ?_; clear hK K)
          refine wpF_read (.string xk) rfl (fun w' hS => by obtain ⟨s1, s2⟩ := hS; go_simp) (fun K hK => ?_)
          go_simp
          refine hK _ ?_
          clear hK K
          refine wpF_do ?_
          go_wp2_with fail
          refine ⟨⟨y0d, y1d⟩, ?_⟩
          refine wpF_do ?_
          go_wp2_with fail
          refine (rmay_any _ _ _).mono ?_
          rintro e w' ⟨rfl, rfl⟩
          rw [hmay]
          go_wp2_with fail
          refine ⟨⟨y0d, y1d⟩, ?_⟩
          repeat (refine wpF_dry (fun K hK => ?_); go_simp; refine hK _ ?_; clear hK K)
          refine wpF_nil ?_
          go_wp2
          go_roundw
          case rel => first | exact ⟨1, hlt, by go_num, B7⟩ | ((repeat apply Exists.intro); refine ⟨?_, rfl⟩; exact ⟨1, hlt, by go_num, B7⟩)
          case measure => simp [intOf]; omega
        · obtain ⟨pk, p0d, hpk⟩ := PV7.out (by omega)
          have q3 : Op.bytesLess pk.toList xk.toList = true := hpk
          obtain ⟨j, hj⟩ : ∃ j, j = i - 1 := ⟨_, rfl⟩
          rw [← hj] at p0d
          have ej : (i : Int) - 1 = (j : Int) := by omega
          have wj : IntKind.i64.wrap ((i : Int) - 1) = (j : Int) := by rw [ej, IntKind.wrap_i64]; omega
          have hjl : (j : Int) < (FF.length : Int) := by omega
          have hip : (0 : Int) < (i : Int) := by omega
          have dip : decide ((0 : Int) < (i : Int)) = true := decide_eq_true hip
          have dip' : decide (0 < i) = true := decide_eq_true (by omega)
          have HJx := Lib.hid hj
          have EJ := Lib.hid ej
          clear hj hpk PV7 ej
          go_wp2_with fail
          refine wp_region_flag (fun w' => w'.cell? ⟨bx, ox + i * 2, none⟩ = some (.string xk) ∧ w'.cell? ⟨bx, ox + i * 2 + 1, none⟩ = some (.string xv) ∧ w'.cell? ⟨bx, ox + j * 2, none⟩ = some (.string pk)) [(0, 1), (1, 1), (2, 1), (3, 1), (4, 1), (5, 1), (6, 1), (7, 1), (8, 0), (9, 1), (10, 1), (11, 1), (12, 1), (13, 1), (14, 1), (15, 1), (16, 1), (17, 1), (18, 1), (19, 1), (21, 1), (22, 1), (23, 1), (24, 1), (20, 2), (25, 0), (26, 1), (27, 1), (28, 1), (29, 1), (30, 1), (31, 1), (32, 1), (33, 1), (35, 1), (36, 1), (37, 1), (38, 1), (34, 2), (39, 0), (40, 0), (41, 1), (42, 1)] (by kernel_rfl) (by kernel_rfl) ⟨y0d, y1d, p0d⟩ ?_
          simp only [ordered, List.map_cons, List.map_nil, List.getD_cons_zero, List.getD_cons_succ]
          repeat (refine wpF_dry (fun K hK => ?_); go_simp; refine hK _ ?_; clear hK K)
          refine wpF_do ?_
          go_wp2_with fail
          refine ⟨⟨y0d, y1d, p0d⟩, ?_⟩
          repeat (refine wpF_dry (fun K hK => ?_); go_simp; refine hK _ ?_; clear hK K)
          refine wpF_read (.string pk) rfl (fun w' hS => by obtain ⟨s1, s2, s3⟩ := hS; go_simp) (fun K hK => ?_)
          go_simp
          refine hK _ ?_
          clear hK K
          refine wpF_do ?_
          go_wp2_with fail
          refine ⟨⟨y0d, y1d, p0d⟩, ?_⟩
          repeat (refine wpF_dry (fun K hK => ?_); go_simp; refine hK _ ?_; clear hK K)
          refine wpF_read (.string xk) rfl (fun w' hS => by obtain ⟨s1, s2, s3⟩ := hS; go_simp) (fun K hK => ?_)
          go_simp
          refine hK _ ?_
          clear hK K
          refine wpF_do ?_
          go_wp2_with fail
          refine ⟨⟨y0d, y1d, p0d⟩, ?_⟩
          refine wpF_do ?_
          go_wp2_with fail
          refine (rmay_any _ _ _).mono ?_
          rintro e w' ⟨rfl, rfl⟩
          rw [hmay]
          go_wp2_with fail
          refine ⟨⟨y0d, y1d, p0d⟩, ?_⟩
          repeat (refine wpF_dry (fun K hK => ?_); go_simp; refine hK _ ?_; clear hK K)
          refine wpF_nil ?_
          go_wp2
          go_roundw
          case rel => first | exact ⟨i + 1, hlt, by go_num, B7⟩ | ((repeat apply Exists.intro); refine ⟨?_, rfl⟩; exact ⟨i + 1, hlt, by go_num, B7⟩)
          case measure => simp [intOf]; omega
      · have hil : i = FF.length := by omega
        subst hil
        obtain ⟨F2, hd2, hsub2, hk2⟩ := (HD4.out.below hb.out).least
        have HFAR2 : Hid (∀ k, F2 k → w.heap.size ≤ k) := fun k hk => HFAR1.out k (hsub2 k hk)
        have B5 : Hid (Below w.heap.size w wr) := B4.out.trans (hb.out.mono B4.out.size)
        have SH5 := Lib.hid (SH4.out.below hb.out)
        have hj5 := HJ4.out.below hb.out
        have hnf2 : ¬ F2 gj := fun hf => hj5.far (hk2 gj hf) rfl
        have FH := Lib.hid (fail_h hd2 (by rw [HW'.out]; decide) (.slice none 0 0) [] ⟨rfl, none, 0, rfl, Nat.le_refl _, by decide, fun h => by simp at h⟩ (fun h => by simp at h))
        have HK2 := Lib.hid hk2; have HJ5 := Lib.hid hj5; have HNF := Lib.hid hnf2
        clear hd2 hsub2 hk2 hj5 hnf2
        go_wp2_with fail
        refine FH.out.mono ?_
        rintro e w6 ⟨rfl, F3, ht3⟩
        have SH6 := Lib.hid (SH5.out.disk ht3.touch HK2.out)
        have B6 : Hid (Below w.heap.size w w6) := B5.out.trans (ht3.touch.below B5.out.size HFAR2.out)
        have hj6 := HJ5.out.touch ht3.touch HNF.out
        have fl6 : (d'.fail []).l = d'.l := by
          show Dk.settle _ 0 d'.waits d'.l = d'.l
          rw [HW'.out]
          rfl
        have SO6 := Lib.hid (sopen_down w6 F3 gj g P (d'.fail []) ht3.has hj6 (sz_fail HZ.out []) (by show ([] : List Stp).length < _; decide) hP1 (by omega) (by rw [fl6, HL'.out]; exact Nat.le_refl _) rfl)
        clear ht3 hj6 fl6 FH
        go_wp2_with fail
        refine SO6.out.mono ?_
        rintro e w7 ⟨rfl, b7⟩
        have B7 : Hid (Below w.heap.size w w7) := B6.out.trans (b7.mono B6.out.size)
        have SH7 := Lib.hid (SH6.out.below b7)
        have hsh7 := SH7.out.read
        rw [SHP.out] at hsh7
        have hlen7 : lenS sh sh.length = FF.length := by rw [HFF.out]; exact lenS_flat sh
        have LN := slen_any w7 gs2 sh hsh7 (by omega) (fun i _ => small_of (goodS_leaf GS.out i).1) (by rw [hlen7]; omega)
        rw [hlen7] at LN
        have LNh := Lib.hid LN
        clear b7 SO6 hsh7 hlen7 LN SH6
        go_wp2_with fail
        refine LNh.out.mono ?_
        rintro e w8 ⟨rfl, b8⟩
        have B8 : Hid (Below w.heap.size w w8) := B7.out.trans (b8.mono B7.out.size)
        clear b8 LNh
        go_wp2_with fail
        refine (slives_any _).mono ?_
        rintro e w9 ⟨rfl, b9⟩
        have B9 : Hid (Below w.heap.size w w9) := B8.out.trans (b9.mono B8.out.size)
        clear b9
        go_wp2
        go_ret
        exact ⟨rfl, B9.out⟩
end Go.Proofs.Ytoolkamajlgcbaa
/- JnE: rows of changes, and the compare that Commit sorts by. -/
set_option linter.unusedVariables false
set_option linter.unusedSimpArgs false
namespace Go.Proofs.Ytoolkamajlgcbaa
open Go.RowKit

def chv : List (Nat × ByteArray) → List Value
  | [] => []
  | h :: l => .int .i64 (h.1 : Int) :: .string h.2 :: chv l
theorem chv_length : ∀ l, (chv l).length = l.length * 2
  | [] => rfl
  | h :: l => by simp [chv, chv_length l]; omega
theorem chv_append : ∀ a b, chv (a ++ b) = chv a ++ chv b
  | [], b => rfl
  | h :: a, b => by simp [chv, chv_append a b]
theorem chv_get : ∀ (l : List (Nat × ByteArray)) (k : Nat) (h : k < l.length), (chv l)[k * 2]? = some (.int .i64 (l[k].1 : Int)) ∧ (chv l)[k * 2 + 1]? = some (.string l[k].2)
  | x :: l, 0, h => ⟨rfl, rfl⟩
  | x :: l, k + 1, h => by
    have := chv_get l k (by simpa using h)
    rw [show (k + 1) * 2 = k * 2 + 2 by omega, show k * 2 + 2 + 1 = k * 2 + 1 + 2 by omega]
    simpa [chv] using this
theorem infoCh : (Try.prog.info? 53).map (fun i => (i.zero, i.size, i.bytes)) = some (some (.agg #[.int .i64 0, .string ByteArray.empty]), 2, 24) := by kernel_rfl
abbrev BCh := { x : Nat × ByteArray // x.1 ≤ 128 }
instance : Inhabited BCh := ⟨⟨(0, ByteArray.empty), by decide⟩⟩
def encCh (x : BCh) : List Value := [.int .i64 (x.1.1 : Int), .string x.1.2]
def cfCh (x y : BCh) : Int := (x.1.1 : Int) - y.1.1
open Go.Shelf Go.Lib Go.Sort in
theorem cmpCh_any (x y : BCh) (W : World) : Calls Try.prog 48 #[.agg #[.int .i64 (x.1.1 : Int), .string x.1.2], .agg #[.int .i64 (y.1.1 : Int), .string y.1.2]] W fun e w' => e = .returned (.int .i64 (cfCh x y)) ∧ ∃ q os', w' = grow (W.drewN q) os' := by
  have hx := x.2; have hy := y.2
  unfold cfCh
  generalize x.1 = a at hx ⊢
  generalize y.1 = b at hy ⊢
  go_enter Try.func48, Try.ntmps48
  go_wp2
  go_ret
  exact ⟨rfl, 0, _, by rw [alloc_eq_grow, alloc_eq_grow, grow_grow]; rfl⟩
open Go.Shelf Go.Lib Go.Sort in
theorem cmpCh_lays (blk off size : Nat) (w : World) : CmpLays Try.prog 48 #[] encCh 2 cfCh blk off size w := fun _ _ _ _ x y => cmpCh_any x y _
open Go.Sort in
theorem ltCh (x y : BCh) : ltOf cfCh x y = decide (x.1.1 < y.1.1) := by
  unfold ltOf cfCh
  by_cases h : x.1.1 < y.1.1
  · rw [decide_eq_true h, decide_eq_true (by omega)]
  · rw [decide_eq_false h, decide_eq_false (by omega)]
open Go.Sort in
theorem swoCh : SWO (ltOf cfCh) where
  irrefl x := by rw [ltCh]; simp
  trans x y z h1 h2 := by rw [ltCh] at *; simp at *; omega
  ntrans x y z h1 h2 := by rw [ltCh] at *; simp at *; omega
end Go.Proofs.Ytoolkamajlgcbaa
/- Seq: slices.Values, AppendSeq, Collect at strongroom/journal.Change. (written by gen_seq.py) -/
set_option linter.unusedVariables false
set_option linter.unusedSimpArgs false
namespace Go.Proofs.Ytoolkamajlgcbaa
open Go.RowKit Go.Shelf

set_option maxHeartbeats 1600000 in
set_option maxRecDepth 100000 in
/-- The iterator: whatever the caller keeps between its rounds. -/
theorem vals_in (F : Fence) (n : Nat) (hf : F.fn 75) (hro : F.round = none) (hn : 1 ≤ n) (l Bc : Nat) (A : Option Addr) (b off c : Nat) (L : List (Nat × ByteArray)) (J : Nat → World → Prop) (W : World)
    (hbox : W.cell? ⟨Bc, 0, none⟩ = some (.slice A L.length c)) (hA : 0 < L.length → A = some ⟨b, off, none⟩)
    (hrd : ∀ k W', J k W' → ∀ (j : Nat) (h : j < L.length), W'.cell? ⟨b, off + j * 2, none⟩ = some (.int .i64 (L[j].1 : Int)) ∧ W'.cell? ⟨b, off + j * 2 + 1, none⟩ = some (.string L[j].2))
    (hJa : ∀ k W' o, J k W' → J k (W'.alloc o))
    (hY : ∀ k W' (h : k < L.length), J k W' → YieldAt F (n - 1) Try.prog l #[(.agg #[.int .i64 (L[k].1 : Int), .string L[k].2])] W' fun e W'' => e = .returned (.bool true) ∧ J (k + 1) W'')
    (h0 : J 0 W) (hL : L.length ≤ 1048577) :
    CallsIn F n Try.prog 75 #[.func (.yield l) #[] #[], .pointer (some ⟨Bc, 0, none⟩)] W fun e W' => (∃ v, e = .returned v) ∧ J L.length W' := by
  have HRD := Lib.hid hrd; have HJA := Lib.hid hJa; have HY := Lib.hid hY; have H0 := Lib.hid h0; have HA := Lib.hid hA
  clear hrd hJa hY h0 hA
  refine callsIn_of_wp Try.func75 rfl hf ?_ hro
  simp only [Try.ntmps75, List.size_toArray, List.length_cons, List.length_nil, Nat.reduceAdd, Nat.reduceSub, Array.replicate_succ, Array.replicate_zero, List.push_toArray, List.append_toArray, List.nil_append, List.cons_append]
  gi_wp2
  gi_loopw [7] (fun i wr => ∃ k : Nat, k ≤ L.length ∧ i = .int .i64 k ∧ Hid (J k wr)) (fun i _ => L.length - (intOf i).toNat)
  case atStart => exact ⟨0, Nat.zero_le _, rfl, H0⟩
  case round =>
    obtain ⟨k, hk, rfl, hJ⟩ := hrel
    by_cases hlt : k < L.length
    · have hAe := HA.out (by omega)
      subst hAe
      obtain ⟨c0, c1⟩ := HRD.out k wr hJ.out k hlt
      obtain ⟨fn, tmps, assign, body, hy, hR⟩ := HY.out k (wr.alloc (.cells #[.int .i64 (L[k].1 : Int), .string L[k].2] 53)) hlt (HJA.out k wr _ hJ.out)
      generalize L[k] = x at c0 c1 hy hR
      gi_wp2
      refine hR.mono ?_
      rintro e W3 ⟨rfl, hJ3⟩
      have HJ3 := Lib.hid hJ3
      clear hJ3
      gi_wp2
      go_roundw
      case rel => exact ⟨k + 1, hlt, by go_num, HJ3⟩
      case measure => simp [intOf]; omega
    · obtain rfl : k = L.length := by omega
      gi_wp2
      go_end0
      exact ⟨⟨_, rfl⟩, hJ.out⟩

def apAssign : Code := (Code.region 2
                    #[{ dst := some 5, op := Op.alloc 53, type := 0, pos := "iter.go:51", after := #[], guard := none },
                      { dst := none, op := Op.store 53 (Operand.tmp 5) (Operand.tmp 7), type := 0, pos := "iter.go:51",
                        after := #[{ on := 0, ground := Ground.data }, { on := 0, ground := Ground.phase }],
                        guard := none }]
                    false)
def apBody : Code := (Code.block 1
                    (Code.region 3
                      #[{ dst := some 8, op := Op.load 50 (Operand.tmp 2), type := 50, pos := "iter.go:52",
                          after := #[], guard := none },
                        { dst := some 9, op := Op.load 53 (Operand.tmp 5), type := 53, pos := "iter.go:52",
                          after := #[], guard := none },
                        { dst := some 10, op := Op.buildSlice 50 1 #[(0, Operand.tmp 9)], type := 50,
                          pos := "iter.go:52", after := #[{ on := 1, ground := Ground.data }], guard := none },
                        { dst := some 11,
                          op :=
                            Op.call
                              { callee := Callee.builtin Builtin.append, args := #[Operand.tmp 8, Operand.tmp 10],
                                argTypes := #[50, 50] },
                          type := 50, pos := "iter.go:52",
                          after := #[{ on := 0, ground := Ground.data }, { on := 2, ground := Ground.data }],
                          guard := none },
                        { dst := none, op := Op.store 50 (Operand.tmp 2) (Operand.tmp 11), type := 0,
                          pos := "iter.go:52",
                          after :=
                            #[{ on := 3, ground := Ground.data }, { on := 3, ground := Ground.chain },
                              { on := 0, ground := Ground.phase }, { on := 1, ground := Ground.phase },
                              { on := 2, ground := Ground.phase }, { on := 3, ground := Ground.phase }],
                          guard := none }]
                      false))
/-- The loop's record. -/
def apRec (fn : FuncId) (sv : Value) (Bs D : Nat) (st : LoopState) (pend : Option Code) : Loop :=
  { state := st, pending := pend, fn, tmps := #[.slice none 0 0, sv, .pointer (some ⟨Bs, 0, none⟩), undef, .slice none 0 0, undef, sv, undef, undef, undef, undef, undef, undef], params := #[7], assign := apAssign, body := apBody, defers := D }
/-- Between two rounds. -/
structure ApAt (w0 : World) (fn : FuncId) (sv : Value) (Bs l D : Nat) (ss : List (Nat × ByteArray)) (W : World) : Prop where
  box : ∃ v, W.heap[Bs]? = some (.cells #[v] 50 (0, 0)) ∧ W.ownsRow w0.heap.size 53 2 v ss.length (chv ss)
  L : W.heap[l]? = some (.loop (apRec fn sv Bs D .ready none))
  K : W.heap[D]? = some (.deferred (some []))
  below : Below w0.heap.size w0 W
theorem row_ne {W : World} {base : Nat} {e : TypeId} {size : Nat} {v : Value} {k : Nat} {xs : List Value} (h : W.ownsRow base e size v k xs) {j : Nat} {o : Obj} (hj : W.heap[j]? = some o) (hno : ∀ cur, o ≠ .cells cur e (0, 0)) :
    v.ownBlock = none ∨ v.ownBlock ≠ some j := by
  rcases h.2 with ⟨rfl, _⟩ | ⟨g, cap, cur, rfl, _, hgb, _⟩
  · exact .inl rfl
  · refine .inr fun e' => ?_
    have : g = j := by simpa [Value.ownBlock] using e'
    subst this; rw [hgb] at hj; cases hj; exact hno cur rfl
theorem box_set {W : World} {B : Nat} {v : Value} {t : TypeId} (v' : Value) (h : W.heap[B]? = some (.cells #[v] t (0, 0))) : (W.setCell ⟨B, 0, none⟩ v').heap[B]? = some (.cells #[v'] t (0, 0)) := by
  have := blk_set h 0 v'
  simpa using this
theorem two_newJ (w : World) (a b : Value) (t : TypeId) : ∀ j u, [a, b][j]? = some u → (w.alloc (.cells #[a, b] t)).cell? ((⟨w.heap.size, 0, none⟩ : Addr).add j) = some u := by
  intro j u hj
  have h := blk_new w (.cells #[a, b] t)
  match j, hj with
  | 0, hj => rw [show (⟨w.heap.size, 0, none⟩ : Addr).add 0 = ⟨w.heap.size, 0, none⟩ from rfl, blk_cell h 0]; simpa using hj
  | 1, hj => rw [show (⟨w.heap.size, 0, none⟩ : Addr).add 1 = ⟨w.heap.size, 1, none⟩ from rfl, blk_cell h 1]; simpa using hj
  | j + 2, hj => simp at hj

theorem apAt_alloc {w0 : World} {fn : FuncId} {sv : Value} {Bs l D : Nat} {ss : List (Nat × ByteArray)} {W : World} (h : ApAt w0 fn sv Bs l D ss W) (o : Obj) : ApAt w0 fn sv Bs l D ss (W.alloc o) := by
  obtain ⟨v, hv, hr⟩ := h.box
  exact ⟨⟨v, blk_alloc hv o, hr.alloc o⟩, blk_alloc h.L o, blk_alloc h.K o, h.below.alloc h.below.size o⟩

set_option maxRecDepth 100000 in
set_option maxHeartbeats 2000000 in
theorem apYield (F : Fence) (m : Nat) (w0 : World) (fn : FuncId) (hfn : F.fn fn) (sv : Value) (Bs l D : Nat) (hBl : Bs ≠ l) (hDl : D ≠ l) (hDB : D ≠ Bs) (h0B : w0.heap.size ≤ Bs) (h0l : w0.heap.size ≤ l)
    (ss : List (Nat × ByteArray)) (x : Nat × ByteArray) (W : World) (h : ApAt w0 fn sv Bs l D ss W) (hlen : ss.length < 1048577) :
    YieldAt F m Try.prog l #[(.agg #[.int .i64 (x.1 : Int), .string x.2])] W fun e W' => e = .returned (.bool true) ∧ ApAt w0 fn sv Bs l D (ss ++ [x]) W' := by
  obtain ⟨i0, hi, hz0, hz1, hz2⟩ := info_parts infoCh
  obtain ⟨v, hv, hrow⟩ := h.box
  refine ⟨fn, #[.slice none 0 0, sv, .pointer (some ⟨Bs, 0, none⟩), undef, .slice none 0 0, undef, sv, (.agg #[.int .i64 (x.1 : Int), .string x.2]), undef, undef, undef, undef, undef], apAssign, apBody, by simpa [apRec] using run_yield (P := Try.prog) (args := #[(.agg #[.int .i64 (x.1 : Int), .string x.2])]) h.L rfl, roundIn_of_wpIn hfn ?_⟩
  obtain ⟨Wa, hWa⟩ : ∃ Wa, W.alloc (.cells #[.int .i64 (x.1 : Int), .string x.2] 53) = Wa := ⟨_, rfl⟩
  have ha : ApAt w0 fn sv Bs l D ss Wa := by rw [← hWa]; exact apAt_alloc h _
  have hxa : Wa.heap[W.heap.size]? = some (.cells #[.int .i64 (x.1 : Int), .string x.2] 53 (0, 0)) := by rw [← hWa]; exact blk_new W _
  have hWl : l < W.heap.size := (Array.getElem?_eq_some_iff.1 h.L).1
  have hWB : Bs < W.heap.size := (Array.getElem?_eq_some_iff.1 hv).1
  clear h hv hrow
  obtain ⟨v, hv, hrow⟩ := ha.box
  have hl : l < Wa.heap.size := (Array.getElem?_eq_some_iff.1 ha.L).1
  have hbr := run_beginRound (P := Try.prog) ha.L rfl
  obtain ⟨W2, hW2⟩ : ∃ W2, Wa.putObj l (.loop { apRec fn sv Bs D .ready none with state := .busy }) = W2 := ⟨_, rfl⟩
  rw [hW2] at hbr
  have hg2 : Wa.grownBy W2 (some l) := by rw [← hW2]; exact grown_put _ _ _
  have hv2 : W2.heap[Bs]? = some (.cells #[v] 50 (0, 0)) := by rw [← hW2]; exact (World.putObj_heap_other hBl).trans hv
  have hx2 : W2.heap[W.heap.size]? = some (.cells #[.int .i64 (x.1 : Int), .string x.2] 53 (0, 0)) := by rw [← hW2]; exact (World.putObj_heap_other (by omega)).trans hxa
  have hK2 : W2.heap[D]? = some (.deferred (some [])) := by rw [← hW2]; exact (World.putObj_heap_other hDl).trans ha.K
  have hL2 : W2.heap[l]? = some (.loop { apRec fn sv Bs D .ready none with state := .busy }) := by rw [← hW2]; exact World.putObj_heap_same hl
  have hrow2 : W2.ownsRow w0.heap.size 53 2 v ss.length (chv ss) := hrow.kept hg2 (row_ne hrow ha.L (fun cur e => by cases e))
  have hb2 : Below w0.heap.size w0 W2 := ha.below.grown hg2 ha.below.size (fun k e => by cases e; exact h0l)
  have c2 := blk_cell hv2 0; have f2 := blk_free hv2 0
  have x0 := blk_cell hx2 0; have x1 := blk_cell hx2 1
  simp only [List.getElem?_toArray, List.getElem?_cons_zero, List.getElem?_cons_succ] at c2 x0 x1
  have hBlt : Bs < W2.heap.size := (Array.getElem?_eq_some_iff.1 hv2).1
  have hl2 : l < W2.heap.size := (Array.getElem?_eq_some_iff.1 hL2).1
  have hDlt : D < W2.heap.size := (Array.getElem?_eq_some_iff.1 hK2).1
  have NE : Hid (∀ (j : Nat) (o : Obj), W2.heap[j]? = some o → (∀ cur, o ≠ .cells cur 53 (0, 0)) → v.ownBlock ≠ some j) := fun j o hj hno => by
    rcases row_ne hrow2 hj hno with e | e
    · rw [e]; simp
    · exact e
  have HV := Lib.hid hv2; have HK := Lib.hid hK2; have HL := Lib.hid hL2
  have HR := Lib.hid hrow2
  have hs2 : w0.heap.size ≤ W2.heap.size := hb2.size
  have HB2 := Lib.hid hb2
  have HBL := Lib.hid (And.intro hBl (And.intro hDl hDB))
  have HX2 := Lib.hid hx2
  obtain ⟨VA, vc, ev⟩ := own_slice hrow2
  subst ev
  rw [← hWa] at hbr
  clear hW2 ha hxa hWa hv hrow hg2 hrow2 hb2 hv2 hK2 hL2 hx2 hBl hDl hDB
  unfold apAssign
  gi_wp2_with ((rw [Oper.semAt_eq _ _ _ (fun c h => by cases h)]; go_simp; try go_bits))
  unfold apBody
  gi_wp2_with (first
    | (gi_at_builtin; refine wpListIn_append_own _ rfl _ _ 50 rfl w0.heap.size 53 i0 (.agg #[.int .i64 0, .string ByteArray.empty]) 2 24 Try.underlying50 hi hz0 hz1 hz2 rfl (by decide) _ _ _ rfl (HR.out.alloc _) ⟨W2.heap.size, 0, none⟩ 1 1 [.int .i64 (x.1 : Int), .string x.2] rfl rfl (two_newJ _ _ _ _) (by simp [Value.oneCell']) (by unfold maxLen; omega) (by omega) (by simp; omega) ?_)
    | (rw [Oper.semAt_eq _ _ _ (fun c h => by cases h)]; go_simp; try go_bits))
  intro v' w3 hown' hg3 _
  obtain ⟨g', cap', rfl⟩ : ∃ g' cap', v' = .slice (some ⟨g', 0, none⟩) (ss.length + 1) cap' := by
    rcases hown'.2 with ⟨_, h0⟩ | ⟨g', cap', cur', e, _⟩
    · exact absurd h0 (by omega)
    · exact ⟨g', cap', e⟩
  have keep : ∀ (j : Nat) (o : Obj), W2.heap[j]? = some o → (∀ cur, o ≠ .cells cur 53 (0, 0)) → w3.heap[j]? = some o := fun j o hj hno =>
    (hg3.block j (by simp; have := (Array.getElem?_eq_some_iff.1 hj).1; omega) (fun e => NE.out j o hj hno e.symm)).trans (blk_alloc hj _)
  have hv3 := keep _ _ HV.out (fun cur e => by cases e)
  have HL3 := Lib.hid (keep _ _ HL.out (fun cur e => by cases e))
  have HK3 := Lib.hid (keep _ _ HK.out (fun cur e => by cases e))
  have HB3 : Hid (Below w0.heap.size w0 w3) := (HB2.out.alloc HB2.out.size _).grown hg3 (by simp; omega) (fun k e => (HR.out.lt k e).1)
  have HO3 := Lib.hid hown'
  have HV3 := Lib.hid hv3
  have c3 := blk_cell hv3 0; have f3 := blk_free hv3 0
  simp only [List.getElem?_toArray, List.getElem?_cons_zero, List.getElem?_cons_succ] at c3
  clear keep hv3 hown' hg3 x0 x1 c2 f2
  gi_wp2_with ((rw [Oper.semAt_eq _ _ _ (fun c h => by cases h)]; go_simp; try go_bits))
  have hg4 := grown_set w3 Bs (.slice (some ⟨g', 0, none⟩) (ss.length + 1) cap')
  obtain ⟨w4, hw4⟩ : ∃ w4, w3.setCell ⟨Bs, 0, none⟩ (.slice (some ⟨g', 0, none⟩) (ss.length + 1) cap') = w4 := ⟨_, rfl⟩
  have hv4 : w4.heap[Bs]? = some (.cells #[.slice (some ⟨g', 0, none⟩) (ss.length + 1) cap'] 50 (0, 0)) := by rw [← hw4]; exact box_set _ HV3.out
  rw [hw4] at hg4 ⊢
  have hL4 := (hg4.block l (Array.getElem?_eq_some_iff.1 HL3.out).1 (fun e => HBL.out.1 (by cases e; rfl))).trans HL3.out
  have hK4 := (hg4.block D (Array.getElem?_eq_some_iff.1 HK3.out).1 (fun e => HBL.out.2.2 (by cases e; rfl))).trans HK3.out
  have hrow4 := HO3.out.kept hg4 (row_ne HO3.out HV3.out (fun cur e => by cases e))
  have hb4 : Below w0.heap.size w0 w4 := HB3.out.grown hg4 HB3.out.size (fun k e => by cases e; exact h0B)
  have hl4 : l < w4.heap.size := (Array.getElem?_eq_some_iff.1 hL4).1
  clear hw4
  refine ⟨_, _, run_endRound none hL4, rfl, ⟨⟨_, (World.putObj_heap_other HBL.out.1).trans hv4, ?_⟩, World.putObj_heap_same hl4, (World.putObj_heap_other HBL.out.2.1).trans hK4, hb4.grown (grown_put _ _ _) hb4.size (fun k e => by cases e; exact h0l)⟩⟩
  have := hrow4.kept (grown_put w4 l (.loop { { apRec fn sv Bs D .ready none with state := .busy } with state := if (none : Option Code).isNone then .ready else .done, pending := none })) (row_ne hrow4 hL4 (fun cur e => by cases e))
  rw [show chv (ss ++ [x]) = chv ss ++ [.int .i64 (x.1 : Int), .string x.2] by rw [chv_append]; rfl, List.length_append]
  exact this

set_option maxRecDepth 100000 in
set_option maxHeartbeats 2000000 in
/-- slices.AppendSeq(nil, slices.Values(s)). -/
theorem app_in (F : Fence) (n : Nat) (hf : F.fn 75) (hfa : F.fn 80) (hro : F.round = none) (hn : 2 ≤ n) (Bc : Nat) (A : Option Addr) (b off c : Nat) (L : List (Nat × ByteArray)) (w : World)
    (hbox : w.cell? ⟨Bc, 0, none⟩ = some (.slice A L.length c)) (hA : 0 < L.length → A = some ⟨b, off, none⟩)
    (hrd : ∀ (j : Nat) (h : j < L.length), w.cell? ⟨b, off + j * 2, none⟩ = some (.int .i64 (L[j].1 : Int)) ∧ w.cell? ⟨b, off + j * 2 + 1, none⟩ = some (.string L[j].2)) (hL : L.length ≤ 1048577) :
    CallsIn F n Try.prog 80 #[.slice none 0 0, .func (.func 75) #[] #[.pointer (some ⟨Bc, 0, none⟩)]] w fun e w' => ∃ v, e = .returned v ∧ w'.ownsRow w.heap.size 53 2 v L.length (chv L) ∧ Below w.heap.size w w' := by
  have h1 : 1 ≤ n := by omega
  have ev : ∀ args w, (callFunc 75 args).run Try.prog w = .ok (.enter 75 args) w := enters_of Try.func75 (by kernel_rfl) rfl
  refine callsIn_of_wp_marks Try.func80 rfl hfa ?_ hro
  simp only [Try.ntmps80, List.size_toArray, List.length_cons, List.length_nil, Nat.reduceAdd, Nat.reduceSub, Array.replicate_succ, Array.replicate_zero, List.push_toArray, List.append_toArray, List.nil_append, List.cons_append]
  have HBOX := Lib.hid hbox; have HRD := Lib.hid hrd; have HA := Lib.hid hA
  clear hbox hrd hA
  gi_wp2
  refine wpIn_rangeFunc ?_
  intro fn hfn
  rw [hro]
  obtain ⟨sv, hsv⟩ : ∃ sv : Value, sv = .func (.func 75) #[] #[.pointer (some ⟨Bc, 0, none⟩)] := ⟨_, rfl⟩
  obtain ⟨W0, hW0⟩ : ∃ W0, w.alloc (.cells #[.slice none 0 0] 50) = W0 := ⟨_, rfl⟩
  have hs0 : W0.heap.size = w.heap.size + 1 := by rw [← hW0]; simp
  have hv0 : W0.heap[w.heap.size]? = some (.cells #[.slice none 0 0] 50 (0, 0)) := by rw [← hW0]; exact blk_new w _
  have hb0 : Below w.heap.size w W0 := by rw [← hW0]; exact (Below.refl _ w).alloc (Nat.le_refl _) _
  rw [hW0]
  obtain ⟨W1, hW1⟩ : ∃ W1, (W0.alloc (.deferred (some []))).alloc (.loop (apRec fn (.func (.func 75) #[] #[.pointer (some ⟨Bc, 0, none⟩)]) w.heap.size W0.heap.size .ready none)) = W1 := ⟨_, rfl⟩
  have hold : ∀ k, k < W0.heap.size → W1.heap[k]? = W0.heap[k]? := fun k hk => by
    rw [← hW1]; exact (Below.heap_alloc _ _ k (by simp; omega)).trans (Below.heap_alloc _ _ k hk)
  have hb1 : Below w.heap.size w W1 := by rw [← hW1]; exact (hb0.alloc hb0.size _).alloc (by have := hb0.size; simp; omega) _
  have hs1 : W1.heap.size = W0.heap.size + 2 := by rw [← hW1]; simp
  have hM : ApAt w fn (.func (.func 75) #[] #[.pointer (some ⟨Bc, 0, none⟩)]) w.heap.size (W0.heap.size + 1) W0.heap.size [] W1 :=
    ⟨⟨_, (hold w.heap.size (by omega)).trans hv0, ⟨rfl, .inl ⟨rfl, rfl⟩⟩⟩,
     by rw [← hW1]; have := blk_new (W0.alloc (.deferred (some []))) (.loop (apRec fn (.func (.func 75) #[] #[.pointer (some ⟨Bc, 0, none⟩)]) w.heap.size W0.heap.size .ready none)); rwa [World.size_alloc] at this,
     by rw [← hW1]; exact (Below.heap_alloc _ _ _ (by simp)).trans (blk_new W0 _), hb1⟩
  refine ⟨W0.heap.size + 1, [{ target := .collected W0.heap.size, args := #[] }], W1, { target := .fn (.func 75) #[.pointer (some ⟨Bc, 0, none⟩)], args := #[.func (.yield (W0.heap.size + 1)) #[] #[]] }, W1, 75,
    #[.func (.yield (W0.heap.size + 1)) #[] #[]] ++ #[.pointer (some ⟨Bc, 0, none⟩)], W1, ?_, ?_, ?_, ?_, fun _ => h1, ?_⟩
  · rw [← hW1]; exact run_enterLoop_outer _ _ _ _ _
  · simp [resolve, go_sem]
  · intro f' hf'; simp [Target.leads] at hf'; subst hf'; exact hf
  · simp [invoke, go_sem, ev]
  · refine (vals_in F (n - 1) hf hro (by omega) (W0.heap.size + 1) Bc A b off c L
      (fun k W' => ApAt w fn (.func (.func 75) #[] #[.pointer (some ⟨Bc, 0, none⟩)]) w.heap.size (W0.heap.size + 1) W0.heap.size (L.take k) W') W1
      (cell_below hb1 HBOX.out) HA.out (fun k W' hJ j hj => ⟨cell_below hJ.below (HRD.out j hj).1, cell_below hJ.below (HRD.out j hj).2⟩) (fun k W' o hJ => apAt_alloc hJ o)
      (fun k W' hk hJ => by
        have := apYield F (n - 1 - 1) w fn hfn _ w.heap.size (W0.heap.size + 1) W0.heap.size (by omega) (by omega) (by omega) (Nat.le_refl _) (by omega) (L.take k) L[k] W' hJ (by rw [List.length_take]; omega)
        rw [List.take_succ_eq_append_getElem hk]
        exact this) (by rw [List.take_zero]; exact hM) hL).mono ?_
    rintro e W2 ⟨⟨v0, rfl⟩, h2⟩
    rw [List.take_length] at h2
    obtain ⟨v, hv, hrow⟩ := h2.box
    have hend := run_endLoop (P := Try.prog) h2.L (by simp [apRec])
    obtain ⟨W3, hW3⟩ : ∃ W3, W2.putObj (W0.heap.size + 1) (.loop { apRec fn (.func (.func 75) #[] #[.pointer (some ⟨Bc, 0, none⟩)]) w.heap.size W0.heap.size .ready none with state := .exhausted }) = W3 := ⟨_, rfl⟩
    rw [hW3] at hend
    have hg3 : W2.grownBy W3 (some (W0.heap.size + 1)) := by rw [← hW3]; exact grown_put _ _ _
    have hv3 : W3.heap[w.heap.size]? = some (.cells #[v] 50 (0, 0)) := by rw [← hW3]; exact (World.putObj_heap_other (by omega)).trans hv
    have hK3 : W3.heap[W0.heap.size]? = some (.deferred (some [])) := by rw [← hW3]; exact (World.putObj_heap_other (by omega)).trans h2.K
    have hrow3 := hrow.kept hg3 (row_ne hrow h2.L (fun cur e => by cases e))
    have hb3 : Below w.heap.size w W3 := h2.below.grown hg3 h2.below.size (fun k e => by cases e; omega)
    have c3 := blk_cell hv3 0
    simp only [List.getElem?_toArray, List.getElem?_cons_zero, List.getElem?_cons_succ] at c3
    rw [hs0] at hK3
    have HK3 := Lib.hid hK3; have HR3 := Lib.hid hrow3; have HB3 := Lib.hid hb3
    clear hW3 hv3 hK3 hrow3 hb3 hg3 hv hrow h2 hM hold hb0 hb1 hv0 hW1
    refine ⟨none, W3, hend, ?_⟩
    gi_wp2
    refine ⟨by simp, .inl ⟨_, _, rfl, run_takeDeferred HK3.out, ?_⟩⟩
    exact ⟨_, results_tmp rfl _ _ _, v, rfl, HR3.out.kept (grown_put _ _ _) (row_ne HR3.out HK3.out (fun cur e => by cases e)), HB3.out.grown (grown_put _ _ _) HB3.out.size (fun k e => by cases e; omega)⟩

set_option maxHeartbeats 1000000 in
/-- slices.Collect(slices.Values(s)). -/
theorem collect_any (Bc : Nat) (A : Option Addr) (b off c : Nat) (L : List (Nat × ByteArray)) (w : World)
    (hbox : w.cell? ⟨Bc, 0, none⟩ = some (.slice A L.length c)) (hA : 0 < L.length → A = some ⟨b, off, none⟩)
    (hrd : ∀ (j : Nat) (h : j < L.length), w.cell? ⟨b, off + j * 2, none⟩ = some (.int .i64 (L[j].1 : Int)) ∧ w.cell? ⟨b, off + j * 2 + 1, none⟩ = some (.string L[j].2)) (hL : L.length ≤ 1048577) :
    Calls Try.prog 73 #[.func (.func 75) #[] #[.pointer (some ⟨Bc, 0, none⟩)]] w fun e w' => ∃ v, e = .returned v ∧ w'.ownsRow w.heap.size 53 2 v L.length (chv L) ∧ Below w.heap.size w w' := by
  have AP := Lib.hid ((callsIn_wide (n := 3)).1 (app_in Fence.wide 3 trivial trivial rfl (by omega) Bc A b off c L w hbox hA hrd hL))
  clear hbox hA hrd
  go_enter Try.func73, Try.ntmps73
  go_wp2_with fail
  refine AP.out.mono ?_
  rintro e w1 ⟨v, rfl, ho, b1⟩
  have HO := Lib.hid ho; have B1 := Lib.hid b1
  clear ho b1
  go_wp2
  go_ret
  exact ⟨v, rfl, HO.out, B1.out⟩
end Go.Proofs.Ytoolkamajlgcbaa
