/- ShD: a shelf's Len and Size (written by gen_shd.py). -/
import Derived.Test.YtoolkamajlgcbaaMr10
import Derived.Carry
import Derived.Maps.Own
import Derived.Maps.Keyed
set_option linter.unusedVariables false
set_option linter.unusedSimpArgs false
namespace Go.Proofs.Ytoolkamajlgcbaa
open Go.RowKit

def lenS (sh : List (Nat × PL)) : Nat → Nat
  | 0 => 0
  | k + 1 => lenS sh k + (lfA sh k).length
def sizS (sh : List (Nat × PL)) : Nat → Nat
  | 0 => 0
  | k + 1 => sizS sh k + szL (lfA sh k)
theorem lenS_mono (sh : List (Nat × PL)) : ∀ {n k : Nat}, k ≤ n → lenS sh k ≤ lenS sh n
  | 0, k, h => by rw [show k = 0 by omega]; exact Nat.le_refl _
  | n + 1, k, h => by
    by_cases e : k = n + 1
    · rw [e]; exact Nat.le_refl _
    · exact Nat.le_trans (lenS_mono sh (n := n) (by omega)) (Nat.le_add_right _ _)
theorem sizS_mono (sh : List (Nat × PL)) : ∀ {n k : Nat}, k ≤ n → sizS sh k ≤ sizS sh n
  | 0, k, h => by rw [show k = 0 by omega]; exact Nat.le_refl _
  | n + 1, k, h => by
    by_cases e : k = n + 1
    · rw [e]; exact Nat.le_refl _
    · exact Nat.le_trans (sizS_mono sh (n := n) (by omega)) (Nat.le_add_right _ _)
set_option maxHeartbeats 1600000 in
set_option maxRecDepth 100000 in
theorem slen_any (w : World) (gs : Nat) (sh : List (Nat × PL)) (hs : ShRd w gs sh) (hn : sh.length ≤ 1000000) (hsm : ∀ i, i < sh.length → Small (lfA sh i)) (hT : lenS sh sh.length ≤ 1000000000000) :
    Calls Try.prog 25 #[.pointer (some ⟨gs, 0, none⟩)] w fun e w' => e = .returned (.int .i64 (lenS sh sh.length : Nat)) ∧ Below w.heap.size w w' := by
  have HS := Lib.hid hs; have HM := Lib.hid hsm; have HT := Lib.hid hT
  obtain ⟨A, c, g1, g2, g3⟩ := hs
  have G3 := Lib.hid g3
  clear hsm hT g3
  go_enter Try.func25, Try.ntmps25
  go_wp2_with fail
  go_loopw [3, 13] (fun s i wr => ∃ k : Nat, k ≤ sh.length ∧ i = .int .i64 k ∧ s = .int .i64 (lenS sh k : Nat) ∧ Hid (Below w.heap.size w wr)) (fun _ i _ => sh.length - (intOf i).toNat)
  case atStart => exact ⟨0, Nat.zero_le _, rfl, rfl, Below.refl _ _⟩
  case round =>
    obtain ⟨k, hk, rfl, rfl, hb⟩ := hrel
    by_cases hlt : k < sh.length
    · obtain ⟨b, o, rfl, hc⟩ := G3.out (by omega)
      obtain ⟨z0, A', c', z1, zc, zr⟩ := hc k hlt
      have ST : Hid (lenS sh (k + 1) = lenS sh k + (lfA sh k).length) := rfl
      have SB : lenS sh k ≤ 1000000000000 := Nat.le_trans (lenS_mono sh (by omega)) HT.out
      have SB2 : lenS sh (k + 1) ≤ 1000000000000 := Nat.le_trans (lenS_mono sh (by omega)) HT.out
      have SM := HM.out k hlt
      rw [← lfA_get hlt] at z1 zc zr
      replace z0 := cell_below hb.out z0; replace z1 := cell_below hb.out z1
      have ZR := Lib.hid (zr.below hb.out)
      generalize sh[k].1 = id at z0
      generalize lfA sh k = l at z1 zc ZR ST SM
      generalize lenS sh k = acc at ST SB ⊢
      obtain ⟨acc2, hacc⟩ : ∃ a, a = lenS sh (k + 1) := ⟨_, rfl⟩
      rw [← hacc] at ST SB2
      have HA := Lib.hid hacc
      have hbz : Hid (w.heap.size ≤ wr.heap.size) := hb.out.size
      clear hc hacc zr
      have e1 : (acc : Int) + (l.length : Int) = (acc2 : Int) := by have := ST.out; omega
      have B2 : ∀ o, Hid (Below w.heap.size w (wr.alloc o)) := fun o => hb.out.alloc hbz.out o
      have B2 := B2 (.cells #[.int .i64 (id : Int), .slice A' l.length c'] 82)
      go_wp2
      go_roundw
      case rel => first | exact ⟨k + 1, hlt, by go_num, by rw [HA.out], B2⟩ | ((repeat apply Exists.intro); refine ⟨?_, rfl⟩; exact ⟨k + 1, hlt, by go_num, by rw [HA.out], B2⟩)
      case measure => simp [intOf]; omega
    · have hkl : k = sh.length := by omega
      subst hkl
      go_wp2
      go_ret
      exact ⟨rfl, hb.out⟩
set_option maxHeartbeats 1600000 in
set_option maxRecDepth 100000 in
theorem ssize_any (w : World) (gs : Nat) (sh : List (Nat × PL)) (hs : ShRd w gs sh) (hn : sh.length ≤ 1000000) (hsm : ∀ i, i < sh.length → Small (lfA sh i)) (hT : sizS sh sh.length ≤ 1000000000000) :
    Calls Try.prog 16 #[.pointer (some ⟨gs, 0, none⟩)] w fun e w' => e = .returned (.int .i64 (sizS sh sh.length : Nat)) ∧ Below w.heap.size w w' := by
  have HS := Lib.hid hs; have HM := Lib.hid hsm; have HT := Lib.hid hT
  obtain ⟨A, c, g1, g2, g3⟩ := hs
  have G3 := Lib.hid g3
  clear hsm hT g3
  go_enter Try.func16, Try.ntmps16
  go_wp2_with fail
  go_loopw [3, 13] (fun s i wr => ∃ k : Nat, k ≤ sh.length ∧ i = .int .i64 k ∧ s = .int .i64 (sizS sh k : Nat) ∧ Hid (Below w.heap.size w wr)) (fun _ i _ => sh.length - (intOf i).toNat)
  case atStart => exact ⟨0, Nat.zero_le _, rfl, rfl, Below.refl _ _⟩
  case round =>
    obtain ⟨k, hk, rfl, rfl, hb⟩ := hrel
    by_cases hlt : k < sh.length
    · obtain ⟨b, o, rfl, hc⟩ := G3.out (by omega)
      obtain ⟨z0, A', c', z1, zc, zr⟩ := hc k hlt
      have ST : Hid (sizS sh (k + 1) = sizS sh k + szL (lfA sh k)) := rfl
      have SB : sizS sh k ≤ 1000000000000 := Nat.le_trans (sizS_mono sh (by omega)) HT.out
      have SB2 : sizS sh (k + 1) ≤ 1000000000000 := Nat.le_trans (sizS_mono sh (by omega)) HT.out
      have SM := HM.out k hlt
      rw [← lfA_get hlt] at z1 zc zr
      replace z0 := cell_below hb.out z0; replace z1 := cell_below hb.out z1
      have ZR := Lib.hid (zr.below hb.out)
      generalize sh[k].1 = id at z0
      generalize lfA sh k = l at z1 zc ZR ST SM
      generalize sizS sh k = acc at ST SB ⊢
      obtain ⟨acc2, hacc⟩ : ∃ a, a = sizS sh (k + 1) := ⟨_, rfl⟩
      rw [← hacc] at ST SB2
      have HA := Lib.hid hacc
      have hbz : Hid (w.heap.size ≤ wr.heap.size) := hb.out.size
      clear hc hacc zr
      obtain ⟨W2, hW2⟩ : ∃ W2, W2 = wr.alloc (.cells #[.int .i64 (id : Int), .slice A' l.length c'] 82) := ⟨_, rfl⟩
      have Q2 : Hid (Below w.heap.size w W2) := by rw [hW2]; exact hb.out.alloc hbz.out _
      have SZ := Lib.hid (sizes_any W2 A' l.length c' l rfl (ZR.out.below (by rw [hW2]; exact (Below.refl _ wr).alloc (Nat.le_refl _) _)) SM)
      have HW := Lib.hid hW2
      rw [hW2] at SZ
      have e1 : (acc : Int) + (szL l : Int) = (acc2 : Int) := by have := ST.out; omega
      have hsl : szL l ≤ 1000000000000 := by have := ST.out; omega
      generalize szL l = sp at SZ e1 ST hsl
      clear hW2
      go_wp2_with fail
      refine SZ.out.mono ?_
      rw [← HW.out]
      rintro e w3 ⟨rfl, q3⟩
      have B2 : Hid (Below w.heap.size w w3) := Q2.out.trans (q3.mono Q2.out.size)
      clear q3 SZ
      go_wp2
      go_roundw
      case rel => first | exact ⟨k + 1, hlt, by go_num, by rw [HA.out], B2⟩ | ((repeat apply Exists.intro); refine ⟨?_, rfl⟩; exact ⟨k + 1, hlt, by go_num, by rw [HA.out], B2⟩)
      case measure => simp [intOf]; omega
    · have hkl : k = sh.length := by omega
      subst hkl
      go_wp2
      go_ret
      exact ⟨rfl, hb.out⟩
end Go.Proofs.Ytoolkamajlgcbaa
/- ShE: a new shelf: load and Open over pages that are all zero. -/
set_option linter.unusedVariables false
set_option linter.unusedSimpArgs false
namespace Go.Proofs.Ytoolkamajlgcbaa
open Go.RowKit

theorem rep_get (n : Nat) (c : UInt8) (i : Nat) (h : i < (Dk.rep n c).size) : (Dk.rep n c)[i] = c := by
  show (List.replicate n c).toArray[i] = c
  simp
set_option maxRecDepth 100000 in
theorem two_zero (w : World) (b : ByteArray) (h0 : 0 < b.size) (h1 : 1 < b.size) (z0 : b[0] = 0) (z1 : b[1] = 0) : Calls Try.prog 77 #[.string b, .int .i64 0] w fun e w' => e = .returned (.int .i64 0) ∧ Below w.heap.size w w' := by
  have i0 : (0 : Int) < (b.size : Int) := by omega
  have i1 : (1 : Int) < (b.size : Int) := by omega
  have wr0 : IntKind.i64.wrap 0 = 0 := by decide
  have wr1 : IntKind.i64.wrap 1 = 1 := by decide
  have or0 : bits .or .i64 0 0 = 0 := by decide
  go_enter Try.func77, Try.ntmps77
  go_wp2_with fail
  refine wp_region_flag (fun _ => True) [(0, 1), (1, 1), (2, 1), (3, 1), (4, 1), (5, 1), (6, 1), (7, 1), (8, 1), (9, 1), (10, 1), (11, 1)] (by kernel_rfl) (by kernel_rfl) trivial ?_
  simp only [ordered, List.map_cons, List.map_nil, List.getD_cons_zero, List.getD_cons_succ]
  repeat (refine wpF_dry (fun K hK => ?_); go_simp; refine hK _ ?_; clear hK K)
  refine wpF_nil ?_
  go_wp2
  go_ret
  exact ⟨rfl, (Below.refl _ w).drew⟩
/-- A shelf's struct. -/
def ShB (w : World) (gs gj : Nat) (v : Value) : Prop := w.heap[gs]? = some (.cells #[.pointer (some ⟨gj, 0, none⟩), v] 85 (0, 0))
set_option maxHeartbeats 1600000 in
set_option maxRecDepth 100000 in
theorem load_zero (w : World) (F : Nat → Prop) (gs gj g P : Nat) (d : Dk) (h : HasDisk w F g d) (hj : Jb w gj g P) (hz : Sz d) (hw : d.waits.length < 9223372036854775807) (hP1 : 1 ≤ P) (hP : P ≤ 128) (hs : 8 * P + 1 ≤ d.l.length) (hup : d.down = false) (hpg : pageB d (1 + 4 * ((P : Int) + 0)) = Dk.rep 1024 0) (hb : ShB w gs gj (.slice none 0 0)) (hg : ¬ F gs) :
    Calls Try.prog 55 #[.pointer (some ⟨gs, 0, none⟩)] w fun e w' => e = .returned (.int .i64 0) ∧ Touch (fun k => k = gs) w w' ∧ ShB w' gs gj (.slice none 0 0) := by
  have RD := Lib.hid (jread_any w F gj g P d h hj hz hw hP hs 0)
  have JR : jrd d P 0 = (Dk.rep 1024 0, 0) := by unfold jrd; rw [if_neg (by omega), if_neg (by rw [hup]; decide), hpg]
  rw [JR] at RD
  have c0 := blk_cell hb 0; have c1 := blk_cell hb 1
  simp at c0 c1
  clear JR hpg
  have HB := Lib.hid hb
  go_enter Try.func55, Try.ntmps55
  go_wp2_with fail
  refine RD.out.mono ?_
  rintro e w1 ⟨rfl, q1⟩
  have r1 : ShB w1 gs gj (.slice none 0 0) := (q1.block _ (lt_of_block hb)).trans hb
  have R1 := Lib.hid r1
  replace c0 := blk_cell r1 0; replace c1 := blk_cell r1 1
  have f0 := blk_free r1 0; have f1 := blk_free r1 1
  simp at c0 c1
  have hmm : ∀ W : World, (Instr.makeMap 115 none).run Try.prog W = .ok (.map (some W.heap.size)) (W.alloc (.map #[] 0)) := fun W => run_makeMap _ W
  obtain ⟨W2, hup, _, hgr⟩ := (World.ownsMap_made (H := Unit) (w1.setCell ⟨gs, 1, none⟩ (.slice none 0 0)) Try.prog 3 (plainElem Try.prog 4)).update (Maps.int_keyed Try.underlying3) Try.underlying115 (by decide) (key := .int .i64 0) (val := .bool true) (kl := .int .i64 0) (d := .lit (.bool true)) (ps := []) (by kernel_rfl) (by unfold plainElem; rw [Try.underlying4])
  have es : (w1.setCell ⟨gs, 1, none⟩ (.slice none 0 0)).heap.size = w1.heap.size := by simp
  rw [es] at hup
  have HGR := Lib.hid hgr
  have e2 : Hid (Touch (fun k => k = gs) w W2) := by
    have t1 : Touch (fun k => k = gs) w w1 := Touch.of_below q1
    have t2 := t1.setCell (p := ⟨gs, 1, none⟩) (.inl rfl) (.slice none 0 0)
    have t3 := (t2.alloc (.map #[] 0)).grown hgr (fun k e => by
      cases e
      exact .inr (by rw [es]; exact q1.size))
    exact t3
  have e3 : Hid (ShB W2 gs gj (.slice none 0 0)) := by
    have b1 : (w1.setCell ⟨gs, 0 + 1, none⟩ (.slice none 0 0)).heap[gs]? = some (.cells #[.pointer (some ⟨gj, 0, none⟩), .slice none 0 0] 85 (0, 0)) := blk_set r1 1 _
    exact (hgr.block gs (by have := lt_of_block r1; simp; omega) (by intro e; have e' := Option.some.inj e; have := lt_of_block r1; omega)).trans (blk_alloc b1 _)
  have ZP : ∀ i : Nat, (h : i < (Dk.rep 1024 0).size) → (Dk.rep 1024 0)[i] = 0 := fun i h => rep_get 1024 0 i h
  have TZ := Lib.hid (two_zero W2 (Dk.rep 1024 0) (by rw [Dk.rep_size]; decide) (by rw [Dk.rep_size]; decide) (ZP 0 _) (ZP 1 _))
  clear hgr ZP q1
  go_wp2_with fail
  refine TZ.out.mono ?_
  rintro e w3 ⟨rfl, q3⟩
  have e4 : Hid (Touch (fun k => k = gs) w w3) := e2.out.trans (Touch.of_below q3 : Touch (fun _ => False) W2 w3) (fun _ _ x => x.elim)
  have e5 : Hid (ShB w3 gs gj (.slice none 0 0)) := (q3.block _ (lt_of_block e3.out)).trans e3.out
  clear q3 TZ
  go_wp2_with fail
  go_loopw [7] (fun i wr => i = .int .i64 0 ∧ wr = w3) (fun _ _ => 0)
  case atStart => exact ⟨rfl, rfl⟩
  case round =>
    obtain ⟨rfl, rfl⟩ := hrel
    go_wp2
    go_ret
    exact ⟨rfl, e4.out, e5.out⟩
end Go.Proofs.Ytoolkamajlgcbaa
/- ShF: a new shelf is opened. -/
set_option linter.unusedVariables false
set_option linter.unusedSimpArgs false
namespace Go.Proofs.Ytoolkamajlgcbaa
open Go.RowKit

set_option maxHeartbeats 1600000 in
set_option maxRecDepth 100000 in
theorem sopen_zero (w : World) (F : Nat → Prop) (gj g P : Nat) (d : Dk) (h : HasDisk w F g d) (hj : Jb w gj g P) (hz : Sz d) (hw : d.waits.length < 9223372036854775807) (hP1 : 2 ≤ P) (hP : P ≤ 128) (hs : 8 * P + 1 ≤ d.l.length) (hup : d.down = false) (hpg : pageB d (1 + 4 * ((P : Int) + 0)) = Dk.rep 1024 0) :
    Calls Try.prog 22 #[.pointer (some ⟨gj, 0, none⟩)] w fun e w' => ∃ gs, e = .returned (.tuple #[.pointer (some ⟨gs, 0, none⟩), .int .i64 0]) ∧ ShB w' gs gj (.slice none 0 0) ∧ w.heap.size ≤ gs ∧ Below w.heap.size w w' := by
  have dP : decide ((P : Int) < 2) = false := by simp; omega
  have dP' : decide (P < 2) = false := by simp; omega
  have PG := Lib.hid (pages_any w gj g P hj)
  obtain ⟨W1, hW1⟩ : ∃ W1, W1 = w.alloc (.cells #[.pointer (some ⟨gj, 0, none⟩), .slice none 0 0] 85) := ⟨_, rfl⟩
  have Q1 : Below w.heap.size w W1 := by rw [hW1]; exact (Below.refl _ w).alloc (Nat.le_refl _) _
  have hb1 : ShB W1 w.heap.size gj (.slice none 0 0) := by rw [hW1]; exact blk_new w _
  have LZ := Lib.hid (load_zero W1 F w.heap.size gj g P d (h.below Q1) (hj.below Q1) hz hw (by omega) hP hs hup hpg hb1 (fun hf => by have := h.lt _ hf; omega))
  have Q1h := Lib.hid Q1
  rw [hW1] at LZ
  clear h hj hpg Q1 hb1
  go_enter Try.func22, Try.ntmps22
  go_wp2_with fail
  refine PG.out.mono ?_
  rintro e w' ⟨rfl, rfl⟩
  go_wp2_with fail
  refine LZ.out.mono ?_
  rw [← hW1]
  rintro e w2 ⟨rfl, t2, hb⟩
  have B2 : Hid (Below w.heap.size w w2) := Q1h.out.trans (t2.below Q1h.out.size (fun k hk => by omega))
  have HB := Lib.hid hb
  clear t2 hb LZ hW1
  go_wp2
  go_ret2
  exact ⟨_, rfl, HB.out, Nat.le_refl _, B2.out⟩
theorem page_zero {P : Nat} : pageB (Dk.new (8 * P + 1)) (1 + 4 * ((P : Int) + 0)) = Dk.rep 1024 0 ∨ P = 0 := by
  by_cases h : P = 0
  · exact .inr h
  · refine .inl ?_
    have := page_new (n := 8 * P + 1) (p := 1 + 4 * P) (by omega)
    rw [show (1 + 4 * ((P : Int) + 0)) = ((1 + 4 * P : Nat) : Int) by omega]
    exact this
set_option maxHeartbeats 1600000 in
set_option maxRecDepth 100000 in
theorem sopened_any (w : World) (P : Nat) (hP1 : 2 ≤ P) (hP : P ≤ 12) :
    Calls Try.prog 9 #[.int .i64 (P : Int)] w fun e w' => ∃ g gj gs, e = .returned (.tuple #[.pointer (some ⟨g, 0, none⟩), .pointer (some ⟨gj, 0, none⟩), .pointer (some ⟨gs, 0, none⟩)]) ∧ ShB w' gs gj (.slice none 0 0) ∧ w.heap.size ≤ gs ∧ Below w.heap.size w w' ∧ Jb w' gj g P ∧ ∃ F, HasDisk w' F g (Dk.new (8 * P + 1)) := by
  have d1 : decide ((P : Int) < 2) = false := by simp; omega
  have d2 : decide (12 < (P : Int)) = false := by simp; omega
  have d2' : decide (12 < P) = false := by simp; omega
  have d1' : decide (P < 2) = false := by simp; omega
  obtain ⟨n, hnn⟩ : ∃ n : Nat, n = 8 * P + 1 := ⟨_, rfl⟩
  have eq1 : 8 * (P : Int) + 1 = (n : Int) := by omega
  have NEW := Lib.hid (new_h w n (by omega) (by omega))
  have hd0 : Dk.new n = Dk.new (8 * P + 1) := by rw [hnn]
  have HD0 := Lib.hid hd0
  have ST : Hid (Sto P (Dk.new n)) := sto_new (by omega) (by omega) (by omega)
  have RD : Hid (run (Dk.new n) (openK P (Dk.new n) ((Dk.new n).read 0).1) = (Dk.new n, 0)) := by
    unfold Hid
    rw [read_new (i := 0) (by omega) (by omega), openK_zero]
    rfl
  have PZ : Hid (pageB (Dk.new n) (1 + 4 * ((P : Int) + 0)) = Dk.rep 1024 0) := by
    unfold Hid
    rw [hd0]
    rcases page_zero (P := P) with h | h
    · exact h
    · omega
  have LN : Hid (8 * P + 1 ≤ (Dk.new n).l.length ∧ Sz (Dk.new n) ∧ (Dk.new n).down = false ∧ (Dk.new n).waits = [] ∧ (Dk.new n).writes = 0) := ⟨by simp [Dk.new]; omega, sz_new _, rfl, rfl, rfl⟩
  have NN : n ≤ 97 := by omega
  clear hnn hd0
  go_enter Try.func9, Try.ntmps9
  go_wp2_with fail
  refine NEW.out.mono ?_
  rintro e w1 ⟨g, F, rfl, hd, hF, b1⟩
  have OP := Lib.hid (open_any w1 F g P (Dk.new n) hd ST.out (by omega) (by omega) ⟨by rw [LN.out.2.2.2.1]; simp, by rw [LN.out.2.2.2.2]; simp⟩)
  unfold OpenTo at OP
  rw [RD.out] at OP
  have HF := Lib.hid hF; have B1 := Lib.hid b1
  clear hd hF b1 NEW
  go_wp2_with fail
  refine OP.out.mono ?_
  rintro e w2 ⟨v, F2, rfl, ht, hv⟩
  rw [if_pos (by trivial)] at hv
  obtain ⟨gj, rfl, hj, hnj, hgj⟩ := hv
  have B2 : Hid (Below w.heap.size w w2) := B1.out.trans (ht.touch.below B1.out.size HF.out)
  have HT := Lib.hid ht.has; have HJ := Lib.hid hj
  have SO := Lib.hid (sopen_zero w2 F2 gj g P (Dk.new n) ht.has hj LN.out.2.1 (by rw [LN.out.2.2.2.1]; decide) hP1 (by omega) LN.out.1 LN.out.2.2.1 PZ.out)
  clear ht hj hnj hgj OP
  go_wp2_with fail
  refine SO.out.mono ?_
  rintro e w3 ⟨gs, rfl, hb, hgs, q3⟩
  have B3 : Hid (Below w.heap.size w w3) := B2.out.trans (q3.mono B2.out.size)
  have HB := Lib.hid hb
  have R : Hid (w.heap.size ≤ gs) := Nat.le_trans B2.out.size hgs
  have HJ3 := Lib.hid (HJ.out.below q3); have HT3 := Lib.hid (HT.out.below q3)
  clear hb hgs q3 SO
  go_wp2
  go_ret3
  exact ⟨g, gj, gs, rfl, HB.out, R.out, B3.out, HJ3.out, F2, by rw [← HD0.out]; exact HT3.out⟩
end Go.Proofs.Ytoolkamajlgcbaa
