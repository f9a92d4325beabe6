/- JnB: the walks of the journal's look, Pages, Read. -/
import Derived.Test.YtoolkamajlgcbaaJnA
import Derived.Lib.AppendStr
import Derived.Lib.EndianBits
set_option linter.unusedVariables false
set_option linter.unusedSimpArgs false
namespace Go.Proofs.Ytoolkamajlgcbaa
open Go.RowKit

/-- Bytes as cells. -/
def u8s (l : List UInt8) : List Value := l.map (fun b => Value.int .u8 (b.toNat : Int))
theorem u8s_length (l : List UInt8) : (u8s l).length = l.length := List.length_map ..
theorem u8s_append (a b : List UInt8) : u8s (a ++ b) = u8s a ++ u8s b := List.map_append ..
theorem u8s_str (s : ByteArray) : Go.Lib.strCells s = u8s s.data.toList := rfl
theorem infoU : (Try.prog.info? 5).map (fun i => (i.zero, i.size, i.bytes)) = some (some (.int .u8 0), 1, 1) := by kernel_rfl
theorem pages_any (w : World) (gj g P : Nat) (h : Jb w gj g P) : Calls Try.prog 54 #[.pointer (some ⟨gj, 0, none⟩)] w fun e w' => e = .returned (.int .i64 (P : Int)) ∧ w = w' := by
  obtain ⟨_, c1⟩ := h.cells
  clear h
  go_enter Try.func54, Try.ntmps54
  go_wp2
  go_ret
  exact ⟨rfl, rfl⟩
theorem pages_nil (w : World) : Calls Try.prog 54 #[.pointer none] w fun e w' => e = .returned (.int .i64 0) ∧ w = w' := by
  go_enter Try.func54, Try.ntmps54
  go_wp2
  go_ret
  exact ⟨rfl, rfl⟩
set_option maxHeartbeats 1600000 in
set_option maxRecDepth 100000 in
theorem look_down (w : World) (F : Nat → Prop) (gj g P : Nat) (d : Dk) (h : HasDisk w F g d) (hj : Jb w gj g P) (hd : d.down = true) (hw : d.waits.length < 9223372036854775807) (p : Nat) (hp : p ≤ 4096) :
    Calls Try.prog 67 #[.pointer (some ⟨gj, 0, none⟩), .int .i64 (p : Int)] w fun e w' => e = .returned (.tuple #[.string ByteArray.empty, .int .i64 10]) ∧ Below w.heap.size w w' := by
  obtain ⟨c0, _⟩ := hj.cells
  have RD := Lib.hid (read_h h (p : Int) hw)
  have hr : d.read (p : Int) = (ByteArray.empty, 10) := by
    have hu : d.use (p : Int) = 10 := by unfold Dk.use; rw [if_pos hd]
    unfold Dk.read
    rw [if_neg (by rw [hu]; decide), hu]
  rw [hr] at RD
  clear h hj hd hw hr
  go_enter Try.func67, Try.ntmps67
  go_wp2_with fail
  refine wp_loop_rounds 1 ?_
  rw [rounds_succ]
  go_wp2_with fail
  refine RD.out.mono ?_
  rintro e w1 ⟨rfl, b1⟩
  have B1 := Lib.hid b1
  clear b1 RD
  go_wp2
  go_ret2
  exact ⟨rfl, B1.out⟩
set_option maxHeartbeats 1600000 in
set_option maxRecDepth 100000 in
theorem look_up (w : World) (F : Nat → Prop) (gj g P : Nat) (d : Dk) (h : HasDisk w F g d) (hj : Jb w gj g P) (hd : d.down = false) (hz : Sz d) (hw : d.waits.length < 9223372036854775807) (p : Nat) (hp : p + 4 ≤ d.l.length) (hp2 : p ≤ 4096) :
    Calls Try.prog 67 #[.pointer (some ⟨gj, 0, none⟩), .int .i64 (p : Int)] w fun e w' => e = .returned (.tuple #[.string (pageB d (p : Int)), .int .i64 0]) ∧ Below w.heap.size w w' := by
  obtain ⟨i0, hi, hz0, hz1, hz2⟩ := info_parts infoU
  have H := Lib.hid h; have HJ := Lib.hid hj
  have HU : Hid (∀ i : Nat, i < 4 → d.use ((p : Int) + (i : Nat)) = 0) := fun i hi => by unfold Dk.use; rw [if_neg (by rw [hd]; decide), if_neg (by omega)]
  have HZ := Lib.hid hz; have HW := Lib.hid hw
  clear h hj hd hz hw hp
  go_enter Try.func67, Try.ntmps67
  go_wp2_with fail
  go_loopw [6, 10] (fun v i wr => ∃ k : Nat, k ≤ 4 ∧ i = .int .i64 k ∧ Hid (wr.ownsRow w.heap.size 5 1 v (rdK d p k).length (u8s (rdK d p k))) ∧ Hid (Below w.heap.size w wr)) (fun _ i _ => 4 - (intOf i).toNat)
  case atStart => exact ⟨0, by decide, rfl, World.ownsRow_nil _ _ _ _, Below.refl _ _⟩
  case round =>
    obtain ⟨k, hk, rfl, ho, hb⟩ := hrel
    have LEN : Hid ((rdK d p k).length = 256 * k) := rdK_len HZ.out k (fun i hi => HU.out i (by omega))
    by_cases hlt : k < 4
    · obtain ⟨c0, _⟩ := (HJ.out.below hb.out).cells
      have RS : Hid (rdK d p (k + 1) = rdK d p k ++ (d.read ((p : Int) + (k : Nat))).1.data.toList) := rfl
      have SZ := Lib.hid (read_size HZ.out (HU.out k hlt))
      have RD := Lib.hid (read_h (H.out.below hb.out) ((p : Int) + (k : Int)) HW.out)
      have hr2 : (d.read ((p : Int) + (k : Nat))).2 = 0 := by unfold Dk.read; rw [if_pos (HU.out k hlt)]
      rw [hr2] at RD
      generalize hrd : (d.read ((p : Int) + (k : Nat))).1 = t at RS SZ RD
      obtain ⟨A, c, rfl⟩ := own_slice ho.out
      clear hrd hr2
      go_wp2_with fail
      refine RD.out.mono ?_
      rintro e w1 ⟨rfl, b1⟩
      have B1 : Hid (Below w.heap.size w w1) := hb.out.trans (b1.mono hb.out.size)
      have HO1 : Hid (w1.ownsRow w.heap.size 5 1 (.slice A (rdK d p k).length c) (rdK d p k).length (u8s (rdK d p k))) := own_touch ho.out (Touch.of_below b1 : Touch (fun _ => False) wr w1) (fun _ _ x => x)
      have L1 : (rdK d p k).length ≤ 1024 := by have := LEN.out; omega
      have HS1 : Hid (w.heap.size ≤ w1.heap.size) := B1.out.size
      clear b1 RD c0
      generalize hacc : rdK d p k = acc at HO1 L1 RS ⊢
      clear hacc
      go_wp2_with (at_builtin; refine Go.Lib.wpList_append_own_string _ rfl (.tmp 27) (.tmp 28) 51 9 rfl w.heap.size 5 i0 Try.underlying51 Try.underlying9 hi hz0 hz1 hz2 _ acc.length (u8s acc) rfl HO1.out t rfl (by have := SZ.out; unfold maxLen; omega) (by have := SZ.out; omega) HS1.out ?_)
      intro v2 w2 ho2 hg2 _
      have B2 : Hid (Below w.heap.size w w2) := B1.out.grown hg2 HS1.out (fun j hj => (HO1.out.lt j hj).1)
      have HO2 : Hid (w2.ownsRow w.heap.size 5 1 v2 (rdK d p (k + 1)).length (u8s (rdK d p (k + 1)))) := by
        unfold Hid
        rw [RS.out, List.length_append, u8s_append, ← u8s_str]
        exact ho2
      clear ho2 hg2 HO1
      go_wp2
      go_roundw
      case rel => first | exact ⟨k + 1, by omega, by go_num, HO2, B2⟩ | ((repeat apply Exists.intro); refine ⟨?_, rfl⟩; exact ⟨k + 1, by omega, by go_num, HO2, B2⟩)
      case measure => simp [intOf]; omega
    · have hk4 : k = 4 := by omega
      subst hk4
      rcases ho.out.2 with ⟨_, h0⟩ | ⟨gb, cb, cur, rfl, _, hgb, hcb, _, _, htk⟩
      · have := LEN.out; omega
      · have CV := run_convert_bytes_back (P := Try.prog) wr 51 9 5 ⟨gb, 0, none⟩ cb (rdK d p 4) Try.underlying51 Try.underlying5 Try.underlying9 (fun j hj => by
          have h1 : (cur.toList.take ((rdK d p 4).length * 1))[j]? = (u8s (rdK d p 4))[j]? := by rw [htk]
          rw [List.getElem?_take_of_lt (by omega), Array.getElem?_toList] at h1
          rw [show (⟨gb, 0, none⟩ : Addr).add j = ⟨gb, j, none⟩ by simp [Addr.add]; omega, blk_cell hgb, h1]
          simp [u8s, hj])
        clear hgb htk ho
        go_wp2
        go_ret2
        exact ⟨rfl, hb.out⟩
end Go.Proofs.Ytoolkamajlgcbaa
