/- JnW: the walks of pagesOf and sameTexts. -/
import Derived.Test.YtpaabfadniakoaaJnV
set_option linter.unusedVariables false
set_option linter.unusedSimpArgs false
namespace Go.Proofs.Ytpaabfadniakoaa
open Go.RowKit

def pgK (d : Dk) (P : Nat) (k : Nat) : List ByteArray := (List.range k).map (fun i => (jrd d P (i : Nat)).1)
theorem pgK_succ (d : Dk) (P k : Nat) : pgK d P (k + 1) = pgK d P k ++ [(jrd d P (k : Nat)).1] := by unfold pgK; rw [List.range_succ, List.map_append]; rfl
theorem pgK_len (d : Dk) (P k : Nat) : (pgK d P k).length = k := by unfold pgK; rw [List.length_map, List.length_range]
def svs (l : List ByteArray) : List Value := l.map Value.string
theorem svs_append (a b : List ByteArray) : svs (a ++ b) = svs a ++ svs b := List.map_append ..
theorem one_new (w : World) (a : Value) (t : TypeId) : ∀ j u, [a][j]? = some u → (w.alloc (.cells #[a] t)).cell? ((⟨w.heap.size, 0, none⟩ : Addr).add j) = some u := by
  intro j u hj
  have h := blk_new w (.cells #[a] t)
  match j, hj with
  | 0, hj => rw [show (⟨w.heap.size, 0, none⟩ : Addr).add 0 = ⟨w.heap.size, 0, none⟩ from rfl, blk_cell h 0]; simpa using hj
  | j + 1, hj => simp at hj
theorem infoSt : (Try.prog.info? 9).map (fun i => (i.zero, i.size, i.bytes)) = some (some (.string ByteArray.empty), 1, 16) := by kernel_rfl
set_option maxHeartbeats 1600000 in
set_option maxRecDepth 100000 in
theorem pagesOf_any (w : World) (F : Nat → Prop) (gj g P : Nat) (d : Dk) (h : HasDisk w F g d) (hj : Jb w gj g P) (hz : Sz d) (hw : d.waits.length < 9223372036854775807) (hP : P ≤ 128) (hs : 8 * P + 1 ≤ d.l.length) :
    Calls Try.prog 21 #[.pointer (some ⟨gj, 0, none⟩)] w fun e w' => ∃ v, e = .returned v ∧ w'.ownsRow w.heap.size 9 1 v P (svs (pgK d P P)) ∧ Below w.heap.size w w' := by
  obtain ⟨i0, hi, hz0, hz1, hz2⟩ := info_parts infoSt
  have H := Lib.hid h; have HJ := Lib.hid hj; have HZ := Lib.hid hz; have HW := Lib.hid hw; have HS := Lib.hid hs
  clear h hj hz hw hs
  go_enter Try.func21, Try.ntmps21
  go_wp2_with fail
  go_loopw [3, 4] (fun v i wr => ∃ k : Nat, k ≤ P ∧ i = .int .i64 k ∧ Hid (wr.ownsRow w.heap.size 9 1 v k (svs (pgK d P k))) ∧ Hid (Below w.heap.size w wr)) (fun _ i _ => P - (intOf i).toNat)
  case atStart => exact ⟨0, Nat.zero_le _, rfl, World.ownsRow_nil _ _ _ _, Below.refl _ _⟩
  case round =>
    obtain ⟨k, hk, rfl, ho, hb⟩ := hrel
    have PG := Lib.hid (pages_any wr gj g P (HJ.out.below hb.out))
    by_cases hlt : k < P
    · have RD := Lib.hid (jread_any wr F gj g P d (H.out.below hb.out) (HJ.out.below hb.out) HZ.out HW.out hP HS.out (k : Int))
      have PS := Lib.hid (pgK_succ d P k)
      generalize jrd d P (k : Int) = r at RD PS
      obtain ⟨t, x⟩ := r
      simp only at PS
      go_wp2_with fail
      refine PG.out.mono ?_
      rintro e w' ⟨rfl, rfl⟩
      go_wp2_with fail
      refine RD.out.mono ?_
      rintro e w1 ⟨rfl, b1⟩
      have B1 : Hid (Below w.heap.size w w1) := hb.out.trans (b1.mono hb.out.size)
      have O1 := Lib.hid (own_touch ho.out (Touch.of_below b1 : Touch (fun _ => False) wr w1) (fun _ _ x => x))
      clear b1 RD PG
      go_wp2_with (at_builtin; refine wpList_append_own_at _ rfl (.tmp 19) (.tmp 21) 47 rfl w.heap.size 9 i0 _ 1 16 Try.underlying47 hi hz0 hz1 hz2 rfl (by decide) _ k (svs (pgK d P k)) rfl (O1.out.alloc _) ⟨w1.heap.size, 0, none⟩ 1 1 [.string t] rfl rfl (one_new _ _ _) (by simp [Value.oneCell']) (by unfold maxLen; omega) (by omega) (by have := B1.out.size; simp; omega) ?_)
      intro v2 w2 ho2 hg2 _ _
      have O2 : Hid (w2.ownsRow w.heap.size 9 1 v2 (k + 1) (svs (pgK d P (k + 1)))) := by unfold Hid; rw [PS.out, svs_append]; exact ho2
      have B2 : Hid (Below w.heap.size w w2) := (B1.out.alloc B1.out.size (.cells #[.string t] 9)).grown hg2 (B1.out.alloc B1.out.size (.cells #[.string t] 9)).size (fun j hj => ((O1.out.alloc (.cells #[.string t] 9)).lt j hj).1)
      clear ho2 hg2
      go_wp2
      go_roundw
      case rel => first | exact ⟨k + 1, hlt, by go_num, O2, B2⟩ | ((repeat apply Exists.intro); refine ⟨?_, rfl⟩; exact ⟨k + 1, hlt, by go_num, O2, B2⟩)
      case measure => simp [intOf]; omega
    · have hkP : k = P := by omega
      subst hkP
      go_wp2_with fail
      refine PG.out.mono ?_
      rintro e w' ⟨rfl, rfl⟩
      go_wp2
      go_ret
      exact ⟨_, rfl, ho.out, hb.out⟩
end Go.Proofs.Ytpaabfadniakoaa
