/- CmJ: the document's Range of entries; a shelf's Abort. -/
import Derived.Test.YtoolkamajlgcbaaCmI
set_option linter.unusedVariables false
set_option linter.unusedSimpArgs false
namespace Go.Proofs.Ytoolkamajlgcbaa
open Go.RowKit

set_option maxHeartbeats 1600000 in
set_option maxRecDepth 100000 in
theorem rrange_any (w : World) (A : Option Addr) (c : Nat) (l : PL) (h : RdPr w A l) (hn : l.length ≤ 1000000) (frm til : ByteArray) (most : Int) :
    Calls Try.prog 29 #[.slice A l.length c, .string frm, .string til, .int .i64 most] w fun e w' => ∃ v, e = .returned v ∧ OwnP w' w.heap.size v (rngI l frm til most) ∧ Below w.heap.size w w' := by
  have H := Lib.hid h
  clear h
  have ST := Lib.hid (fun k (hk : k < l.length) => take_snoc_filter l (fun p => !ltB p.1 frm && !ltB til p.1) most.toNat k hk)
  have R0 : rngI (l.take 0) frm til most = [] := by unfold rngI; rw [List.take_zero, List.filter_nil, List.take_nil]
  have RL : Hid (∀ k, (rngI (l.take k) frm til most).length ≤ 1000000) := fun k => by
    unfold rngI
    rw [List.length_take]
    have h1 := List.length_filter_le (fun (p : ByteArray × ByteArray) => !ltB p.1 frm && !ltB til p.1) (l.take k)
    rw [List.length_take] at h1
    omega
  have RS : Hid (∀ k (hk : k < l.length), rngI (l.take (k + 1)) frm til most = rngI (l.take k) frm til most ++ (if (!ltB l[k].1 frm && !ltB til l[k].1) = true ∧ (rngI (l.take k) frm til most).length < most.toNat then [l[k]] else [])) := fun k hk => ST.out k hk
  have RE : Hid (rngI l frm til most = rngI (l.take l.length) frm til most) := by unfold Hid; rw [List.take_length]
  generalize rngI l frm til most = R at RE ⊢
  obtain ⟨G, hG⟩ : ∃ G : Nat → PL, G = fun k => rngI (l.take k) frm til most := ⟨_, rfl⟩
  have R0' : G 0 = [] := by rw [hG]; exact R0
  have RL' : Hid (∀ k, (G k).length ≤ 1000000) := by rw [hG]; exact RL
  have RS' : Hid (∀ k (hk : k < l.length), G (k + 1) = G k ++ (if (!ltB l[k].1 frm && !ltB til l[k].1) = true ∧ (G k).length < most.toNat then [l[k]] else [])) := by rw [hG]; exact RS
  have RE' : Hid (R = G l.length) := by rw [hG]; exact RE
  clear ST R0 RL RS RE hG
  go_enter Try.func29, Try.ntmps29
  go_wp2_with fail
  go_loopw [9, 10] (fun ov iv wr => ∃ (k : Nat) (Ao : Option Addr) (co : Nat) (O : PL), k ≤ l.length ∧ iv = .int .i64 k ∧ Hid (O = G k) ∧ ov = .slice Ao O.length co ∧ Hid (OwnP wr w.heap.size (.slice Ao O.length co) O) ∧ Hid (Below w.heap.size w wr)) (fun _ i _ => l.length - (intOf i).toNat)
  case atStart => exact ⟨0, none, 0, [], Nat.zero_le _, rfl, R0'.symm, rfl, World.ownsRow_nil _ _ _ _, Below.refl _ _⟩
  case round =>
    obtain ⟨k, Ao, co, O, hk, rfl, hO, rfl, ho, hb⟩ := hrel
    by_cases hlt : k < l.length
    · obtain ⟨b1, o1, rfl, hc1⟩ := H.out (by omega)
      obtain ⟨y1, y2⟩ := hc1 k hlt
      replace y1 := cell_below hb.out y1
      replace y2 := cell_below hb.out y2
      have hkl : (k : Int) < (l.length : Int) := by omega
      have GS := Lib.hid (RS'.out k hlt)
      have OL : O.length ≤ 1000000 := by rw [hO.out]; exact RL'.out k
      generalize l[k] = p at y1 y2 GS
      obtain ⟨p1, p2⟩ := p
      simp only at y1 y2
      clear hc1
      cases h1 : ltB p1 frm with
      | true =>
        have g1 : Op.bytesLess p1.toList frm.toList = true := h1
        have GE : Hid (O = G (k + 1)) := by unfold Hid; rw [GS.out, if_neg (by rw [h1]; simp), List.append_nil, ← hO.out]
        clear GS h1
        go_wp2
        go_roundw
        case rel => exact ⟨k + 1, Ao, co, O, hlt, by go_num, GE, rfl, ho, hb⟩
        case measure => simp [intOf]; omega
      | false =>
        have g1 : Op.bytesLess p1.toList frm.toList = false := h1
        cases h2 : ltB til p1 with
        | true =>
          have g2 : (Op.bytesLess p1.toList til.toList || p1.toList == til.toList) = false := le_flat h2
          have GE : Hid (O = G (k + 1)) := by unfold Hid; rw [GS.out, if_neg (by rw [h2]; simp), List.append_nil, ← hO.out]
          clear GS h1 h2
          go_wp2
          go_roundw
          case rel => exact ⟨k + 1, Ao, co, O, hlt, by go_num, GE, rfl, ho, hb⟩
          case measure => simp [intOf]; omega
        | false =>
          have g2 : (Op.bytesLess p1.toList til.toList || p1.toList == til.toList) = true := le_flat1 h2
          by_cases h3 : (O.length : Int) < most
          · have GE : Hid (O ++ [(p1, p2)] = G (k + 1)) := by unfold Hid; rw [GS.out, if_pos ⟨by rw [h1, h2]; rfl, by rw [← hO.out]; omega⟩, ← hO.out]
            have h3' : decide ((O.length : Int) < most) = true := decide_eq_true h3
            clear GS h1 h2
            obtain ⟨W4, hW4⟩ : ∃ W, W = wr.alloc (.cells #[.string p1, .string p2] 47) := ⟨_, rfl⟩
            have K4 : Below wr.heap.size wr W4 := by rw [hW4]; exact (Below.refl _ wr).alloc (Nat.le_refl _) _
            have N4 : Hid (∀ j u, (prv [(p1, p2)])[j]? = some u → W4.cell? ((⟨wr.heap.size, 0, none⟩ : Addr).add j) = some u) := by unfold Hid; rw [hW4]; exact two_new _ _ _ _
            have O4 : Hid (OwnP W4 w.heap.size (.slice Ao O.length co) O) := ho.out.below K4
            have B4 : Hid (Below w.heap.size w W4) := hb.out.trans (K4.mono hb.out.size)
            have hsz4 : Hid (w.heap.size ≤ W4.heap.size) := B4.out.size
            have HW4 := Lib.hid hW4
            clear K4 hW4
            go_wp2_with (at_builtin; rw [← HW4.out]; refine wpList_app_pr rfl (.tmp 39) (.tmp 44) 43 rfl Try.underlying43 w.heap.size hsz4.out (.slice Ao O.length co) O [(p1, p2)] rfl O4.out (some ⟨wr.heap.size, 0, none⟩) 1 1 rfl rfl (fun e => by cases e) (fun ad e => by cases e; exact N4.out) (fun e => by cases e) (by simp; omega) ?_)
            intro v5 w5 o5 g5
            have B5 : Hid (Below w.heap.size w w5) := B4.out.trans ((Below.refl w.heap.size W4).grown g5 hsz4.out (fun j hj => (O4.out.lt j hj).1))
            obtain ⟨O5, hO5⟩ : ∃ O5, O5 = O ++ [(p1, p2)] := ⟨_, rfl⟩
            rw [← hO5] at o5 GE
            obtain ⟨A5, c5, rfl⟩ := own_slice o5
            have HO5 := Lib.hid o5
            clear o5 g5 hO5
            go_wp2
            go_roundw
            case rel => exact ⟨k + 1, A5, c5, O5, hlt, by go_num, GE, rfl, HO5, B5⟩
            case measure => simp [intOf]; omega
          · have GE : Hid (O = G (k + 1)) := by unfold Hid; rw [GS.out, if_neg (by rw [← hO.out]; omega), List.append_nil, ← hO.out]
            have h3' : decide ((O.length : Int) < most) = false := decide_eq_false h3
            clear GS h1 h2
            go_wp2
            go_roundw
            case rel => exact ⟨k + 1, Ao, co, O, hlt, by go_num, GE, rfl, ho, hb⟩
            case measure => simp [intOf]; omega
    · have hkl : k = l.length := by omega
      have hkl' : ¬ (k : Int) < (l.length : Int) := by omega
      have RF : Hid (R = O) := by unfold Hid; rw [RE'.out, hO.out, hkl]
      go_wp2
      go_ret
      exact ⟨_, rfl, by rw [RF.out]; exact ho.out, hb.out⟩
/-- Abort: what is opened is what is there. -/
theorem sabort_any (w : World) (F : Nat → Prop) (gs gj g P : Nat) (d : Dk) (v0 : Value) (h : HasDisk w F g d) (hj : Jb w gj g P) (hz : Sz d) (hw : d.waits.length < 9223372036854775807) (hP1 : 2 ≤ P) (hP : P ≤ 128) (hs : 8 * P + 1 ≤ d.l.length) (hup : d.down = false) (hb : ShB w gs gj v0) (hg : ¬ F gs) :
    Calls Try.prog 31 #[.pointer (some ⟨gs, 0, none⟩)] w fun e w' => e = .returned (.tuple #[]) ∧ LdTo w gs gj (loadA d P).2 w' := by
  have LU := Lib.hid (load_up w F gs gj g P d v0 h hj hz hw hP1 hP hs hup hb hg)
  generalize loadA d P = R at LU ⊢
  clear h hj hb hg
  go_enter Try.func31, Try.ntmps31
  go_wp2_with fail
  refine LU.out.mono ?_
  rintro e w2 ⟨rfl, q2⟩
  have Q2 := Lib.hid q2
  clear q2
  go_wp2
  go_end0
  exact ⟨rfl, Q2.out⟩
end Go.Proofs.Ytoolkamajlgcbaa
