/- JnV: the walk of opened. -/
import Derived.Test.YtpaabfadniakoaaJnU
import Derived.Test.YtpaabfadniakoaaJnS
set_option linter.unusedVariables false
set_option linter.unusedSimpArgs false
namespace Go.Proofs.Ytpaabfadniakoaa
open Go.RowKit

/-- A store that opened hands out. -/
def StoreAt (w0 : World) (P : Nat) (g gj : Nat) (n : Int) (w : World) : Prop :=
  ∃ F d, HasDisk w F g d ∧ (∀ k, F k → w0.heap.size ≤ k) ∧ Jb w gj g P ∧ ¬ F gj ∧ w0.heap.size ≤ gj ∧ Rest P d ∧ d.writes ≤ n ∧ Below w0.heap.size w0 w
theorem chK_size {l : List PutM} {k : Nat} : ∀ x ∈ chK l k, x.2.size ≤ 3000 := fun x hx => by
  unfold chK at hx
  obtain ⟨y, _, rfl⟩ := List.mem_map.1 hx
  unfold chP
  simp only [Dk.rep_size]
  exact filledN_le _
theorem opened_no (w : World) (A : Option Addr) (n c : Nat) (p : Int) (hp : p < 1 ∨ 6 < p) : Calls Try.prog 17 #[.int .i64 p, .slice A n c] w fun e w' => e = .returned (.tuple #[.pointer none, .pointer none]) ∧ w = w' := by
  have hex : decide (p < 1) = true ∨ (decide (p < 1) = false ∧ decide (6 < p) = true) := by
    by_cases h0 : p < 1
    · exact .inl (by simpa using h0)
    · exact .inr ⟨by simpa using h0, by simp; omega⟩
  clear hp
  rcases hex with d1 | ⟨d1, d2⟩
  all_goals
    go_enter Try.func17, Try.ntmps17
    go_wp2
    go_ret2
    exact ⟨rfl, rfl⟩
set_option maxHeartbeats 1600000 in
set_option maxRecDepth 100000 in
theorem opened_any (w : World) (A : Option Addr) (c : Nat) (l : List PutM) (hl : RdPut w A l) (hn : l.length ≤ 9223372036854775807) (hc : l.length ≤ c) (hc2 : c ≤ 9223372036854775807) (P : Nat) (hP1 : 1 ≤ P) (hP : P ≤ 6) :
    Calls Try.prog 17 #[.int .i64 (P : Int), .slice A l.length c] w fun e w' => ∃ g gj, e = .returned (.tuple #[.pointer (some ⟨g, 0, none⟩), .pointer (some ⟨gj, 0, none⟩)]) ∧ StoreAt w P g gj 784 w' := by
  have HL := Lib.hid hl
  have d1 : decide ((P : Int) < 1) = false := by simp; omega
  have d2 : decide (6 < (P : Int)) = false := by simp; omega
  have d2' : decide (6 < P) = false := by simp; omega
  have RN := Lib.hid (rneed_any w (P : Int))
  obtain ⟨n, hnn⟩ : ∃ n : Nat, n = 8 * P + 1 := ⟨_, rfl⟩
  rw [show needN (P : Int) = (n : Int) by unfold needN; rw [if_neg (by omega)]; omega] at RN
  have NEW := Lib.hid (new_h w n (by omega) (by omega))
  have R0 : Hid (Rest P (Dk.new n)) := by rw [hnn]; exact rest_new (by omega)
  have F0 : Hid (Fw 600 (Dk.new n)) := ⟨by simp [Dk.new], by simp [Dk.new]⟩
  have W0 : Hid ((Dk.new n).writes = 0) := rfl
  generalize Dk.new n = d0 at NEW R0 F0 W0
  clear hl hnn
  go_enter Try.func17, Try.ntmps17
  go_wp2_with fail
  refine RN.out.mono ?_
  rintro e w' ⟨rfl, rfl⟩
  go_wp2_with fail
  refine NEW.out.mono ?_
  rintro e w1 ⟨g, F, rfl, hd, hF, b1⟩
  have OP := Lib.hid (open_any w1 F g P d0 hd R0.out.sto hP1 (by omega) F0.out)
  unfold OpenTo at OP
  rw [rest_open R0.out] at OP
  have HF := Lib.hid hF; have B1 := Lib.hid b1
  clear hd hF b1 NEW
  go_wp2_with fail
  refine OP.out.mono ?_
  rintro e w2 ⟨v, F2, rfl, ht, hv⟩
  rw [if_pos (by trivial)] at hv
  obtain ⟨gj, rfl, hj, hnj, hgj⟩ := hv
  have B2 : Hid (Below w.heap.size w w2) := B1.out.trans (ht.touch.below B1.out.size HF.out)
  have HF2 : Hid (∀ k, F2 k → w.heap.size ≤ k) := fun k hk => (ht.new k hk).elim (HF.out k) (fun h => Nat.le_trans B1.out.size h)
  have S0 : Hid (StoreAt w P g gj ((0 : Nat) : Int) w2) := ⟨F2, d0, ht.has, HF2.out, hj, hnj, Nat.le_trans B1.out.size hgj, R0.out, by rw [W0.out]; exact Int.le_refl _, B2.out⟩
  clear ht hj hnj hgj OP B2 HF2
  go_wp2_with fail
  go_loopw [10] (fun i wr => ∃ k : Nat, k ≤ 8 ∧ k ≤ l.length ∧ i = .int .i64 k ∧ Hid (StoreAt w P g gj ((98 * k : Nat) : Int) wr)) (fun i _ => 8 - (intOf i).toNat)
  case atStart => exact ⟨0, by decide, Nat.zero_le _, rfl, S0⟩
  case round =>
    obtain ⟨k, hk, hkl, rfl, hS⟩ := hrel
    have BB : Hid (Below w.heap.size w wr) := by obtain ⟨F, d, _, _, _, _, _, _, _, h⟩ := hS.out; exact h
    by_cases hlt : k < l.length
    · by_cases h8 : k < 8
      · obtain ⟨b, off, hA, hcs⟩ := HL.out (by omega)
        subst hA
        have hck := hcs k hlt
        have d8 : decide ((k : Int) < 8) = true := by simp; omega
        have RP : Hid (RdPut wr (some ⟨b, off + k * 3, none⟩) [l[k]]) := fun _ => ⟨b, off + k * 3, rfl, fun j hj => by
          obtain rfl : j = 0 := by simpa using hj
          exact ⟨cell_below BB.out hck.1, cell_below BB.out hck.2.1, cell_below BB.out hck.2.2⟩⟩
        clear hcs hck
        go_wp2_with fail
        refine (changes_any wr (some ⟨b, off + k * 3, none⟩) (c - k) [l[k]] RP.out (by simp)).mono ?_
        rintro e w3 ⟨va, vb, rfl, ha, hb, b3⟩
        obtain ⟨A2, c2, rfl⟩ := own_slice ha
        have S3 : Hid (StoreAt w P g gj ((98 * k : Nat) : Int) w3) := by
          obtain ⟨F, d, h1, h2, h3, h4, h5, h6, h7, h8⟩ := hS.out
          exact ⟨F, d, h1.below b3, h2, h3.below b3, h4, h5, h6, h7, h8.trans (b3.mono h8.size)⟩
        have RC := Lib.hid (rdC_own ha)
        have LC : (chK [l[k]] 12).length ≤ 1 := by unfold chK; rw [List.length_map, List.length_take]; simp
        have CZ := Lib.hid (chK_size (l := [l[k]]) (k := 12))
        generalize chK [l[k]] 12 = ch at RC LC CZ ⊢
        clear ha hb b3 hS RP BB
        obtain ⟨F3, d3, h1, h2, h3, h4, h5, h6, h7, h8⟩ := S3.out
        have CO := Lib.hid (commit_any w3 F3 gj g P d3 h1 h3 h4 (by omega) A2 c2 ch RC.out (by omega) (fun x hx => by have := CZ.out x hx; omega) ⟨by rw [h6.waits]; simp; omega, by omega⟩)
        have H2 := Lib.hid h2; have H5 := Lib.hid h5; have H6 := Lib.hid h6; have H7 := Lib.hid h7; have H8 := Lib.hid h8; have H3 := Lib.hid h3; have H4 := Lib.hid h4; have H1 := Lib.hid h1
        clear h1 h2 h3 h4 h5 h6 h7 h8 S3
        go_wp2_with fail
        refine CO.out.mono ?_
        rintro e w4 ⟨x, d4, F4, rfl, hco, ht⟩
        obtain ⟨k1, k2⟩ := rest_coto H6.out hco
        have S4 : Hid (StoreAt w P g gj ((98 * (k + 1) : Nat) : Int) w4) := by
          refine ⟨F4, d4, ht.has, fun j hj => (ht.new j hj).elim (H2.out j) (fun h => Nat.le_trans H8.out.size h), H3.out.touch ht.touch H4.out, fun h => ?_, H5.out, k1, ?_, H8.out.trans (ht.touch.below H8.out.size H2.out)⟩
          · rcases ht.new _ h with h | h
            · exact H4.out h
            · have := lt_of_block H3.out; omega
          · have := H7.out; omega
        clear hco ht k1 k2 CO
        go_wp2
        go_roundw
        case rel => first | exact ⟨k + 1, h8, hlt, by go_num, S4⟩ | ((repeat apply Exists.intro); refine ⟨?_, rfl⟩; exact ⟨k + 1, h8, hlt, by go_num, S4⟩)
        case measure => simp [intOf]; omega
      · have d8 : decide ((k : Int) < 8) = false := by simp; omega
        go_wp2
        go_ret2
        obtain ⟨F, d, h1, h2, h3, h4, h5, h6, h7, h8⟩ := hS.out
        exact ⟨g, gj, rfl, F, d, h1, h2, h3, h4, h5, h6, by omega, h8⟩
    · have hk2 : k = l.length := by omega
      subst hk2
      go_wp2
      go_ret2
      obtain ⟨F, d, h1, h2, h3, h4, h5, h6, h7, h8⟩ := hS.out
      exact ⟨g, gj, rfl, F, d, h1, h2, h3, h4, h5, h6, by omega, h8⟩
end Go.Proofs.Ytpaabfadniakoaa
