/- LawD: the walk of made. -/
import Derived.Test.YtfkonndbgmmckaaLawC
set_option linter.unusedVariables false
set_option linter.unusedSimpArgs false
namespace Go.Proofs.Ytfkonndbgmmckaa
open Go.RowKit

def OpV.text (o : OpV) : ByteArray := Dk.rep (filledN o.long) o.fill
def madeStep (d : Dk) (o : OpV) : Dk :=
  if o.kind = 0 then d.write o.at_ o.text else if o.kind = 1 then d.flush else if o.kind = 4 then (if o.picks.length ≤ 300 then (d.fail o.picks).start else d) else d
def madeD (n : Nat) (l : List OpV) : Dk := l.foldl madeStep (Dk.new n)

/-- A disk behind at most k writes. -/
structure Few (k : Nat) (d : Dk) : Prop where
  waits : d.waits.length ≤ k
  writes : d.writes ≤ k
theorem Few.mono {k j : Nat} {d : Dk} (h : Few k d) (hj : k ≤ j) : Few j d := ⟨Nat.le_trans h.waits hj, by have := h.writes; omega⟩
theorem Few.write {k : Nat} {d : Dk} (h : Few k d) (i : Int) (s : ByteArray) : Few (k + 1) (d.write i s) := by
  unfold Dk.write
  have h1 := h.waits
  have h2 := h.writes
  split
  · exact ⟨by simp [Dk.wrote]; omega, by simp only [Dk.wrote]; omega⟩
  · exact h.mono (by omega)
theorem Few.settled {k : Nat} {d : Dk} (h : Few k d) (p : Nat → Bool) : Few k (d.settled p) := ⟨by simp [Dk.settled], h.writes⟩
theorem Few.flush {k : Nat} {d : Dk} (h : Few k d) : Few k d.flush := by unfold Dk.flush; split; exact h.settled _; exact h
theorem Few.fail {k : Nat} {d : Dk} (h : Few k d) (p : List Bool) : Few k (d.fail p) := ⟨by simp [Dk.fail, Dk.settled], h.writes⟩
theorem Few.start {k : Nat} {d : Dk} (h : Few k d) : Few k d.start := by unfold Dk.start; split; exact ⟨h.waits, h.writes⟩; exact h
theorem Few.setFuse {k : Nat} {d : Dk} (h : Few k d) (n : Int) : Few k (d.setFuse n) := by unfold Dk.setFuse; split; exact ⟨h.waits, h.writes⟩; exact h
theorem Few.new (n : Nat) : Few 0 (Dk.new n) := ⟨Nat.le_refl _, by simp [Dk.new]⟩
theorem Few.madeStep {k : Nat} {d : Dk} (h : Few k d) (o : OpV) : Few (k + 1) (madeStep d o) := by
  unfold Go.Proofs.Ytfkonndbgmmckaa.madeStep
  split
  · exact h.write _ _
  · split
    · exact h.flush.mono (by omega)
    · split
      · split
        · exact (h.fail _).start.mono (by omega)
        · exact h.mono (by omega)
      · exact h.mono (by omega)
theorem Few.made (n : Nat) (l : List OpV) : Few l.length (madeD n l) := by
  have : ∀ (l : List OpV) (k : Nat) (d : Dk), Few k d → Few (k + l.length) (l.foldl Go.Proofs.Ytfkonndbgmmckaa.madeStep d) := by
    intro l
    induction l with
    | nil => intro k d h; exact h
    | cons o l ih => intro k d h; have := ih (k + 1) _ (h.madeStep o); rw [List.length_cons]; exact this.mono (by omega)
  have := this l 0 _ (Few.new n)
  simpa [madeD] using this
theorem made_snoc (n : Nat) (l : List OpV) (k : Nat) (h : k < l.length) : madeD n (l.take (k + 1)) = madeStep (madeD n (l.take k)) l[k] := by
  rw [List.take_succ_eq_append_getElem h, madeD, List.foldl_append]; rfl

/-- What made leaves. -/
def MadeTo (w : World) (n : Int) (l : List OpV) (e : Ending) (w' : World) : Prop :=
  (n < 1 ∨ 40 < n → e = .returned (.pointer none)) ∧ (1 ≤ n ∧ n ≤ 40 → ∃ g F, e = .returned (.pointer (some ⟨g, 0, none⟩)) ∧ HasDisk w' F g (madeD n.toNat (l.take 60)) ∧ ∀ k, F k → w.heap.size ≤ k) ∧ Below w.heap.size w w'

theorem made_no (w : World) (n : Int) (v : Value) (hn : n < 1 ∨ 40 < n) (A : Option Addr) (m c : Nat) : Calls Try.prog 8 #[.int .i64 n, .slice A m c] w fun e w' => e = .returned (.pointer none) ∧ Below w.heap.size w w' := by
  by_cases h0 : n < 1 ∨ 2048 < n
  · have H0 := Lib.hid h0
    clear h0 hn
    go_enter Try.func8, Try.ntmps8
    go_wp2_with fail
    refine (new_no w n H0.out).mono ?_
    rintro e w1 ⟨rfl, rfl⟩
    go_wp2
    go_ret
    exact ⟨rfl, Below.refl _ _⟩
  · obtain ⟨m', rfl⟩ := Int.eq_ofNat_of_zero_le (show 0 ≤ n by omega)
    have H0 := Lib.hid h0
    have h40 : (40 : Int) < m' := by omega
    clear h0 hn
    go_enter Try.func8, Try.ntmps8
    go_wp2_with fail
    refine (new_h w m' (by have := H0.out; omega) (by have := H0.out; omega)).mono ?_
    rintro e w1 ⟨g, F, rfl, hd, hF, b⟩
    have B := Lib.hid b
    clear hd hF b
    go_wp2
    go_ret
    exact ⟨rfl, B.out⟩

set_option maxHeartbeats 1600000 in
set_option maxRecDepth 100000 in
theorem made_yes (w : World) (n : Nat) (v : Value) (l : List OpV) (h1 : 1 ≤ n) (h2 : n ≤ 40) (hv : RdOps w v l) :
    Calls Try.prog 8 #[.int .i64 n, v] w fun e w' => ∃ g F, e = .returned (.pointer (some ⟨g, 0, none⟩)) ∧ HasDisk w' F g (madeD n (l.take 60)) ∧ (∀ k, F k → w.heap.size ≤ k) ∧ Below w.heap.size w w' := by
  have hv' := hv
  obtain ⟨A, c, rfl, hlc, hc, hops⟩ := hv'
  have d1 : decide ((40 : Int) < n) = false := by simp; omega
  have HOPS := Lib.hid hops
  clear hops
  go_enter Try.func8, Try.ntmps8
  go_wp2_with fail
  refine (new_h w n h1 (by omega)).mono ?_
  rintro e w1 ⟨g, F, rfl, hd, hF, b0⟩
  have HD := Lib.hid hd; have HF := Lib.hid hF; have B0 := Lib.hid b0; clear hd hF b0
  go_wp2_with fail
  go_loopw [7, 19] (fun i i2 wr => ∃ (k : Nat) (F : Nat → Prop), k ≤ l.length ∧ k ≤ 60 ∧ i = .int .i64 k ∧ Hid (HasDisk wr F g (madeD n (l.take k))) ∧ Hid (∀ k, F k → w.heap.size ≤ k) ∧ Hid (Below w.heap.size w wr)) (fun i _ _ => l.length - (intOf i).toNat)
  case atStart => exact ⟨0, F, Nat.zero_le _, by decide, rfl, HD, HF, B0⟩
  case round =>
    obtain ⟨k, Fk, hk, hk6, rfl, HDk, HFk, HBk⟩ := hrel
    clear HD HF B0
    by_cases hlt : k < l.length ∧ k < 60
    · obtain ⟨hl1, hl2⟩ := hlt
      obtain ⟨b, off, rfl, ho⟩ := HOPS.out (by omega)
      obtain ⟨c0, c1, c2, c3, c4, c5⟩ := (ho.below HBk.out) k hl1
      have few : Hid (Few k (madeD n (l.take k))) := by
        have := Few.made n (l.take k)
        rw [List.length_take, Nat.min_eq_left hk] at this
        exact this
      have hsn := Lib.hid (made_snoc n l k hl1)
      have hl60 : (k : Int) < 60 := by omega
      have C5 := Lib.hid c5
      have hsz : Hid (w.heap.size ≤ wr.heap.size) := HBk.out.size
      have ho' : ∀ h : k < l.length, _ := fun h => ho k h
      clear c5 hv
      obtain ⟨D, hD⟩ : ∃ D, D = madeD n (l.take k) := ⟨_, rfl⟩
      rw [← hD] at few hsn HDk
      clear hD
      obtain ⟨o, hoo⟩ : ∃ o, o = l[k] := ⟨_, rfl⟩
      rw [← hoo] at c0 c1 c2 c3 c4 hsn C5
      have hoo' := Lib.hid hoo
      clear hoo
      unfold OpV.pv at c4 C5
      by_cases k0 : o.kind = 0
      · rw [k0] at c0
        have hst : Hid (madeStep D o = D.write o.at_ o.text) := by unfold Hid madeStep; rw [if_pos k0]
        clear k0
        go_wp2_with fail
        have hbb : b < w.heap.size := by
          have := World.block_lt_of_cell? _ _ ((ho' hl1).1)
          exact this
        refine wp_region_flag (fun w' => w'.cell? ⟨b, off + k * 5 + 1, none⟩ = some (.int .i64 o.at_)) [(0, 1), (1, 1), (2, 1), (3, 1), (4, 1), (6, 1), (7, 1), (8, 1), (5, 2), (9, 0), (10, 0), (11, 0)] (by kernel_rfl) (by kernel_rfl) c1 ?_
        simp only [ordered, List.map_cons, List.map_nil, List.getD_cons_zero, List.getD_cons_succ]
        repeat (refine wpF_dry (fun K hK => ?_); go_simp; refine hK _ ?_; clear hK K)
        refine wpF_read (.int .i64 o.at_) rfl (fun w' hS => ?_) (fun K hK => ?_)
        · go_simp
        go_simp
        refine hK _ ?_
        clear hK K
        refine wpF_do ?_
        go_wp2_with fail
        refine ⟨c1, ?_⟩
        refine wpF_do ?_
        go_wp2_with fail
        refine (filled_any wr.drew _ _ o.long o.fill _ _ _).mono ?_
        rintro e w2 ⟨rfl, b2⟩
        have B2 := Lib.hid b2
        have q1 : w2.cell? ⟨b, off + k * 5 + 1, none⟩ = some (.int .i64 o.at_) := cell_below b2 c1
        clear b2
        go_wp2_with fail
        refine ⟨q1, ?_⟩
        refine wpF_do ?_
        go_wp2_with fail
        refine (write_h (HDk.out.drew.below B2.out) _ _ (by rw [Dk.rep_size]; have := filledN_le o.long; omega) (by have := few.out.waits; omega) (by have := few.out.writes; omega)).mono ?_
        rintro e w3 ⟨rfl, F3, h3⟩
        have q2 : w3.cell? ⟨b, off + k * 5 + 1, none⟩ = some (.int .i64 o.at_) := cell_keep h3.touch q1 (fun hf => by have : w.heap.size ≤ b := HFk.out b hf; omega)
        have H3 := Lib.hid h3
        clear h3
        go_wp2_with fail
        refine ⟨q2, ?_⟩
        refine wpF_nil ?_
        clear q1 q2 c0 c1 c2 c3 c4
        go_wp2
        go_roundw
        case rel =>
          refine ⟨k + 1, F3, by omega, by omega, by go_num, ?_, H3.out.above HFk.out (Nat.le_trans hsz.out B2.out.size), H3.out.bel ((HBk.out.drew).trans (B2.out.mono hsz.out)) (Nat.le_trans hsz.out B2.out.size) HFk.out⟩
          rw [hsn.out, hst.out]
          exact H3.out.has
        case measure => simp [intOf]; omega
      · have z0 : (o.kind == 0) = false := by simpa using k0
        by_cases k1 : o.kind = 1
        · have hst : Hid (madeStep D o = D.flush) := by unfold Hid madeStep; rw [if_neg k0, if_pos k1]
          rw [k1] at c0
          clear k0 k1 z0
          go_wp2_with fail
          refine (flush_h HDk.out (by have := few.out.waits; omega)).mono ?_
          rintro e w3 ⟨rfl, F3, h3⟩
          have H3 := Lib.hid h3
          clear h3 c0 c1 c2 c3 c4
          go_wp2
          go_roundw
          case rel =>
            refine ⟨k + 1, F3, by omega, by omega, by go_num, ?_, H3.out.above HFk.out hsz.out, H3.out.bel HBk.out hsz.out HFk.out⟩
            rw [hsn.out, hst.out]
            exact H3.out.has
          case measure => simp [intOf]; omega
        · have z1 : (o.kind == 1) = false := by simpa using k1
          by_cases k4 : o.kind = 4
          · by_cases kp : o.picks.length ≤ 300
            · have hst : Hid (madeStep D o = (D.fail o.picks).start) := by unfold Hid madeStep; rw [if_neg k0, if_neg k1, if_pos k4, if_pos kp]
              have hp : decide (o.picks.length ≤ 300) = true := by simpa using kp
              rw [k4] at c0
              clear k0 k1 z0 z1 k4
              go_wp2_with fail
              refine (light_all wr 4 o.at_ o.long o.fill o.pA o.picks.length o.pc).mono ?_
              rintro e w2 ⟨rfl, b2⟩
              rw [hp]
              have HD2 := Lib.hid (HDk.out.below b2)
              have hsz2 : Hid (w.heap.size ≤ w2.heap.size) := Nat.le_trans hsz.out b2.size
              have HB2 : Hid (Below w.heap.size w w2) := HBk.out.trans (b2.mono hsz.out)
              have q0 := cell_below b2 c4
              have Q5 : Hid (RdB w2 _ _) := Rd.below C5.out b2
              have HR : Hid (RdB w (.slice o.pA o.picks.length o.pc) o.picks) := by
                have := (ho' hl1).2.2.2.2.2
                rw [← hoo'.out] at this
                exact this
              clear b2 c0 c1 c2 c3 c4
              go_wp2_with fail
              refine (fail_h HD2.out (by have := few.out.waits; omega) _ o.picks Q5.out (HR.out.far (Nat.le_refl _) HFk.out)).mono ?_
              rintro e w3 ⟨rfl, F3, h3⟩
              have HB3 : Hid (Below w.heap.size w w3) := h3.bel HB2.out hsz2.out HFk.out
              have HF3 : Hid (∀ k, F3 k → w.heap.size ≤ k) := h3.above HFk.out hsz2.out
              have HD3 := Lib.hid h3.has
              clear h3
              go_wp2_with fail
              refine (start_h HD3.out).mono ?_
              rintro e w4 ⟨rfl, F4, h4⟩
              have H4 := Lib.hid h4
              clear h4
              go_wp2
              go_roundw
              case rel =>
                refine ⟨k + 1, F4, by omega, by omega, by go_num, ?_, H4.out.above HF3.out HB3.out.size, H4.out.bel HB3.out HB3.out.size HF3.out⟩
                rw [hsn.out, hst.out]
                exact H4.out.has
              case measure => simp [intOf]; omega
            · have hst : Hid (madeStep D o = D) := by unfold Hid madeStep; rw [if_neg k0, if_neg k1, if_pos k4, if_neg kp]
              have hp : decide (o.picks.length ≤ 300) = false := by simpa using kp
              rw [k4] at c0
              clear k0 k1 z0 z1 k4
              go_wp2_with fail
              refine (light_all wr 4 o.at_ o.long o.fill o.pA o.picks.length o.pc).mono ?_
              rintro e w2 ⟨rfl, b2⟩
              rw [hp]
              have HD2 := Lib.hid (HDk.out.below b2)
              have HB2 : Hid (Below w.heap.size w w2) := HBk.out.trans (b2.mono hsz.out)
              clear b2 c0 c1 c2 c3 c4
              go_wp2
              go_roundw
              case rel =>
                refine ⟨k + 1, Fk, by omega, by omega, by go_num, ?_, HFk, HB2⟩
                rw [hsn.out, hst.out]
                exact HD2
              case measure => simp [intOf]; omega
          · have z4 : (o.kind == 4) = false := by simpa using k4
            have hst : Hid (madeStep D o = D) := by unfold Hid madeStep; rw [if_neg k0, if_neg k1, if_neg k4]
            clear k0 k1 k4
            go_wp2
            go_roundw
            case rel =>
              refine ⟨k + 1, Fk, by omega, by omega, by go_num, ?_, HFk, HBk⟩
              rw [hsn.out, hst.out]
              exact HDk
            case measure => simp [intOf]; omega
    · by_cases hl1 : k < l.length
      · have hk60 : Hid (l.take 60 = l.take k) := by unfold Hid; rw [show k = 60 by omega]
        have h6 : decide ((k : Int) < 60) = false := by simp; omega
        clear hlt
        go_wp2
        go_ret
        exact ⟨g, Fk, rfl, by rw [hk60.out]; exact HDk.out, HFk.out, HBk.out⟩
      · have hk60 : Hid (l.take 60 = l.take k) := by unfold Hid; rw [List.take_of_length_le (by omega), List.take_of_length_le (by omega)]
        have h6 : decide (k < l.length) = false := by simpa using hl1
        clear hlt
        go_wp2
        go_ret
        exact ⟨g, Fk, rfl, by rw [hk60.out]; exact HDk.out, HFk.out, HBk.out⟩
end Go.Proofs.Ytfkonndbgmmckaa
