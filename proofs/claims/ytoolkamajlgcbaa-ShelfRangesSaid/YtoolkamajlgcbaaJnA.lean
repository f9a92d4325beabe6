/- JnA: the walks of the journal's small functions: Need, own, flushed, lay, look, Pages, Read. -/
import Derived.Test.YtoolkamajlgcbaaJnP
import Derived.Test.YtoolkamajlgcbaaJdS
import Derived.BigQuiet
import Derived.BigCall
import Derived.WalkSpells
import Derived.WalkLawsBesides
import Derived.Laws.AppendOwnNone
import Derived.Deep.OwnRows
import Derived.Laws.OwnMore
set_option linter.unusedVariables false
set_option linter.unusedSimpArgs false
namespace Go.Proofs.Ytoolkamajlgcbaa
open Go.RowKit

theorem DTo.self {w : World} {F : Nat → Prop} {g : Nat} {d : Dk} (h : HasDisk w F g d) : DTo w F g d w F := ⟨h, fun k hk => .inl hk, Touch.refl _ _⟩
theorem DTo.then {w w1 w2 : World} {F F1 F2 : Nat → Prop} {g : Nat} {d1 d2 : Dk} (h : DTo w F g d1 w1 F1) (k : DTo w1 F1 g d2 w2 F2) : DTo w F g d2 w2 F2 :=
  ⟨k.has, fun j hj => (k.new j hj).elim (h.new j) (fun x => .inr (Nat.le_trans h.touch.size x)), h.touch.trans k.touch (fun j hj hk => (h.new j hk).elim id (fun x => absurd hj (by omega)))⟩
theorem DTo.pre {w w1 w2 : World} {F F2 : Nat → Prop} {g : Nat} {d2 : Dk} (hb : Below w.heap.size w w1) (k : DTo w1 F g d2 w2 F2) : DTo w F g d2 w2 F2 :=
  ⟨k.has, fun j hj => (k.new j hj).imp id (fun x => Nat.le_trans hb.size x), (Touch.of_below hb : Touch F w w1).trans k.touch (fun _ _ h => h)⟩
theorem DTo.post {w w1 w2 : World} {F F1 : Nat → Prop} {g : Nat} {d : Dk} (h : DTo w F g d w1 F1) (hb : Below w1.heap.size w1 w2) : DTo w F g d w2 F1 :=
  ⟨h.has.below hb, h.new, h.touch.trans (Touch.of_below hb : Touch (fun _ => False) w1 w2) (fun _ _ x => x.elim)⟩
/-- The journal behind a pointer. -/
def Jb (w : World) (gj g P : Nat) : Prop := w.heap[gj]? = some (.cells #[.pointer (some ⟨g, 0, none⟩), .int .i64 (P : Int)] 89 (0, 0))
theorem Jb.below {w w' : World} {gj g P : Nat} (h : Jb w gj g P) (hb : Below w.heap.size w w') : Jb w' gj g P := (hb.block gj (lt_of_block h)).trans h
theorem Jb.touch {S : Nat → Prop} {w w' : World} {gj g P : Nat} (h : Jb w gj g P) (ht : Touch S w w') (hS : ¬ S gj) : Jb w' gj g P := blk_touch ht h hS
theorem Jb.cells {w : World} {gj g P : Nat} (h : Jb w gj g P) : w.cell? ⟨gj, 0, none⟩ = some (.pointer (some ⟨g, 0, none⟩)) ∧ w.cell? ⟨gj, 1, none⟩ = some (.int .i64 (P : Int)) := by
  have c0 := blk_cell h 0; have c1 := blk_cell h 1
  simp only [List.getElem?_toArray, List.getElem?_cons_zero, List.getElem?_cons_succ] at c0 c1
  exact ⟨c0, c1⟩
def needN (p : Int) : Int := if p < 1 ∨ 128 < p then 0 else 8 * p + 1
theorem need_any (w : World) (p : Int) : Calls Try.prog 63 #[.int .i64 p] w fun e w' => e = .returned (.int .i64 (needN p)) ∧ w = w' := by
  unfold needN
  by_cases h1 : p < 1
  · have d1 : decide (p < 1) = true := by simpa using h1
    rw [if_pos (.inl h1)]
    go_enter Try.func63, Try.ntmps63
    go_wp2
    go_ret
    exact ⟨rfl, rfl⟩
  · by_cases h2 : 128 < p
    · have d1 : decide (p < 1) = false := by simpa using h1
      have d2 : decide (128 < p) = true := by simpa using h2
      rw [if_pos (.inr h2)]
      go_enter Try.func63, Try.ntmps63
      go_wp2
      go_ret
      exact ⟨rfl, rfl⟩
    · have d1 : decide (p < 1) = false := by simpa using h1
      have d2 : decide (128 < p) = false := by simpa using h2
      rw [if_neg (by omega)]
      go_enter Try.func63, Try.ntmps63
      go_wp2
      go_ret
      exact ⟨rfl, rfl⟩
theorem own_any (w : World) (gj g P : Nat) (h : Jb w gj g P) (hP : P ≤ 128) (i : Nat) (hi : i ≤ 128) : Calls Try.prog 53 #[.pointer (some ⟨gj, 0, none⟩), .int .i64 (i : Int)] w fun e w' => e = .returned (.int .i64 (1 + 4 * ((P : Int) + i))) ∧ w = w' := by
  obtain ⟨_, c1⟩ := h.cells
  clear h
  go_enter Try.func53, Try.ntmps53
  go_wp2
  go_ret
  exact ⟨rfl, rfl⟩
theorem flushed_any (w : World) (F : Nat → Prop) (gj g P : Nat) (d : Dk) (h : HasDisk w F g d) (hj : Jb w gj g P) (hf : Fw 0 d) (x : Int) :
    Calls Try.prog 49 #[.pointer (some ⟨gj, 0, none⟩), .int .i64 x] w fun e w' => e = .returned (.int .i64 (if x = 0 then d.use 0 else x)) ∧ ∃ F', DTo w F g (if x = 0 then d.flush else d) w' F' := by
  obtain ⟨c0, _⟩ := hj.cells
  have HD := Lib.hid h
  have FL := Lib.hid (flush_h h (by have := hf.w; omega))
  clear h hj hf
  by_cases hx : x = 0
  · subst hx
    simp only [if_pos]
    go_enter Try.func49, Try.ntmps49
    go_wp2_with fail
    refine FL.out.mono ?_
    rintro e w1 ⟨rfl, F1, ht⟩
    have HT := Lib.hid ht
    clear ht FL
    go_wp2
    go_ret
    exact ⟨rfl, F1, HT.out⟩
  · have d1 : (x != 0) = true := by simpa using hx
    rw [if_neg hx, if_neg hx]
    clear hx
    go_enter Try.func49, Try.ntmps49
    go_wp2
    go_ret
    exact ⟨rfl, F, DTo.self HD.out⟩
/-- What steps leave. -/
def JTo (w : World) (F : Nat → Prop) (g : Nat) (d : Dk) (l : List Stp) (e : Ending) (w' : World) : Prop := e = .returned (.int .i64 (run d l).2) ∧ ∃ F', DTo w F g (run d l).1 w' F'
theorem cut4_size {s : ByteArray} (hs : s.size = 1024) {k : Nat} (hk : k < 4) : (cut4 s k).size = 256 := by unfold cut4; rw [ByteArray.size_extract]; omega
set_option maxHeartbeats 1600000 in
theorem lay_any (w : World) (F : Nat → Prop) (gj g P : Nat) (d : Dk) (h : HasDisk w F g d) (hj : Jb w gj g P) (hF : ¬ F gj) (hf : Fw 4 d) (p : Nat) (hp : p ≤ 4096) (s : ByteArray) (hs : s.size = 1024) :
    Calls Try.prog 68 #[.pointer (some ⟨gj, 0, none⟩), .int .i64 (p : Int), .string s] w fun e w' => JTo w F g d (laid p s) e w' := by
  have H0 : Hid (DTo w F g d w F) := DTo.self h
  have HJ := Lib.hid hj; have HS := Lib.hid hs; have HF := Lib.hid hF; have FW := Lib.hid hf
  have hs2 : s.size ≤ 1024 := by omega
  clear h hj hF hf hs
  go_enter Try.func68, Try.ntmps68
  go_wp2_with fail
  go_loopw [9] (fun i wr => ∃ (k : Nat) (F' : Nat → Prop), k ≤ 4 ∧ i = .int .i64 k ∧ Hid ((run d (layK p s k)).2 = 0) ∧ Hid (DTo w F g (run d (layK p s k)).1 wr F')) (fun i _ => 4 - (intOf i).toNat)
  case atStart => exact ⟨0, F, by decide, rfl, rfl, H0⟩
  case round =>
    obtain ⟨k, F', hk, rfl, he, ht⟩ := hrel
    by_cases hlt : k < 4
    · have hjb : Jb wr.drew gj g P := (HJ.out.touch ht.out.touch HF.out).below (Below.refl _ wr).drew
      obtain ⟨c0, _⟩ := hjb.cells
      have RS := Lib.hid (run_snoc he.out (((p + k : Nat) : Int), cut4 s k))
      have LK : Hid (layK (p : Int) s (k + 1) = layK (p : Int) s k ++ [(((p + k : Nat) : Int), cut4 s k)]) := by unfold Hid; rw [layK]; congr 2
      have FW2 : Hid (Fw (4 - k) (run d (layK p s k)).1) := fw_run _ (FW.out.mono (by rw [layK_len]; omega))
      have CS := Lib.hid (cut4_size HS.out hlt)
      have hex : s.extract (k * 256) ((k + 1) * 256) = cut4 s k := by unfold cut4; congr 1 <;> omega
      have hex2 := Lib.hid hex
      generalize hD : (run d (layK p s k)).1 = D at ht RS FW2
      have WR := Lib.hid (write_h (ht.out.has.drew) ((p + k : Nat) : Int) (cut4 s k) (by rw [CS.out]; decide) (by have := FW2.out.w; omega) (by have := FW2.out.c; omega))
      obtain ⟨q, hq⟩ : ∃ q : Nat, q = p + k := ⟨_, rfl⟩
      obtain ⟨a, ha⟩ : ∃ a : Nat, a = k * 256 := ⟨_, rfl⟩
      obtain ⟨b, hb⟩ : ∃ b : Nat, b = (k + 1) * 256 := ⟨_, rfl⟩
      rw [← hq] at WR RS LK
      rw [← ha, ← hb] at hex
      have e1 : (p : Int) + (k : Int) = (q : Int) := by omega
      have e2 : IntKind.i64.wrap (q : Int) = (q : Int) := by rw [IntKind.wrap_i64]; omega
      have e3 : (k : Int) * 256 = (a : Int) := by omega
      have e4 : IntKind.i64.wrap (a : Int) = (a : Int) := by rw [IntKind.wrap_i64]; omega
      have e5 : IntKind.i64.wrap ((k : Int) + 1) = (k : Int) + 1 := by rw [IntKind.wrap_i64]; omega
      have e6 : ((k : Int) + 1) * 256 = (b : Int) := by omega
      have e7 : IntKind.i64.wrap (b : Int) = (b : Int) := by rw [IntKind.wrap_i64]; omega
      have hab : a ≤ b := by omega
      have hbs : b ≤ s.size := by have := HS.out; omega
      clear hD hjb hq ha hb
      have SD : Hid (step D ((q : Int), cut4 s k) = D.write (q : Int) (cut4 s k)) := by unfold Hid step; rw [if_neg (by simp)]
      have SE : Hid (stepE D ((q : Int), cut4 s k) = D.writeE (q : Int) (cut4 s k)) := by unfold Hid stepE; rw [if_neg (by simp)]
      rw [SD.out, SE.out] at RS
      by_cases hw : D.writeE (q : Int) (cut4 s k) = 0
      · have HW := Lib.hid hw
        rw [hw] at RS WR
        clear hw
        go_wp2_with fail
        refine wp_region_flag (fun w' => w'.cell? ⟨gj, 0, none⟩ = some (.pointer (some ⟨g, 0, none⟩))) [(0, 1), (1, 1), (2, 1), (4, 1), (5, 1), (6, 1), (7, 1), (8, 1), (9, 1), (10, 1), (11, 1), (12, 1), (13, 1), (3, 0), (14, 0), (15, 1)] (by kernel_rfl) (by kernel_rfl) c0 ?_
        simp only [ordered, List.map_cons, List.map_nil, List.getD_cons_zero, List.getD_cons_succ]
        repeat (refine wpF_dry (fun K hK => ?_); go_simp; refine hK _ ?_; clear hK K)
        refine wpF_do ?_
        go_wp2_with fail
        refine ⟨c0, ?_⟩
        refine wpF_do ?_
        go_wp2_with fail
        refine WR.out.mono ?_
        rintro e w4 ⟨rfl, F4, ht4⟩
        have T4 : Hid (DTo w F g (D.write (q : Int) (cut4 s k)) w4 F4) := (ht.out.post (Below.refl _ wr).drew).then ht4
        have c4 := (HJ.out.touch T4.out.touch HF.out).cells.1
        clear ht4 WR c0
        go_wp2_with fail
        refine ⟨c4, ?_⟩
        repeat (refine wpF_dry (fun K hK => ?_); go_simp; refine hK _ ?_; clear hK K)
        refine wpF_nil ?_
        have R4 : Hid ((run d (layK (p : Int) s (k + 1))).2 = 0) := by unfold Hid; rw [LK.out, RS.out]
        have T5 : Hid (DTo w F g (run d (layK (p : Int) s (k + 1))).1 w4 F4) := by unfold Hid; rw [LK.out, RS.out]; exact T4.out
        go_wp2
        go_roundw
        case rel => exact ⟨k + 1, F4, by omega, by go_num, R4, T5⟩
        case measure => simp [intOf]; omega
      · have R4 : Hid (run d (laid (p : Int) s) = (D.write (q : Int) (cut4 s k), D.writeE (q : Int) (cut4 s k))) := by
          obtain ⟨r, hr⟩ := layK_more (p : Int) s 4 (k + 1) (by omega)
          unfold Hid
          rw [show laid (p : Int) s = layK p s 4 from rfl, hr, run_stop (by rw [LK.out, RS.out]; exact hw), LK.out, RS.out]
        generalize hwe : D.writeE (q : Int) (cut4 s k) = we at hw R4 WR
        have d0 : (we != 0) = true := by simpa using hw
        clear hw hwe RS SE
        go_wp2_with fail
        refine wp_region_flag (fun w' => w'.cell? ⟨gj, 0, none⟩ = some (.pointer (some ⟨g, 0, none⟩))) [(0, 1), (1, 1), (2, 1), (4, 1), (5, 1), (6, 1), (7, 1), (8, 1), (9, 1), (10, 1), (11, 1), (12, 1), (13, 1), (3, 0), (14, 0), (15, 1)] (by kernel_rfl) (by kernel_rfl) c0 ?_
        simp only [ordered, List.map_cons, List.map_nil, List.getD_cons_zero, List.getD_cons_succ]
        repeat (refine wpF_dry (fun K hK => ?_); go_simp; refine hK _ ?_; clear hK K)
        refine wpF_do ?_
        go_wp2_with fail
        refine ⟨c0, ?_⟩
        refine wpF_do ?_
        go_wp2_with fail
        refine WR.out.mono ?_
        rintro e w4 ⟨rfl, F4, ht4⟩
        have T4 : Hid (DTo w F g (D.write (q : Int) (cut4 s k)) w4 F4) := (ht.out.post (Below.refl _ wr).drew).then ht4
        have c4 := (HJ.out.touch T4.out.touch HF.out).cells.1
        clear ht4 WR c0
        go_wp2_with fail
        refine ⟨c4, ?_⟩
        repeat (refine wpF_dry (fun K hK => ?_); go_simp; refine hK _ ?_; clear hK K)
        refine wpF_nil ?_
        go_wp2
        go_ret
        exact ⟨by rw [R4.out]; rfl, F4, by rw [R4.out]; exact T4.out⟩
    · obtain rfl : k = 4 := by omega
      go_wp2
      go_ret
      exact ⟨by rw [show laid (p : Int) s = layK p s 4 from rfl, he.out]; rfl, F', ht.out⟩
end Go.Proofs.Ytoolkamajlgcbaa
