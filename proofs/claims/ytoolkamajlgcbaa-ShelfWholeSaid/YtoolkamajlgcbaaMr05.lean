/- Sep: several things that a call owns, in blocks that are apart. -/
import Derived.Test.YtoolkamajlgcbaaMr04
import Derived.BigQuiet
import Derived.BigCall
import Derived.WalkSpells
import Derived.WalkLawsBesides
import Derived.Laws.AppendOwnNone
import Derived.Deep.OwnRows
import Derived.Laws.OwnMore
import Derived.Lib.AppendStr
import Derived.Lib.EndianBits
set_option linter.unusedVariables false
set_option linter.unusedSimpArgs false
namespace Go.Proofs.Ytoolkamajlgcbaa
open Go.RowKit

def Stable (F : Nat → Prop) (P : World → Prop) : Prop := ∀ w w' S, P w → Touch S w w' → Disj F S → P w'
structure Part where
  F : Nat → Prop
  P : World → Prop
structure Part.Good (p : Part) (w : World) : Prop where
  P : p.P w
  lt : ∀ k, p.F k → k < w.heap.size
  st : Stable p.F p.P
def Sep (w : World) (ps : List Part) : Prop := (∀ p ∈ ps, p.Good w) ∧ ps.Pairwise (fun p q => Disj p.F q.F)
theorem Part.Good.keep {p : Part} {w w' : World} {S : Nat → Prop} (h : p.Good w) (ht : Touch S w w') (hS : Disj p.F S) : p.Good w' :=
  ⟨h.st w w' S h.P ht hS, fun k hk => Nat.lt_of_lt_of_le (h.lt k hk) ht.size, h.st⟩
theorem Sep.nil (w : World) : Sep w [] := ⟨fun p hp => by simp at hp, List.Pairwise.nil⟩
theorem Sep.below {w w' : World} {ps : List Part} (h : Sep w ps) (hb : Below w.heap.size w w') : Sep w' ps :=
  ⟨fun p hp => (h.1 p hp).keep (S := fun _ => False) (Touch.of_below hb) (fun _ _ x => x), h.2⟩
theorem Sep.drew {w : World} {ps : List Part} (h : Sep w ps) : Sep w.drew ps := h.below (Below.refl _ w).drew
theorem Sep.get {w : World} {l1 l2 : List Part} {p : Part} (h : Sep w (l1 ++ p :: l2)) : p.Good w := h.1 p (by simp)
theorem Sep.step {w w' : World} {l1 l2 : List Part} {p p' : Part} (h : Sep w (l1 ++ p :: l2)) (ht : Touch p.F w w') (hn : ∀ k, p'.F k → p.F k ∨ w.heap.size ≤ k) (hg : p'.Good w') : Sep w' (l1 ++ p' :: l2) := by
  obtain ⟨h1, h2⟩ := h
  rw [List.pairwise_append, List.pairwise_cons] at h2
  obtain ⟨a1, ⟨a2, a3⟩, a4⟩ := h2
  refine ⟨fun q hq => ?_, ?_⟩
  · rcases List.mem_append.1 hq with hq | hq
    · exact (h1 q (by simp [hq])).keep ht (a4 q hq p (by simp))
    · rcases List.mem_cons.1 hq with rfl | hq
      · exact hg
      · exact (h1 q (by simp [hq])).keep ht ((a2 q hq).symm)
  · rw [List.pairwise_append, List.pairwise_cons]
    refine ⟨a1, ⟨fun q hq k hk hqk => ?_, a3⟩, fun q hq r hr k hk hrk => ?_⟩
    · rcases hn k hk with hp | hp
      · exact a2 q hq k hp hqk
      · have := (h1 q (by simp [hq])).lt k hqk; omega
    · rcases List.mem_cons.1 hr with rfl | hr
      · rcases hn k hrk with hp | hp
        · exact a4 q hq p (by simp) k hk hp
        · have := (h1 q (by simp [hq])).lt k hk; omega
      · exact a4 q hq r (by simp [hr]) k hk hrk
theorem Sep.new {w w' : World} {ps : List Part} {p : Part} (h : Sep w ps) (hb : Below w.heap.size w w') (hn : ∀ k, p.F k → w.heap.size ≤ k) (hg : p.Good w') : Sep w' (p :: ps) := by
  have h' := h.below hb
  refine ⟨fun q hq => ?_, ?_⟩
  · rcases List.mem_cons.1 hq with rfl | hq
    · exact hg
    · exact h'.1 q hq
  · rw [List.pairwise_cons]
    exact ⟨fun q hq k hk hqk => by have := (h.1 q hq).lt k hqk; have := hn k hk; omega, h.2⟩
theorem Sep.drop {w : World} {l1 l2 : List Part} {p : Part} (h : Sep w (l1 ++ p :: l2)) : Sep w (l1 ++ l2) := by
  refine ⟨fun q hq => h.1 q (by rcases List.mem_append.1 hq with hq | hq <;> simp [hq]), ?_⟩
  exact h.2.sublist (List.Sublist.append_left (List.sublist_cons_self p l2) l1)

/-- A disk. -/
def dk (F : Nat → Prop) (g : Nat) (d : Dk) : Part := ⟨F, fun w => HasDisk w F g d⟩
theorem dk_st (F : Nat → Prop) (g : Nat) (d : Dk) : Stable F (fun w => HasDisk w F g d) := fun w w' S h ht hS => h.keep ht hS
theorem dk_good {w : World} {F : Nat → Prop} {g : Nat} {d : Dk} (h : HasDisk w F g d) : (dk F g d).Good w := ⟨h, h.lt, dk_st F g d⟩
theorem Sep.dk {w w' : World} {l1 l2 : List Part} {F F' : Nat → Prop} {g : Nat} {d d' : Dk} (h : Sep w (l1 ++ dk F g d :: l2)) (ht : DTo w F g d' w' F') : Sep w' (l1 ++ Go.Proofs.Ytoolkamajlgcbaa.dk F' g d' :: l2) :=
  h.step ht.touch ht.new (dk_good ht.has)
/-- A row of texts. -/
def rw_ (v : Value) (l : List ByteArray) : Part := ⟨fun k => v.ownBlock = some k, fun w => ∃ b, w.ownsRow b 9 1 v l.length (strs l)⟩
theorem rw_good {w : World} {b : Nat} {v : Value} {l : List ByteArray} (h : w.ownsRow b 9 1 v l.length (strs l)) : (rw_ v l).Good w :=
  ⟨⟨b, h⟩, fun k hk => (h.lt k hk).2, fun w w' S ⟨b, h⟩ ht hS => ⟨b, own_touch h ht (fun k hk => hS k hk)⟩⟩
/-- What all of them lie above. -/
structure Mine (w0 w : World) (ps : List Part) : Prop where
  sep : Sep w ps
  bel : Below w0.heap.size w0 w
  abv : ∀ p ∈ ps, ∀ k, p.F k → w0.heap.size ≤ k
theorem Mine.start (w : World) : Mine w w [] := ⟨Sep.nil w, Below.refl _ _, fun p hp => by simp at hp⟩
theorem Mine.below {w0 w w' : World} {ps : List Part} (h : Mine w0 w ps) (hb : Below w.heap.size w w') : Mine w0 w' ps := ⟨h.sep.below hb, h.bel.trans (hb.mono h.bel.size), h.abv⟩
theorem Mine.drew {w0 w : World} {ps : List Part} (h : Mine w0 w ps) : Mine w0 w.drew ps := h.below (Below.refl _ w).drew
theorem Mine.dk {w0 w w' : World} {l1 l2 : List Part} {F F' : Nat → Prop} {g : Nat} {d d' : Dk} (h : Mine w0 w (l1 ++ Go.Proofs.Ytoolkamajlgcbaa.dk F g d :: l2)) (ht : DTo w F g d' w' F') : Mine w0 w' (l1 ++ Go.Proofs.Ytoolkamajlgcbaa.dk F' g d' :: l2) := by
  have hF : ∀ k, F k → w0.heap.size ≤ k := h.abv (Go.Proofs.Ytoolkamajlgcbaa.dk F g d) (by simp)
  refine ⟨h.sep.dk ht, h.bel.trans (ht.touch.below h.bel.size hF), fun p hp k hk => ?_⟩
  rcases List.mem_append.1 hp with hp | hp
  · exact h.abv p (by simp [hp]) k hk
  · rcases List.mem_cons.1 hp with rfl | hp
    · rcases ht.new k hk with hk | hk
      · exact hF k hk
      · have := h.bel.size; omega
    · exact h.abv p (by simp [hp]) k hk
theorem Mine.new {w0 w w' : World} {ps : List Part} {p : Part} (h : Mine w0 w ps) (hb : Below w.heap.size w w') (hn : ∀ k, p.F k → w.heap.size ≤ k) (hg : p.Good w') : Mine w0 w' (p :: ps) :=
  ⟨h.sep.new hb hn hg, h.bel.trans (hb.mono h.bel.size), fun q hq k hk => by
    rcases List.mem_cons.1 hq with rfl | hq
    · exact Nat.le_trans h.bel.size (hn k hk)
    · exact h.abv q hq k hk⟩
theorem Mine.get {w0 w : World} {l1 l2 : List Part} {F : Nat → Prop} {g : Nat} {d : Dk} (h : Mine w0 w (l1 ++ Go.Proofs.Ytoolkamajlgcbaa.dk F g d :: l2)) : HasDisk w F g d := (Sep.get (p := Go.Proofs.Ytoolkamajlgcbaa.dk F g d) h.sep).P
theorem Mine.row {w0 w : World} {l1 l2 : List Part} {v : Value} {l : List ByteArray} (h : Mine w0 w (l1 ++ rw_ v l :: l2)) : ∃ b, w.ownsRow b 9 1 v l.length (strs l) := (Sep.get (p := rw_ v l) h.sep).P
theorem Mine.newRow {w0 w w' : World} {ps : List Part} {v : Value} {l : List ByteArray} (h : Mine w0 w ps) (hb : Below w.heap.size w w') (ho : w'.ownsRow w.heap.size 9 1 v l.length (strs l)) : Mine w0 w' (rw_ v l :: ps) :=
  h.new hb (fun k hk => (ho.lt k hk).1) (rw_good ho)
theorem Mine.newDk {w0 w w' : World} {ps : List Part} {F : Nat → Prop} {g : Nat} {d : Dk} (h : Mine w0 w ps) (hb : Below w.heap.size w w') (hd : HasDisk w' F g d) (hF : ∀ k, F k → w.heap.size ≤ k) : Mine w0 w' (Go.Proofs.Ytoolkamajlgcbaa.dk F g d :: ps) :=
  h.new hb hF (dk_good hd)
theorem Mine.touch {w0 w w' : World} {ps : List Part} {S : Nat → Prop} (h : Mine w0 w ps) (ht : Touch S w w') (hS : ∀ p ∈ ps, Disj p.F S) (hB : ∀ k, S k → w0.heap.size ≤ k) : Mine w0 w' ps :=
  ⟨⟨fun p hp => (h.sep.1 p hp).keep ht (hS p hp), h.sep.2⟩, h.bel.trans (ht.below h.bel.size hB), h.abv⟩
theorem Mine.far {w0 w : World} {ps : List Part} (h : Mine w0 w ps) {g : Nat} (hg : w.heap.size ≤ g) : ∀ p ∈ ps, Disj p.F (fun k => k = g) := fun p hp k hk e => by
  have := (h.sep.1 p hp).lt k hk
  omega
theorem Mine.store {w0 w : World} {ps : List Part} {g : Nat} (h : Mine w0 w ps) (hS : ∀ p ∈ ps, Disj p.F (fun k => k = g)) (hB : w0.heap.size ≤ g) (j : Nat) (v : Value) : Mine w0 (w.setCell ⟨g, j, none⟩ v) ps :=
  h.touch ((Touch.refl (fun k => k = g) w).setG j v) hS (fun k e => by omega)
/-- What is read of a row of texts. -/
theorem row_at {w : World} {b : Nat} {v : Value} {l : List ByteArray} (h : w.ownsRow b 9 1 v l.length (strs l)) (hp : 0 < l.length) : ∃ g c, v = .slice (some ⟨g, 0, none⟩) l.length c ∧ ∀ k, k < l.length → w.cell? ⟨g, k, none⟩ = some (.string (l.getD k ByteArray.empty)) := by
  rcases h.2 with ⟨_, h0⟩ | ⟨g, c, cur, rfl, _⟩
  · omega
  · refine ⟨g, c, rfl, fun k hk => (h.cellAt k (by omega)).trans ?_⟩
    simp [strs, List.getElem?_map, List.getElem?_eq_getElem hk]
/-- Bools of the call's own. -/
theorem bools_read {w : World} {b g c : Nat} {l : List Bool} (h : w.ownsRow b 4 1 (.slice (some ⟨g, 0, none⟩) l.length c) l.length (l.map Value.bool)) (hn : l.length ≤ 9223372036854775807) : RdB w (.slice (some ⟨g, 0, none⟩) l.length c) l := by
  refine ⟨by simp, _, c, rfl, ?_, hn, fun _ => ⟨_, rfl, fun j u hj => h.cells (g := g) rfl j u hj⟩⟩
  rcases h.2 with ⟨e, _⟩ | ⟨g', c', cur, e, _, _, h1, _⟩
  · cases e
  · injection e with e1 e2 e3
    omega
end Go.Proofs.Ytoolkamajlgcbaa
/- JnA: the walks of the journal's small functions: Need, own, flushed, lay, look, Pages, Read. -/
set_option linter.unusedVariables false
set_option linter.unusedSimpArgs false
namespace Go.Proofs.Ytoolkamajlgcbaa
open Go.RowKit

theorem DTo.self {w : World} {F : Nat → Prop} {g : Nat} {d : Dk} (h : HasDisk w F g d) : DTo w F g d w F := ⟨h, fun k hk => .inl hk, Touch.refl _ _⟩
theorem DTo.then {w w1 w2 : World} {F F1 F2 : Nat → Prop} {g : Nat} {d1 d2 : Dk} (h : DTo w F g d1 w1 F1) (k : DTo w1 F1 g d2 w2 F2) : DTo w F g d2 w2 F2 :=
  ⟨k.has, fun j hj => (k.new j hj).elim (h.new j) (fun x => .inr (Nat.le_trans h.touch.size x)), h.touch.trans k.touch (fun j hj hk => (h.new j hk).elim id (fun x => absurd hj (by omega)))⟩
theorem DTo.pre {w w1 w2 : World} {F F2 : Nat → Prop} {g : Nat} {d2 : Dk} (hb : Below w.heap.size w w1) (k : DTo w1 F g d2 w2 F2) : DTo w F g d2 w2 F2 :=
  ⟨k.has, fun j hj => (k.new j hj).imp id (fun x => Nat.le_trans hb.size x), (Touch.of_below hb : Touch F w w1).trans k.touch (fun _ _ h => h)⟩
theorem DTo.post {w w1 w2 : World} {F F1 : Nat → Prop} {g : Nat} {d : Dk} (h : DTo w F g d w1 F1) (hb : Below w1.heap.size w1 w2) : DTo w F g d w2 F1 :=
  ⟨h.has.below hb, h.new, h.touch.trans (Touch.of_below hb : Touch (fun _ => False) w1 w2) (fun _ _ x => x.elim)⟩
/-- The journal behind a pointer. -/
def Jb (w : World) (gj g P : Nat) : Prop := w.heap[gj]? = some (.cells #[.pointer (some ⟨g, 0, none⟩), .int .i64 (P : Int)] 89 (0, 0))
theorem Jb.below {w w' : World} {gj g P : Nat} (h : Jb w gj g P) (hb : Below w.heap.size w w') : Jb w' gj g P := (hb.block gj (lt_of_block h)).trans h
theorem Jb.touch {S : Nat → Prop} {w w' : World} {gj g P : Nat} (h : Jb w gj g P) (ht : Touch S w w') (hS : ¬ S gj) : Jb w' gj g P := blk_touch ht h hS
theorem Jb.cells {w : World} {gj g P : Nat} (h : Jb w gj g P) : w.cell? ⟨gj, 0, none⟩ = some (.pointer (some ⟨g, 0, none⟩)) ∧ w.cell? ⟨gj, 1, none⟩ = some (.int .i64 (P : Int)) := by
  have c0 := blk_cell h 0; have c1 := blk_cell h 1
  simp only [List.getElem?_toArray, List.getElem?_cons_zero, List.getElem?_cons_succ] at c0 c1
  exact ⟨c0, c1⟩
def needN (p : Int) : Int := if p < 1 ∨ 128 < p then 0 else 8 * p + 1
theorem need_any (w : World) (p : Int) : Calls Try.prog 63 #[.int .i64 p] w fun e w' => e = .returned (.int .i64 (needN p)) ∧ w = w' := by
  unfold needN
  by_cases h1 : p < 1
  · have d1 : decide (p < 1) = true := by simpa using h1
    rw [if_pos (.inl h1)]
    go_enter Try.func63, Try.ntmps63
    go_wp2
    go_ret
    exact ⟨rfl, rfl⟩
  · by_cases h2 : 128 < p
    · have d1 : decide (p < 1) = false := by simpa using h1
      have d2 : decide (128 < p) = true := by simpa using h2
      rw [if_pos (.inr h2)]
      go_enter Try.func63, Try.ntmps63
      go_wp2
      go_ret
      exact ⟨rfl, rfl⟩
    · have d1 : decide (p < 1) = false := by simpa using h1
      have d2 : decide (128 < p) = false := by simpa using h2
      rw [if_neg (by omega)]
      go_enter Try.func63, Try.ntmps63
      go_wp2
      go_ret
      exact ⟨rfl, rfl⟩
theorem own_any (w : World) (gj g P : Nat) (h : Jb w gj g P) (hP : P ≤ 128) (i : Nat) (hi : i ≤ 128) : Calls Try.prog 53 #[.pointer (some ⟨gj, 0, none⟩), .int .i64 (i : Int)] w fun e w' => e = .returned (.int .i64 (1 + 4 * ((P : Int) + i))) ∧ w = w' := by
  obtain ⟨_, c1⟩ := h.cells
  clear h
  go_enter Try.func53, Try.ntmps53
  go_wp2
  go_ret
  exact ⟨rfl, rfl⟩
theorem flushed_any (w : World) (F : Nat → Prop) (gj g P : Nat) (d : Dk) (h : HasDisk w F g d) (hj : Jb w gj g P) (hf : Fw 0 d) (x : Int) :
    Calls Try.prog 49 #[.pointer (some ⟨gj, 0, none⟩), .int .i64 x] w fun e w' => e = .returned (.int .i64 (if x = 0 then d.use 0 else x)) ∧ ∃ F', DTo w F g (if x = 0 then d.flush else d) w' F' := by
  obtain ⟨c0, _⟩ := hj.cells
  have HD := Lib.hid h
  have FL := Lib.hid (flush_h h (by have := hf.w; omega))
  clear h hj hf
  by_cases hx : x = 0
  · subst hx
    simp only [if_pos]
    go_enter Try.func49, Try.ntmps49
    go_wp2_with fail
    refine FL.out.mono ?_
    rintro e w1 ⟨rfl, F1, ht⟩
    have HT := Lib.hid ht
    clear ht FL
    go_wp2
    go_ret
    exact ⟨rfl, F1, HT.out⟩
  · have d1 : (x != 0) = true := by simpa using hx
    rw [if_neg hx, if_neg hx]
    clear hx
    go_enter Try.func49, Try.ntmps49
    go_wp2
    go_ret
    exact ⟨rfl, F, DTo.self HD.out⟩
/-- What steps leave. -/
def JTo (w : World) (F : Nat → Prop) (g : Nat) (d : Dk) (l : List Stp) (e : Ending) (w' : World) : Prop := e = .returned (.int .i64 (run d l).2) ∧ ∃ F', DTo w F g (run d l).1 w' F'
theorem cut4_size {s : ByteArray} (hs : s.size = 1024) {k : Nat} (hk : k < 4) : (cut4 s k).size = 256 := by unfold cut4; rw [ByteArray.size_extract]; omega
set_option maxHeartbeats 1600000 in
theorem lay_any (w : World) (F : Nat → Prop) (gj g P : Nat) (d : Dk) (h : HasDisk w F g d) (hj : Jb w gj g P) (hF : ¬ F gj) (hf : Fw 4 d) (p : Nat) (hp : p ≤ 4096) (s : ByteArray) (hs : s.size = 1024) :
    Calls Try.prog 68 #[.pointer (some ⟨gj, 0, none⟩), .int .i64 (p : Int), .string s] w fun e w' => JTo w F g d (laid p s) e w' := by
  have H0 : Hid (DTo w F g d w F) := DTo.self h
  have HJ := Lib.hid hj; have HS := Lib.hid hs; have HF := Lib.hid hF; have FW := Lib.hid hf
  have hs2 : s.size ≤ 1024 := by omega
  clear h hj hF hf hs
  go_enter Try.func68, Try.ntmps68
  go_wp2_with fail
  go_loopw [9] (fun i wr => ∃ (k : Nat) (F' : Nat → Prop), k ≤ 4 ∧ i = .int .i64 k ∧ Hid ((run d (layK p s k)).2 = 0) ∧ Hid (DTo w F g (run d (layK p s k)).1 wr F')) (fun i _ => 4 - (intOf i).toNat)
  case atStart => exact ⟨0, F, by decide, rfl, rfl, H0⟩
  case round =>
    obtain ⟨k, F', hk, rfl, he, ht⟩ := hrel
    by_cases hlt : k < 4
    · have hjb : Jb wr.drew gj g P := (HJ.out.touch ht.out.touch HF.out).below (Below.refl _ wr).drew
      obtain ⟨c0, _⟩ := hjb.cells
      have RS := Lib.hid (run_snoc he.out (((p + k : Nat) : Int), cut4 s k))
      have LK : Hid (layK (p : Int) s (k + 1) = layK (p : Int) s k ++ [(((p + k : Nat) : Int), cut4 s k)]) := by unfold Hid; rw [layK]; congr 2
      have FW2 : Hid (Fw (4 - k) (run d (layK p s k)).1) := fw_run _ (FW.out.mono (by rw [layK_len]; omega))
      have CS := Lib.hid (cut4_size HS.out hlt)
      have hex : s.extract (k * 256) ((k + 1) * 256) = cut4 s k := by unfold cut4; congr 1 <;> omega
      have hex2 := Lib.hid hex
      generalize hD : (run d (layK p s k)).1 = D at ht RS FW2
      have WR := Lib.hid (write_h (ht.out.has.drew) ((p + k : Nat) : Int) (cut4 s k) (by rw [CS.out]; decide) (by have := FW2.out.w; omega) (by have := FW2.out.c; omega))
      obtain ⟨q, hq⟩ : ∃ q : Nat, q = p + k := ⟨_, rfl⟩
      obtain ⟨a, ha⟩ : ∃ a : Nat, a = k * 256 := ⟨_, rfl⟩
      obtain ⟨b, hb⟩ : ∃ b : Nat, b = (k + 1) * 256 := ⟨_, rfl⟩
      rw [← hq] at WR RS LK
      rw [← ha, ← hb] at hex
      have e1 : (p : Int) + (k : Int) = (q : Int) := by omega
      have e2 : IntKind.i64.wrap (q : Int) = (q : Int) := by rw [IntKind.wrap_i64]; omega
      have e3 : (k : Int) * 256 = (a : Int) := by omega
      have e4 : IntKind.i64.wrap (a : Int) = (a : Int) := by rw [IntKind.wrap_i64]; omega
      have e5 : IntKind.i64.wrap ((k : Int) + 1) = (k : Int) + 1 := by rw [IntKind.wrap_i64]; omega
      have e6 : ((k : Int) + 1) * 256 = (b : Int) := by omega
      have e7 : IntKind.i64.wrap (b : Int) = (b : Int) := by rw [IntKind.wrap_i64]; omega
      have hab : a ≤ b := by omega
      have hbs : b ≤ s.size := by have := HS.out; omega
      clear hD hjb hq ha hb
      have SD : Hid (step D ((q : Int), cut4 s k) = D.write (q : Int) (cut4 s k)) := by unfold Hid step; rw [if_neg (by simp)]
      have SE : Hid (stepE D ((q : Int), cut4 s k) = D.writeE (q : Int) (cut4 s k)) := by unfold Hid stepE; rw [if_neg (by simp)]
      rw [SD.out, SE.out] at RS
      by_cases hw : D.writeE (q : Int) (cut4 s k) = 0
      · have HW := Lib.hid hw
        rw [hw] at RS WR
        clear hw
        go_wp2_with fail
        refine wp_region_flag (fun w' => w'.cell? ⟨gj, 0, none⟩ = some (.pointer (some ⟨g, 0, none⟩))) [(0, 1), (1, 1), (2, 1), (4, 1), (5, 1), (6, 1), (7, 1), (8, 1), (9, 1), (10, 1), (11, 1), (12, 1), (13, 1), (3, 0), (14, 0), (15, 1)] (by kernel_rfl) (by kernel_rfl) c0 ?_
        simp only [ordered, List.map_cons, List.map_nil, List.getD_cons_zero, List.getD_cons_succ]
        repeat (refine wpF_dry (fun K hK => ?_); go_simp; refine hK _ ?_; clear hK K)
        refine wpF_do ?_
        go_wp2_with fail
        refine ⟨c0, ?_⟩
        refine wpF_do ?_
        go_wp2_with fail
        refine WR.out.mono ?_
        rintro e w4 ⟨rfl, F4, ht4⟩
        have T4 : Hid (DTo w F g (D.write (q : Int) (cut4 s k)) w4 F4) := (ht.out.post (Below.refl _ wr).drew).then ht4
        have c4 := (HJ.out.touch T4.out.touch HF.out).cells.1
        clear ht4 WR c0
        go_wp2_with fail
        refine ⟨c4, ?_⟩
        repeat (refine wpF_dry (fun K hK => ?_); go_simp; refine hK _ ?_; clear hK K)
        refine wpF_nil ?_
        have R4 : Hid ((run d (layK (p : Int) s (k + 1))).2 = 0) := by unfold Hid; rw [LK.out, RS.out]
        have T5 : Hid (DTo w F g (run d (layK (p : Int) s (k + 1))).1 w4 F4) := by unfold Hid; rw [LK.out, RS.out]; exact T4.out
        go_wp2
        go_roundw
        case rel => exact ⟨k + 1, F4, by omega, by go_num, R4, T5⟩
        case measure => simp [intOf]; omega
      · have R4 : Hid (run d (laid (p : Int) s) = (D.write (q : Int) (cut4 s k), D.writeE (q : Int) (cut4 s k))) := by
          obtain ⟨r, hr⟩ := layK_more (p : Int) s 4 (k + 1) (by omega)
          unfold Hid
          rw [show laid (p : Int) s = layK p s 4 from rfl, hr, run_stop (by rw [LK.out, RS.out]; exact hw), LK.out, RS.out]
        generalize hwe : D.writeE (q : Int) (cut4 s k) = we at hw R4 WR
        have d0 : (we != 0) = true := by simpa using hw
        clear hw hwe RS SE
        go_wp2_with fail
        refine wp_region_flag (fun w' => w'.cell? ⟨gj, 0, none⟩ = some (.pointer (some ⟨g, 0, none⟩))) [(0, 1), (1, 1), (2, 1), (4, 1), (5, 1), (6, 1), (7, 1), (8, 1), (9, 1), (10, 1), (11, 1), (12, 1), (13, 1), (3, 0), (14, 0), (15, 1)] (by kernel_rfl) (by kernel_rfl) c0 ?_
        simp only [ordered, List.map_cons, List.map_nil, List.getD_cons_zero, List.getD_cons_succ]
        repeat (refine wpF_dry (fun K hK => ?_); go_simp; refine hK _ ?_; clear hK K)
        refine wpF_do ?_
        go_wp2_with fail
        refine ⟨c0, ?_⟩
        refine wpF_do ?_
        go_wp2_with fail
        refine WR.out.mono ?_
        rintro e w4 ⟨rfl, F4, ht4⟩
        have T4 : Hid (DTo w F g (D.write (q : Int) (cut4 s k)) w4 F4) := (ht.out.post (Below.refl _ wr).drew).then ht4
        have c4 := (HJ.out.touch T4.out.touch HF.out).cells.1
        clear ht4 WR c0
        go_wp2_with fail
        refine ⟨c4, ?_⟩
        repeat (refine wpF_dry (fun K hK => ?_); go_simp; refine hK _ ?_; clear hK K)
        refine wpF_nil ?_
        go_wp2
        go_ret
        exact ⟨by rw [R4.out]; rfl, F4, by rw [R4.out]; exact T4.out⟩
    · obtain rfl : k = 4 := by omega
      go_wp2
      go_ret
      exact ⟨by rw [show laid (p : Int) s = layK p s 4 from rfl, he.out]; rfl, F', ht.out⟩
end Go.Proofs.Ytoolkamajlgcbaa
/- JnB: the walks of the journal's look, Pages, Read. -/
set_option linter.unusedVariables false
set_option linter.unusedSimpArgs false
namespace Go.Proofs.Ytoolkamajlgcbaa
open Go.RowKit

/-- Bytes as cells. -/
def u8s (l : List UInt8) : List Value := l.map (fun b => Value.int .u8 (b.toNat : Int))
theorem u8s_length (l : List UInt8) : (u8s l).length = l.length := List.length_map ..
theorem u8s_append (a b : List UInt8) : u8s (a ++ b) = u8s a ++ u8s b := List.map_append ..
theorem u8s_str (s : ByteArray) : Go.Lib.strCells s = u8s s.data.toList := rfl
theorem infoU : (Try.prog.info? 5).map (fun i => (i.zero, i.size, i.bytes)) = some (some (.int .u8 0), 1, 1) := by kernel_rfl
theorem pages_any (w : World) (gj g P : Nat) (h : Jb w gj g P) : Calls Try.prog 54 #[.pointer (some ⟨gj, 0, none⟩)] w fun e w' => e = .returned (.int .i64 (P : Int)) ∧ w = w' := by
  obtain ⟨_, c1⟩ := h.cells
  clear h
  go_enter Try.func54, Try.ntmps54
  go_wp2
  go_ret
  exact ⟨rfl, rfl⟩
theorem pages_nil (w : World) : Calls Try.prog 54 #[.pointer none] w fun e w' => e = .returned (.int .i64 0) ∧ w = w' := by
  go_enter Try.func54, Try.ntmps54
  go_wp2
  go_ret
  exact ⟨rfl, rfl⟩
set_option maxHeartbeats 1600000 in
set_option maxRecDepth 100000 in
theorem look_down (w : World) (F : Nat → Prop) (gj g P : Nat) (d : Dk) (h : HasDisk w F g d) (hj : Jb w gj g P) (hd : d.down = true) (hw : d.waits.length < 9223372036854775807) (p : Nat) (hp : p ≤ 4096) :
    Calls Try.prog 67 #[.pointer (some ⟨gj, 0, none⟩), .int .i64 (p : Int)] w fun e w' => e = .returned (.tuple #[.string ByteArray.empty, .int .i64 10]) ∧ Below w.heap.size w w' := by
  obtain ⟨c0, _⟩ := hj.cells
  have RD := Lib.hid (read_h h (p : Int) hw)
  have hr : d.read (p : Int) = (ByteArray.empty, 10) := by
    have hu : d.use (p : Int) = 10 := by unfold Dk.use; rw [if_pos hd]
    unfold Dk.read
    rw [if_neg (by rw [hu]; decide), hu]
  rw [hr] at RD
  clear h hj hd hw hr
  go_enter Try.func67, Try.ntmps67
  go_wp2_with fail
  refine wp_loop_rounds 1 ?_
  rw [rounds_succ]
  go_wp2_with fail
  refine RD.out.mono ?_
  rintro e w1 ⟨rfl, b1⟩
  have B1 := Lib.hid b1
  clear b1 RD
  go_wp2
  go_ret2
  exact ⟨rfl, B1.out⟩
set_option maxHeartbeats 1600000 in
set_option maxRecDepth 100000 in
theorem look_up (w : World) (F : Nat → Prop) (gj g P : Nat) (d : Dk) (h : HasDisk w F g d) (hj : Jb w gj g P) (hd : d.down = false) (hz : Sz d) (hw : d.waits.length < 9223372036854775807) (p : Nat) (hp : p + 4 ≤ d.l.length) (hp2 : p ≤ 4096) :
    Calls Try.prog 67 #[.pointer (some ⟨gj, 0, none⟩), .int .i64 (p : Int)] w fun e w' => e = .returned (.tuple #[.string (pageB d (p : Int)), .int .i64 0]) ∧ Below w.heap.size w w' := by
  obtain ⟨i0, hi, hz0, hz1, hz2⟩ := info_parts infoU
  have H := Lib.hid h; have HJ := Lib.hid hj
  have HU : Hid (∀ i : Nat, i < 4 → d.use ((p : Int) + (i : Nat)) = 0) := fun i hi => by unfold Dk.use; rw [if_neg (by rw [hd]; decide), if_neg (by omega)]
  have HZ := Lib.hid hz; have HW := Lib.hid hw
  clear h hj hd hz hw hp
  go_enter Try.func67, Try.ntmps67
  go_wp2_with fail
  go_loopw [6, 10] (fun v i wr => ∃ k : Nat, k ≤ 4 ∧ i = .int .i64 k ∧ Hid (wr.ownsRow w.heap.size 5 1 v (rdK d p k).length (u8s (rdK d p k))) ∧ Hid (Below w.heap.size w wr)) (fun _ i _ => 4 - (intOf i).toNat)
  case atStart => exact ⟨0, by decide, rfl, World.ownsRow_nil _ _ _ _, Below.refl _ _⟩
  case round =>
    obtain ⟨k, hk, rfl, ho, hb⟩ := hrel
    have LEN : Hid ((rdK d p k).length = 256 * k) := rdK_len HZ.out k (fun i hi => HU.out i (by omega))
    by_cases hlt : k < 4
    · obtain ⟨c0, _⟩ := (HJ.out.below hb.out).cells
      have RS : Hid (rdK d p (k + 1) = rdK d p k ++ (d.read ((p : Int) + (k : Nat))).1.data.toList) := rfl
      have SZ := Lib.hid (read_size HZ.out (HU.out k hlt))
      have RD := Lib.hid (read_h (H.out.below hb.out) ((p : Int) + (k : Int)) HW.out)
      have hr2 : (d.read ((p : Int) + (k : Nat))).2 = 0 := by unfold Dk.read; rw [if_pos (HU.out k hlt)]
      rw [hr2] at RD
      generalize hrd : (d.read ((p : Int) + (k : Nat))).1 = t at RS SZ RD
      obtain ⟨A, c, rfl⟩ := own_slice ho.out
      clear hrd hr2
      go_wp2_with fail
      refine RD.out.mono ?_
      rintro e w1 ⟨rfl, b1⟩
      have B1 : Hid (Below w.heap.size w w1) := hb.out.trans (b1.mono hb.out.size)
      have HO1 : Hid (w1.ownsRow w.heap.size 5 1 (.slice A (rdK d p k).length c) (rdK d p k).length (u8s (rdK d p k))) := own_touch ho.out (Touch.of_below b1 : Touch (fun _ => False) wr w1) (fun _ _ x => x)
      have L1 : (rdK d p k).length ≤ 1024 := by have := LEN.out; omega
      have HS1 : Hid (w.heap.size ≤ w1.heap.size) := B1.out.size
      clear b1 RD c0
      generalize hacc : rdK d p k = acc at HO1 L1 RS ⊢
      clear hacc
      go_wp2_with (at_builtin; refine Go.Lib.wpList_append_own_string _ rfl (.tmp 27) (.tmp 28) 51 9 rfl w.heap.size 5 i0 Try.underlying51 Try.underlying9 hi hz0 hz1 hz2 _ acc.length (u8s acc) rfl HO1.out t rfl (by have := SZ.out; unfold maxLen; omega) (by have := SZ.out; omega) HS1.out ?_)
      intro v2 w2 ho2 hg2 _
      have B2 : Hid (Below w.heap.size w w2) := B1.out.grown hg2 HS1.out (fun j hj => (HO1.out.lt j hj).1)
      have HO2 : Hid (w2.ownsRow w.heap.size 5 1 v2 (rdK d p (k + 1)).length (u8s (rdK d p (k + 1)))) := by
        unfold Hid
        rw [RS.out, List.length_append, u8s_append, ← u8s_str]
        exact ho2
      clear ho2 hg2 HO1
      go_wp2
      go_roundw
      case rel => first | exact ⟨k + 1, by omega, by go_num, HO2, B2⟩ | ((repeat apply Exists.intro); refine ⟨?_, rfl⟩; exact ⟨k + 1, by omega, by go_num, HO2, B2⟩)
      case measure => simp [intOf]; omega
    · have hk4 : k = 4 := by omega
      subst hk4
      rcases ho.out.2 with ⟨_, h0⟩ | ⟨gb, cb, cur, rfl, _, hgb, hcb, _, _, htk⟩
      · have := LEN.out; omega
      · have CV := run_convert_bytes_back (P := Try.prog) wr 51 9 5 ⟨gb, 0, none⟩ cb (rdK d p 4) Try.underlying51 Try.underlying5 Try.underlying9 (fun j hj => by
          have h1 : (cur.toList.take ((rdK d p 4).length * 1))[j]? = (u8s (rdK d p 4))[j]? := by rw [htk]
          rw [List.getElem?_take_of_lt (by omega), Array.getElem?_toList] at h1
          rw [show (⟨gb, 0, none⟩ : Addr).add j = ⟨gb, j, none⟩ by simp [Addr.add]; omega, blk_cell hgb, h1]
          simp [u8s, hj])
        clear hgb htk ho
        go_wp2
        go_ret2
        exact ⟨rfl, hb.out⟩
end Go.Proofs.Ytoolkamajlgcbaa
