/- GlC: a reader of a part: what holds amid the reading of a set. -/
import Derived.Test.YtmagidkgajmhoaaDoorGlB
import Derived.Laws.ResultCell
set_option linter.unusedVariables false
set_option linter.unusedSimpArgs false
namespace Go.Proofs.YtmagidkgajmhoaaDoor
open Go.RowKit

theorem dat_from (s : ByteArray) (k : Nat) : dat (s.extract k s.size) = (dat s).drop k := by
  unfold dat
  rw [Lib.extract_data]
  refine List.take_of_length_le ?_
  rw [List.length_drop, Array.length_toList]
  exact Nat.le_refl _
def headIs (l : Bs) (c : UInt8) : Bool := match l with
  | [] => false
  | d :: _ => c == d
theorem prefix_one (l : Bs) (c : UInt8) : Lib.hasPrefix l [c] = headIs l c := by
  unfold Lib.hasPrefix headIs
  cases l with
  | nil => rfl
  | cons d r => simp [List.isPrefixOf]
/-- Does a text go on with a byte at a place? -/
theorem goes_any (w : World) (s : ByteArray) (k : Nat) (c : UInt8) : Calls Tryd.prog 32 #[.string (s.extract k s.size), .string ⟨#[c]⟩] w fun e w' => e = .returned (.bool (headIs ((dat s).drop k) c)) ∧ w = w' := by
  have := prefix_any (s.extract k s.size) ⟨#[c]⟩ w
  rw [dat_from, show dat ⟨#[c]⟩ = [c] from rfl, prefix_one] at this
  exact this
theorem fz_no {w : World} {g : Nat} {c : Array Value} {t : TypeId} (h : w.heap[g]? = some (.cells c t (0, 0))) (i : Nat) : w.frozen? ⟨g, i, none⟩ = false := by simp [World.frozen?, h]
theorem two_new (w : World) (a b : Value) (t : TypeId) : ∀ j u, [a, b][j]? = some u → (w.alloc (.cells #[a, b] t)).cell? ((⟨w.heap.size, 0, none⟩ : Addr).add j) = some u := by
  intro j u hj
  have hb := blk_new w (.cells #[a, b] t)
  match j, hj with
  | 0, hj => simp at hj; subst hj; rw [show (⟨w.heap.size, 0, none⟩ : Addr).add 0 = ⟨w.heap.size, 0, none⟩ from rfl, blk_cell hb]; rfl
  | 1, hj => simp at hj; subst hj; rw [show (⟨w.heap.size, 0, none⟩ : Addr).add 1 = ⟨w.heap.size, 1, none⟩ from rfl, blk_cell hb]; rfl
  | j + 2, hj => simp at hj
abbrev Spans := List (UInt8 × UInt8)
def spv : Spans → List Value
  | [] => []
  | x :: r => .int .u8 (x.1.toNat : Int) :: .int .u8 (x.2.toNat : Int) :: spv r
theorem spv_len : ∀ l : Spans, (spv l).length = l.length * 2
  | [] => rfl
  | x :: r => by simp only [spv, List.length_cons, spv_len r]; omega
theorem spv_app : ∀ a b : Spans, spv (a ++ b) = spv a ++ spv b
  | [], b => rfl
  | x :: a, b => by simp only [List.cons_append, spv, spv_app a b]
theorem spv_one : ∀ (l : Spans), ∀ u ∈ spv l, u.oneCell' = true
  | [], u, h => by cases h
  | x :: r, u, h => by
    simp only [spv, List.mem_cons] at h
    rcases h with rfl | rfl | h
    · rfl
    · rfl
    · exact spv_one r u h
theorem infoSp : (Tryd.prog.info? 86).map (fun i => (i.zero, i.size, i.bytes)) = some (some (.agg #[.int .u8 0, .int .u8 0]), 2, 2) := by kernel_rfl
theorem infoTk : (Tryd.prog.info? 74).map (fun i => (i.zero, i.size, i.bytes)) = some (some (.agg #[.bool false, .bool false, .slice none 0 0]), 3, 32) := by kernel_rfl
/-- A row of spans of the call's own. -/
def OwnS (w : World) (B : Nat) (v : Value) (l : Spans) : Prop := w.ownsRow B 86 2 v l.length (spv l)
theorem own_nil (w : World) (B : Nat) : OwnS w B (.slice none 0 0) [] := World.ownsRow_nil w B 86 2
/-- Results: a token that lies in a block, and another one. -/
theorem results_tk {fn : Func} {p u : Tmp} (h : fn.results = #[.cell p 74, .tmp u]) (tmps : Array Value) (w : World) (g : Nat) (x y z : Value) (hp : tmps.getD p undef = .pointer (some ⟨g, 0, none⟩)) (hg : w.heap[g]? = some (.cells #[x, y, z] 74 (0, 0))) :
    (results fn tmps).run Tryd.prog w = .ok (.tuple #[.agg #[x, y, z], tmps.getD u undef]) w := by
  rw [results_cell_tmp h, hp]
  simp only [asAddr, Sem.run_pure, Result.andThen_ok]
  have := run_loadVar_row (P := Tryd.prog) w g 74 74 #[x, y, z] (0, 0) _ hg Tryd.underlying74 rfl (by
    obtain ⟨i, hi, h0, h1, h2⟩ := info_parts infoTk
    rw [hi]
    simp [h1])
  rw [this]
  rfl
/-- The body of a set behind what may be a stroke for not. -/
def setF : Nat → Spans → Bs → Option (Spans × Bs)
  | 0, _, _ => none
  | f + 1, acc, r => if (!acc.isEmpty && headIs r 93) = true then some (acc, r.drop 1) else match memP r with
    | none => none
    | some (a, r1) => if headIs r1 45 = true then (match memP (r1.drop 1) with
        | none => none
        | some (b, r2) => if b < a then none else setF f (acc ++ [(a, b)]) r2)
      else setF f (acc ++ [(a, a)]) r1
/-- A round of it, where it does not end. -/
def setG (f : Nat) (acc : Spans) (r : Bs) : Option (Spans × Bs) := match memP r with
    | none => none
    | some (a, r1) => if headIs r1 45 = true then (match memP (r1.drop 1) with
        | none => none
        | some (b, r2) => if b < a then none else setF f (acc ++ [(a, b)]) r2)
      else setF f (acc ++ [(a, a)]) r1
theorem setF_more (f : Nat) (acc : Spans) (r : Bs) (h : (!acc.isEmpty && headIs r 93) = false) : setF (f + 1) acc r = setG f acc r := by
  rw [setF, h]
  rfl
theorem setF_end (f : Nat) (acc : Spans) (r : Bs) (h : (!acc.isEmpty && headIs r 93) = true) : setF (f + 1) acc r = some (acc, r.drop 1) := by
  rw [setF, h]
  rfl
/-- What holds amid the reading of a set. -/
structure SetW (w wr : World) (gr b2 b4 : Nat) (s : ByteArray) (k : Nat) (nt : Bool) (v : Value) (l : Spans) : Prop where
  rd : RdTo w gr s k wr
  c2 : ∃ x y z, wr.heap[b2]? = some (.cells #[x, y, z] 74 (0, 0))
  c4 : wr.heap[b4]? = some (.cells #[.bool false, .bool nt, v] 74 (0, 0))
  own : OwnS wr w.heap.size v l
  g2 : w.heap.size ≤ b2
  g4 : w.heap.size ≤ b4
  ne : b2 ≠ b4
  gr : gr < w.heap.size
/-- The reader goes on. -/
theorem SetW.read {w wr w' : World} {gr b2 b4 : Nat} {s : ByteArray} {k k' : Nat} {nt : Bool} {v : Value} {l : Spans} (h : SetW w wr gr b2 b4 s k nt v l) (hr : RdTo wr gr s k' w') : SetW w w' gr b2 b4 s k' nt v l := by
  have := h.g2; have := h.g4; have := h.gr
  obtain ⟨x, y, z, hc⟩ := h.c2
  exact ⟨h.rd.trans hr, ⟨x, y, z, blk_touch hr.2 hc (by omega)⟩, blk_touch hr.2 h.c4 (by omega), own_touch h.own hr.2 (fun j hj e => by have := (h.own.lt j hj).1; omega), h.g2, h.g4, h.ne, h.gr⟩
theorem SetW.below {w wr w' : World} {gr b2 b4 : Nat} {s : ByteArray} {k : Nat} {nt : Bool} {v : Value} {l : Spans} (h : SetW w wr gr b2 b4 s k nt v l) (hb : Below wr.heap.size wr w') : SetW w w' gr b2 b4 s k nt v l :=
  h.read (RdTo.below ⟨h.rd.1, Touch.refl _ wr⟩ hb)
theorem own_ne_tok0 {w : World} {B : Nat} {v : Value} {l : Spans} {b : Nat} {cs : Array Value} (h : OwnS w B v l) (hb : w.heap[b]? = some (.cells cs 74 (0, 0))) : v.ownBlock ≠ some b := fun e => by
  rcases h.2 with ⟨rfl, _⟩ | ⟨g, cap, cur, rfl, _, hg, _⟩
  · cases e
  · have eg : g = b := by injection e
    rw [eg, hb] at hg
    simp at hg
/-- It is a set of all others. -/
theorem SetW.neg {w wr : World} {gr b2 b4 : Nat} {s : ByteArray} {k : Nat} {v : Value} {l : Spans} (h : SetW w wr gr b2 b4 s k false v l) : SetW w (wr.setCell ⟨b4, 1, none⟩ (.bool true)) gr b2 b4 s k true v l := by
  have g2 := h.g2; have g4 := h.g4; have gl := h.gr; have ne := h.ne
  obtain ⟨x0, y0, z0, hc2⟩ := h.c2
  have T2 : Touch (fun j => j = b4) wr (wr.setCell ⟨b4, 1, none⟩ (.bool true)) := (Touch.refl (fun j => j = b4) wr).setCell (p := ⟨b4, 1, none⟩) (.inl rfl) _
  refine ⟨⟨blk_touch T2 h.rd.1 (by omega), h.rd.2.setCell (p := ⟨b4, 1, none⟩) (.inr g4) _⟩, ⟨x0, y0, z0, blk_touch T2 hc2 (fun e => ne e)⟩, ?_, ?_, g2, g4, ne, gl⟩
  · have := blk_set h.c4 1 (.bool true)
    simpa using this
  · exact own_touch h.own T2 (fun j hj e => by
      subst e
      exact own_ne_tok0 h.own h.c4 hj)
theorem own_ne_tok {w : World} {B : Nat} {v : Value} {l : Spans} {b : Nat} {cs : Array Value} (h : OwnS w B v l) (hb : w.heap[b]? = some (.cells cs 74 (0, 0))) : v.ownBlock ≠ some b := fun e => by
  rcases h.2 with ⟨rfl, _⟩ | ⟨g, cap, cur, rfl, _, hg, _⟩
  · cases e
  · have eg : g = b := by injection e
    rw [eg, hb] at hg
    simp at hg
/-- A span more. -/
theorem SetW.more {w wr w' : World} {gr b2 b4 : Nat} {s : ByteArray} {k : Nat} {nt : Bool} {v v' : Value} {l : Spans} (h : SetW w wr gr b2 b4 s k nt v l) (x : UInt8 × UInt8) (hg : wr.grownBy w' v.ownBlock) (ho : w'.ownsRow w.heap.size 86 2 v' (l.length + 1) (spv l ++ spv [x])) :
    SetW w (w'.setCell ⟨b4, 2, none⟩ v') gr b2 b4 s k nt v' (l ++ [x]) := by
  have g2 := h.g2; have g4 := h.g4; have gl := h.gr; have ne := h.ne
  obtain ⟨x0, y0, z0, hc2⟩ := h.c2
  have n2 := own_ne_tok h.own hc2
  have n4 := own_ne_tok h.own h.c4
  have k2 : w'.heap[b2]? = some (.cells #[x0, y0, z0] 74 (0, 0)) := (hg.block _ (lt_block hc2) (fun e => n2 e.symm)).trans hc2
  have k4 : w'.heap[b4]? = some (.cells #[.bool false, .bool nt, v] 74 (0, 0)) := (hg.block _ (lt_block h.c4) (fun e => n4 e.symm)).trans h.c4
  have T1 : Touch (fun j => j = gr) w w' := h.rd.2.grown hg (fun j e => .inr (h.own.lt j e).1)
  have kr : Rdr w' gr s k := (hg.block _ (lt_block h.rd.1) (fun e => by have := (h.own.lt gr e.symm).1; omega)).trans h.rd.1
  have T2 : Touch (fun j => j = b4) w' (w'.setCell ⟨b4, 2, none⟩ v') := (Touch.refl (fun j => j = b4) w').setCell (p := ⟨b4, 2, none⟩) (.inl rfl) _
  have o2 : OwnS w' w.heap.size v' (l ++ [x]) := by unfold OwnS; rw [List.length_append, spv_app]; exact ho
  refine ⟨⟨blk_touch T2 kr (by omega), T1.setCell (p := ⟨b4, 2, none⟩) (.inr g4) _⟩, ⟨x0, y0, z0, blk_touch T2 k2 (fun e => ne e)⟩, ?_, ?_, g2, g4, ne, gl⟩
  · have := blk_set k4 2 v'
    simpa using this
  · exact own_touch o2 T2 (fun j hj e => by
      subst e
      exact own_ne_tok o2 k4 hj)
theorem SetW.more4 {w wr w' : World} {gr b2 b4 : Nat} {s : ByteArray} {k : Nat} {nt : Bool} {v : Value} {l : Spans} (h : SetW w wr gr b2 b4 s k nt v l) (hg : wr.grownBy w' v.ownBlock) : w'.heap[b4]? = some (.cells #[.bool false, .bool nt, v] 74 (0, 0)) :=
  (hg.block _ (lt_block h.c4) (fun e => own_ne_tok0 h.own h.c4 e.symm)).trans h.c4
/-- It is handed back. -/
theorem SetW.out3 {w wr : World} {gr b2 b4 : Nat} {s : ByteArray} {k : Nat} {nt : Bool} {v : Value} {l : Spans} (h : SetW w wr gr b2 b4 s k nt v l) :
    (((wr.setCell ⟨b2, 0, none⟩ (.bool false)).setCell ⟨b2, 1, none⟩ (.bool nt)).setCell ⟨b2, 2, none⟩ v).heap[b2]? = some (.cells #[.bool false, .bool nt, v] 74 (0, 0)) ∧ OwnS (((wr.setCell ⟨b2, 0, none⟩ (.bool false)).setCell ⟨b2, 1, none⟩ (.bool nt)).setCell ⟨b2, 2, none⟩ v) w.heap.size v l ∧ RdTo w gr s k (((wr.setCell ⟨b2, 0, none⟩ (.bool false)).setCell ⟨b2, 1, none⟩ (.bool nt)).setCell ⟨b2, 2, none⟩ v) := by
  have g2 := h.g2; have g4 := h.g4; have gl := h.gr; have ne := h.ne
  obtain ⟨x0, y0, z0, hc2⟩ := h.c2
  have T2 : Touch (fun j => j = b2) wr (((wr.setCell ⟨b2, 0, none⟩ (.bool false)).setCell ⟨b2, 1, none⟩ (.bool nt)).setCell ⟨b2, 2, none⟩ v) := (((Touch.refl (fun j => j = b2) wr).setCell (p := ⟨b2, 0, none⟩) (.inl rfl) _).setCell (p := ⟨b2, 1, none⟩) (.inl rfl) _).setCell (p := ⟨b2, 2, none⟩) (.inl rfl) _
  refine ⟨?_, own_touch h.own T2 (fun j hj e => by
      subst e
      exact own_ne_tok0 h.own hc2 hj), blk_touch T2 h.rd.1 (by omega), ((h.rd.2.setCell (p := ⟨b2, 0, none⟩) (.inr g2) _).setCell (p := ⟨b2, 1, none⟩) (.inr g2) _).setCell (p := ⟨b2, 2, none⟩) (.inr g2) _⟩
  have h1 := blk_set hc2 0 (.bool false)
  have h2 := blk_set h1 1 (.bool nt)
  have h3 := blk_set h2 2 v
  simpa using h3
/-- A set's spans, whether it is of all others, and what is behind it. -/
def setQ (r : Bs) : Option (Bool × Spans × Bs) := if headIs r 33 = true then (setF ((r.drop 1).length + 1) [] (r.drop 1)).map (fun x => (true, x.1, x.2)) else (setF (r.length + 1) [] r).map (fun x => (false, x.1, x.2))
/-- What set makes of a reader. -/
def SetTo (w : World) (gr : Nat) (s : ByteArray) (k : Nat) (e : Ending) (w' : World) : Prop :=
  (setQ ((dat s).drop k) = none ∧ ∃ (nt : Bool) (A : Option Addr) (m c k' : Nat), e = .returned (.tuple #[.agg #[.bool false, .bool nt, .slice A m c], .bool false]) ∧ k' ≤ s.size ∧ RdTo w gr s k' w') ∨
  ∃ (nt : Bool) (l : Spans) (A : Option Addr) (c k' : Nat), setQ ((dat s).drop k) = some (nt, l, (dat s).drop k') ∧ k < k' ∧ k' ≤ s.size ∧ e = .returned (.tuple #[.agg #[.bool false, .bool nt, .slice A l.length c], .bool true]) ∧ OwnS w' w.heap.size (.slice A l.length c) l ∧ RdTo w gr s k' w'
/-- memP goes on by one at least. -/
theorem memP_len {r r' : Bs} {c : UInt8} (h : memP r = some (c, r')) : r'.length < r.length := by
  unfold memP at h
  split at h
  · cases h
  · split at h
    · split at h
      · cases h
      · cases h; simp; omega
    · split at h
      · cases h
      · cases h; simp
end Go.Proofs.YtmagidkgajmhoaaDoor
