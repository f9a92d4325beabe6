/- JdB: contracts of the disk (written by gen_jn.py) -/
import Derived.Test.YtoolkamajlgcbaaMr03
set_option linter.unusedVariables false
set_option linter.unusedSimpArgs false
namespace Go.Proofs.Ytoolkamajlgcbaa
open Go.RowKit


def HasDisk (w : World) (F : Nat → Prop) (g : Nat) (d : Dk) : Prop := ∃ vl vw, IsDisk w F g d vl vw
def Disj (F G : Nat → Prop) : Prop := ∀ k, F k → ¬ G k
/-- What was done to a disk. -/
structure DTo (w : World) (F : Nat → Prop) (g : Nat) (d' : Dk) (w' : World) (F' : Nat → Prop) : Prop where
  has : HasDisk w' F' g d'
  new : ∀ k, F' k → F k ∨ w.heap.size ≤ k
  touch : Touch F w w'
theorem DiskTo.open {w w' : World} {F : Nat → Prop} {g : Nat} {d' : Dk} (h : DiskTo w F g d' w') : ∃ F', DTo w F g d' w' F' := by
  obtain ⟨F', vl, vw, h1, h2, h3⟩ := h
  exact ⟨F', ⟨vl, vw, h1⟩, h2, h3⟩
theorem HasDisk.keep {w w' : World} {S F : Nat → Prop} {g : Nat} {d : Dk} (h : HasDisk w F g d) (ht : Touch S w w') (hS : Disj F S) : HasDisk w' F g d := by
  obtain ⟨vl, vw, h⟩ := h
  exact ⟨vl, vw, h.keep ht hS⟩
theorem HasDisk.below {w w' : World} {F : Nat → Prop} {g : Nat} {d : Dk} (h : HasDisk w F g d) (ht : Below w.heap.size w w') : HasDisk w' F g d :=
  h.keep (S := fun _ => False) (Touch.of_below ht) (fun _ _ x => x)
theorem HasDisk.drew {w : World} {F : Nat → Prop} {g : Nat} {d : Dk} (h : HasDisk w F g d) : HasDisk w.drew F g d :=
  h.keep (S := fun _ => False) (Touch.refl _ w).drew (fun _ _ x => x)
theorem HasDisk.lt {w : World} {F : Nat → Prop} {g : Nat} {d : Dk} (h : HasDisk w F g d) (k : Nat) (hk : F k) : k < w.heap.size := by
  obtain ⟨vl, vw, h⟩ := h
  exact h.lt k hk
theorem HasDisk.ok {w : World} {F : Nat → Prop} {g : Nat} {d : Dk} (h : HasDisk w F g d) : d.Ok := by
  obtain ⟨vl, vw, h⟩ := h
  exact h.ok
theorem Disj.symm {F G : Nat → Prop} (h : Disj F G) : Disj G F := fun k hg hf => h k hf hg
theorem DTo.disj {w w' : World} {F F' G : Nat → Prop} {g g2 : Nat} {d' d2 : Dk} (h : DTo w F g d' w' F') (hd : Disj F G) (h2 : HasDisk w G g2 d2) : Disj F' G := by
  intro k hk hG
  rcases h.new k hk with hk | hk
  · exact hd k hk hG
  · have := h2.lt k hG; omega
theorem disj_new {w : World} {F G : Nat → Prop} {g : Nat} {d : Dk} (h : HasDisk w F g d) (hG : ∀ k, G k → w.heap.size ≤ k) : Disj F G := fun k hk hg => by
  have := h.lt k hk
  have := hG k hg
  omega
theorem DTo.above {w w' : World} {F F' : Nat → Prop} {g B : Nat} {d' : Dk} (h : DTo w F g d' w' F') (hF : ∀ k, F k → B ≤ k) (hB : B ≤ w.heap.size) : ∀ k, F' k → B ≤ k := fun k hk => by
  rcases h.new k hk with hk | hk
  · exact hF k hk
  · omega
theorem DTo.bel {w0 w w' : World} {F F' : Nat → Prop} {g B : Nat} {d' : Dk} (h : DTo w F g d' w' F') (hb : Below B w0 w) (hB : B ≤ w.heap.size) (hF : ∀ k, F k → B ≤ k) : Below B w0 w' :=
  hb.trans (h.touch.below hB hF)
theorem write_h {w : World} {F : Nat → Prop} {g : Nat} {d : Dk} (h : HasDisk w F g d) (i : Int) (s : ByteArray) (hs : s.size ≤ 9223372036854775807) (hm : d.waits.length + 1 ≤ 5864062014805) (hm2 : d.writes < 9223372036854775807) :
    Calls Try.prog 52 #[.pointer (some ⟨g, 0, none⟩), .int .i64 i, .string s] w fun e w' => e = .returned (.int .i64 (d.writeE i s)) ∧ ∃ F', DTo w F g (d.write i s) w' F' := by
  obtain ⟨vl, vw, h⟩ := h
  exact (write_any w F g d vl vw h i s hs hm hm2).mono fun e w' ⟨a, b⟩ => ⟨a, b.open⟩
theorem fuse_h {w : World} {F : Nat → Prop} {g : Nat} {d : Dk} (h : HasDisk w F g d) (n : Int) (hn : n ≤ 9223372036854775807) :
    Calls Try.prog 35 #[.pointer (some ⟨g, 0, none⟩), .int .i64 n] w fun e w' => e = .returned (.int .i64 (d.setFuseE n)) ∧ ∃ F', DTo w F g (d.setFuse n) w' F' := by
  obtain ⟨vl, vw, h⟩ := h
  exact (fuse_any w F g d vl vw h n hn).mono fun e w' ⟨a, b⟩ => ⟨a, b.open⟩
theorem start_h {w : World} {F : Nat → Prop} {g : Nat} {d : Dk} (h : HasDisk w F g d) :
    Calls Try.prog 36 #[.pointer (some ⟨g, 0, none⟩)] w fun e w' => e = .returned (.int .i64 d.startE) ∧ ∃ F', DTo w F g d.start w' F' := by
  obtain ⟨vl, vw, h⟩ := h
  exact (start_any w F g d vl vw h).mono fun e w' ⟨a, b⟩ => ⟨a, b.open⟩
theorem flush_h {w : World} {F : Nat → Prop} {g : Nat} {d : Dk} (h : HasDisk w F g d) (hm : d.waits.length < 9223372036854775807) :
    Calls Try.prog 76 #[.pointer (some ⟨g, 0, none⟩)] w fun e w' => e = .returned (.int .i64 (d.use 0)) ∧ ∃ F', DTo w F g d.flush w' F' := by
  obtain ⟨vl, vw, h⟩ := h
  exact (flush_any w F g d vl vw h hm).mono fun e w' ⟨a, b⟩ => ⟨a, b.open⟩
theorem fail_h {w : World} {F : Nat → Prop} {g : Nat} {d : Dk} (h : HasDisk w F g d) (hm : d.waits.length < 9223372036854775807) (pv : Value) (picks : List Bool) (hr : RdB w pv picks) (hpv : 0 < picks.length → ∀ k, pv.ownBlock = some k → ¬ F k) :
    Calls Try.prog 24 #[.pointer (some ⟨g, 0, none⟩), pv] w fun e w' => e = .returned (.tuple #[]) ∧ ∃ F', DTo w F g (d.fail picks) w' F' := by
  obtain ⟨vl, vw, h⟩ := h
  exact (fail_any w F g d vl vw h hm pv picks hr hpv).mono fun e w' ⟨a, b⟩ => ⟨a, b.open⟩
theorem read_h {w : World} {F : Nat → Prop} {g : Nat} {d : Dk} (h : HasDisk w F g d) (i : Int) (hm : d.waits.length < 9223372036854775807) :
    Calls Try.prog 65 #[.pointer (some ⟨g, 0, none⟩), .int .i64 i] w fun e w' => e = .returned (.tuple #[.string (d.read i).1, .int .i64 (d.read i).2]) ∧ Below w.heap.size w w' := by
  obtain ⟨vl, vw, h⟩ := h
  exact read_any w F g d vl vw h i hm
theorem new_h (w : World) (n : Nat) (h1 : 1 ≤ n) (h2 : n ≤ 2048) :
    Calls Try.prog 33 #[.int .i64 n] w fun e w' => ∃ g F, e = .returned (.tuple #[.pointer (some ⟨g, 0, none⟩), .int .i64 0]) ∧ HasDisk w' F g (Dk.new n) ∧ (∀ k, F k → w.heap.size ≤ k) ∧ Below w.heap.size w w' :=
  (new_yes w n h1 h2).mono fun e w' ⟨g, F, vl, vw, a, b, c, d⟩ => ⟨g, F, a, ⟨vl, vw, b⟩, c, d⟩
theorem size_h {w : World} {F : Nat → Prop} {g : Nat} {d : Dk} (h : HasDisk w F g d) : Calls Try.prog 64 #[.pointer (some ⟨g, 0, none⟩)] w fun e w' => e = .returned (.int .i64 (d.l.length : Int)) ∧ w = w' := by
  obtain ⟨vl, vw, h⟩ := h
  exact size_any w F g d vl vw h
theorem up_h {w : World} {F : Nat → Prop} {g : Nat} {d : Dk} (h : HasDisk w F g d) : Calls Try.prog 45 #[.pointer (some ⟨g, 0, none⟩)] w fun e w' => e = .returned (.bool (!d.down)) ∧ w = w' := by
  obtain ⟨vl, vw, h⟩ := h
  exact up_any w F g d vl vw h

/-! ### lives -/
theorem nilB (w : World) : RdB w (.slice none 0 0) [] := ⟨rfl, none, 0, rfl, Nat.le_refl _, by decide, fun h => by simp at h⟩
theorem oneB (w : World) (b : Bool) : RdB (w.alloc (.cells #[.bool b] 4)) (.slice (some ⟨w.heap.size, 0, none⟩) 1 1) [b] :=
  ⟨rfl, _, 1, rfl, Nat.le_refl _, by simp, fun _ => ⟨_, rfl, fun j u hj => by
    match j, hj with
    | 0, hj => simp at hj; subst hj; simp [Addr.add]⟩⟩
theorem RdB.lt {w : World} {A : Option Addr} {n c : Nat} {l : List Bool} (h : RdB w (.slice A n c) l) (hp : 0 < l.length) : ∀ k, (Value.slice A n c).ownBlock = some k → k < w.heap.size := by
  intro k hk
  obtain ⟨_, A', c', e, _, _, h3⟩ := h
  injection e with e1 e2 e3
  subst e1
  obtain ⟨ad, rfl, hc⟩ := h3 (by omega)
  have := World.block_lt_of_cell? _ _ (hc 0 (.bool (l[0])) (by simp [List.getElem?_eq_getElem hp]))
  simp [Value.ownBlock] at hk
  subst hk
  have e : (ad.add 0).block = ad.block := by unfold Addr.add; split <;> rfl
  rw [e] at this
  exact this
theorem RdB.far {w : World} {A : Option Addr} {n c : Nat} {l : List Bool} {F : Nat → Prop} {B : Nat} (h : RdB w (.slice A n c) l) (hB : w.heap.size ≤ B) (hF : ∀ k, F k → B ≤ k) : 0 < l.length → ∀ k, (Value.slice A n c).ownBlock = some k → ¬ F k :=
  fun hp k hk hf => by have := h.lt hp k hk; have := hF k hf; omega
end Go.Proofs.Ytoolkamajlgcbaa
/- JdP: plain laws of the disk (written by gen_jn.py) -/
set_option linter.unusedVariables false
set_option linter.unusedSimpArgs false
namespace Go.Proofs.Ytoolkamajlgcbaa
open Go.RowKit


structure Upp (d : Dk) : Prop where
  down : d.down = false
  fuse : d.fuse = 0
theorem Upp.write {d : Dk} (h : Upp d) (i : Int) (s : ByteArray) : Upp (d.write i s) := by
  unfold Dk.write
  split
  · have : ¬ 0 < d.fuse := by rw [h.fuse]; decide
    exact ⟨by simp [Dk.wrote, this, h.down], by simp [Dk.wrote, this, h.fuse]⟩
  · exact h
theorem Upp.flush {d : Dk} (h : Upp d) : Upp d.flush := by unfold Dk.flush; split; exact ⟨h.down, h.fuse⟩; exact h
theorem fail_start (d : Dk) (p : List Bool) : (d.fail p).startE = 0 ∧ (d.fail p).start = { d.fail p with down := false } := by
  have e1 : (d.fail p).startE = 0 := rfl
  exact ⟨e1, by unfold Dk.start; rw [e1]; rfl⟩
theorem Upp.again (d : Dk) (p : List Bool) : Upp (d.fail p).start := by rw [(fail_start d p).2]; exact ⟨rfl, rfl⟩
theorem Upp.new (n : Nat) : Upp (Dk.new n) := ⟨rfl, rfl⟩
theorem read_up {d : Dk} (h : d.down = false) (i : Nat) (hi : i < d.l.length) : d.read i = (Dk.look i d.waits (d.l.getD i ByteArray.empty), 0) := by
  have hu : d.use i = 0 := by unfold Dk.use; rw [if_neg (by rw [h]; decide), if_neg (by omega)]
  unfold Dk.read
  rw [if_pos hu]
  simp
theorem settle_none (ws : List (Int × ByteArray)) : ∀ (n : Nat) (p : Nat → Bool) (l : List ByteArray), (∀ j, n ≤ j → p j = false) → Dk.settle p n ws l = l := by
  induction ws with
  | nil => intro n p l _; rfl
  | cons w ws ih =>
    intro n p l h
    rw [Dk.settle, if_neg (by rw [h n (Nat.le_refl _)]; decide)]
    exact ih _ _ _ (fun j hj => h j (by omega))
theorem set_getD (l : List ByteArray) (j i : Nat) (x : ByteArray) (hi : i < l.length) : (l.set j x).getD i ByteArray.empty = if j = i then x else l.getD i ByteArray.empty := by
  simp only [List.getD_eq_getElem?_getD, List.getElem?_set]
  split
  · rename_i h; subst h; simp [hi]
  · rfl
theorem settle_get (p : Nat → Bool) (ws : List (Int × ByteArray)) : ∀ (n : Nat) (l : List ByteArray) (i : Nat), i < l.length →
    (Dk.settle p n ws l).getD i ByteArray.empty = l.getD i ByteArray.empty ∨ ∃ w ∈ ws, w.1.toNat = i ∧ (Dk.settle p n ws l).getD i ByteArray.empty = w.2 := by
  induction ws with
  | nil => intro n l i _; exact .inl rfl
  | cons w ws ih =>
    intro n l i hi
    rw [Dk.settle]
    split
    · rcases ih (n + 1) (l.set w.1.toNat w.2) i (by simpa using hi) with h | ⟨x, hx, h1, h2⟩
      · rw [h, set_getD _ _ _ _ hi]
        split
        · rename_i e; exact .inr ⟨w, by simp, e, rfl⟩
        · exact .inl rfl
      · exact .inr ⟨x, by simp [hx], h1, h2⟩
    · rcases ih (n + 1) l i hi with h | ⟨x, hx, h1, h2⟩
      · exact .inl h
      · exact .inr ⟨x, by simp [hx], h1, h2⟩
theorem settle_all (p : Nat → Bool) (ws : List (Int × ByteArray)) : ∀ (n : Nat) (l : List ByteArray) (i : Nat), i < l.length → (∀ j, n ≤ j → j < n + ws.length → p j = true) → (∀ w ∈ ws, 0 ≤ w.1) →
    (Dk.settle p n ws l).getD i ByteArray.empty = Dk.look i ws (l.getD i ByteArray.empty) := by
  induction ws with
  | nil => intro n l i _ _ _; rfl
  | cons w ws ih =>
    intro n l i hi hp h0
    rw [Dk.settle, if_pos (hp n (Nat.le_refl _) (by simp)), ih (n + 1) _ i (by simpa using hi) (fun j h1 h2 => hp j (by omega) (by simp; omega)) (fun x hx => h0 x (by simp [hx])), set_getD _ _ _ _ hi, Dk.look]
    have := h0 w (by simp)
    by_cases e : w.1 = (i : Int)
    · rw [if_pos e, if_pos (by omega)]
    · rw [if_neg e, if_neg (by omega)]
end Go.Proofs.Ytoolkamajlgcbaa
/- JnP: what a journal does to its disk, in plain Lean; what a failure amid it leaves. No program here. -/
set_option linter.unusedVariables false
set_option linter.unusedSimpArgs false
namespace Go.Proofs.Ytoolkamajlgcbaa

abbrev Stp := Int × ByteArray
/-- A step's error; a place below 0 is a flush. -/
def stepE (d : Dk) (x : Stp) : Int := if x.1 < 0 then d.use 0 else d.writeE x.1 x.2
def step (d : Dk) (x : Stp) : Dk := if x.1 < 0 then d.flush else d.write x.1 x.2
def run : Dk → List Stp → Dk × Int
  | d, [] => (d, 0)
  | d, x :: l => if stepE d x = 0 then run (step d x) l else (step d x, stepE d x)
theorem run_nil (d : Dk) : run d [] = (d, 0) := rfl
theorem run_cons (d : Dk) (x : Stp) (l : List Stp) : run d (x :: l) = if stepE d x = 0 then run (step d x) l else (step d x, stepE d x) := rfl
theorem run_append : ∀ (a b : List Stp) (d : Dk), run d (a ++ b) = if (run d a).2 = 0 then run (run d a).1 b else run d a
  | [], b, d => by simp [run]
  | x :: a, b, d => by
    rw [List.cons_append, run, run]
    by_cases h : stepE d x = 0
    · rw [if_pos h, if_pos h]; exact run_append a b (step d x)
    · rw [if_neg h, if_neg h, if_neg h]
/-- The i-th quarter of a page's bytes. -/
def cut4 (s : ByteArray) (i : Nat) : ByteArray := s.extract (256 * i) (256 * i + 256)
def layK (p : Int) (s : ByteArray) : Nat → List Stp
  | 0 => []
  | k + 1 => layK p s k ++ [(p + (k : Nat), cut4 s k)]
def laid (p : Int) (s : ByteArray) : List Stp := layK p s 4
theorem run_one (d : Dk) (x : Stp) : run d [x] = (step d x, stepE d x) := by
  rw [run]
  split
  · rename_i h; rw [run, h]
  · rfl
theorem run_stop {d : Dk} {a : List Stp} (h : (run d a).2 ≠ 0) (b : List Stp) : run d (a ++ b) = run d a := by rw [run_append, if_neg h]
theorem run_go {d : Dk} {a : List Stp} (h : (run d a).2 = 0) (b : List Stp) : run d (a ++ b) = run (run d a).1 b := by rw [run_append, if_pos h]
theorem run_snoc {d : Dk} {a : List Stp} (h : (run d a).2 = 0) (x : Stp) : run d (a ++ [x]) = (step (run d a).1 x, stepE (run d a).1 x) := by rw [run_go h, run_one]
theorem layK_more (p : Int) (s : ByteArray) : ∀ (n k : Nat), k ≤ n → ∃ r, layK p s n = layK p s k ++ r
  | 0, k, h => ⟨[], by rw [show k = 0 by omega, List.append_nil]⟩
  | n + 1, k, h => by
    by_cases e : k = n + 1
    · subst e; exact ⟨[], by simp⟩
    · obtain ⟨r, hr⟩ := layK_more p s n k (by omega)
      exact ⟨r ++ [(p + (n : Nat), cut4 s n)], by rw [layK, hr, List.append_assoc]⟩
theorem layK_len (p : Int) (s : ByteArray) : ∀ k, (layK p s k).length = k
  | 0 => rfl
  | k + 1 => by rw [layK, List.length_append, layK_len p s k]; rfl
/-- There may be n more writes. -/
structure Fw (n : Nat) (d : Dk) : Prop where
  w : d.waits.length + n ≤ 1000000
  c : d.writes + (n : Int) ≤ 1000000
theorem Fw.mono {n m : Nat} {d : Dk} (h : Fw n d) (hm : m ≤ n) : Fw m d := ⟨by have := h.w; omega, by have := h.c; omega⟩
theorem fw_write {n : Nat} {d : Dk} (h : Fw (n + 1) d) (i : Int) (s : ByteArray) : Fw n (d.write i s) := by
  have h1 := h.w
  have h2 := h.c
  unfold Dk.write
  split
  · exact ⟨by simp [Dk.wrote]; omega, by simp only [Dk.wrote]; omega⟩
  · exact h.mono (by omega)
theorem fw_flush {n : Nat} {d : Dk} (h : Fw n d) : Fw n d.flush := by
  have h1 := h.w
  have h2 := h.c
  unfold Dk.flush
  split
  · exact ⟨by simp [Dk.settled]; omega, h2⟩
  · exact h
theorem fw_step {n : Nat} {d : Dk} (h : Fw (n + 1) d) (x : Stp) : Fw n (step d x) := by
  unfold step
  split
  · exact (fw_flush h).mono (by omega)
  · exact fw_write h _ _
theorem fw_run {n : Nat} : ∀ (l : List Stp) {d : Dk}, Fw (n + l.length) d → Fw n (run d l).1
  | [], d, h => h
  | x :: l, d, h => by
    rw [run]
    have h' : Fw (n + l.length) (step d x) := fw_step (by simpa [Nat.add_assoc] using h) x
    split
    · exact fw_run l h'
    · exact h'.mono (by omega)
/-- Does a mark tell a page? -/
def told (m : ByteArray) (i : Nat) : Bool := ((m.data.toList.getD (i / 8) 0).toNat / 2 ^ (i % 8)) % 2 == 1
abbrev Chg := Nat × ByteArray
/-- A mark that tells these pages. -/
def markL (l : List Chg) : List UInt8 := (List.range 32).map (fun b => UInt8.ofNat (((List.range 8).map (fun j => if l.any (fun c => decide (c.1 = 8 * b + j)) then 2 ^ j else 0)).foldl (· + ·) 0))
def mark (l : List Chg) : ByteArray := ⟨(markL l).toArray⟩
def flushS : Stp := (-1, ByteArray.empty)
/-- What a commit of changes, in the order of their pages, does. -/
def commitS (P : Nat) (l : List Chg) : List Stp :=
  l.flatMap (fun c => laid (1 + 4 * (c.1 : Int)) c.2) ++ [flushS, (0, mark l), flushS] ++ l.flatMap (fun c => laid (1 + 4 * ((P : Int) + c.1)) c.2) ++ [flushS, (0, Dk.sector0), flushS]
/-- The bytes of the first k sectors from a place on, as they are read. -/
def rdK (d : Dk) (p : Int) : Nat → List UInt8
  | 0 => []
  | k + 1 => rdK d p k ++ (d.read (p + (k : Nat))).1.data.toList
/-- The bytes of four sectors. -/
def pageB (d : Dk) (p : Int) : ByteArray := ⟨(rdK d p 4).toArray⟩
/-- Each sector has 256 bytes. -/
structure Sz (d : Dk) : Prop where
  l : ∀ s ∈ d.l, s.size = 256
  w : ∀ x ∈ d.waits, x.2.size = 256
theorem settle_mem (p : Nat → Bool) : ∀ (ws : List Stp) (n : Nat) (l : List ByteArray) (s : ByteArray), s ∈ Dk.settle p n ws l → s ∈ l ∨ ∃ w ∈ ws, w.2 = s
  | [], n, l, s, h => .inl h
  | w :: ws, n, l, s, h => by
    rw [Dk.settle] at h
    rcases settle_mem p ws _ _ s h with h | ⟨v, hv, e⟩
    · split at h
      · rcases List.mem_or_eq_of_mem_set h with h | h
        · exact .inl h
        · exact .inr ⟨w, List.mem_cons_self .., h.symm⟩
      · exact .inl h
    · exact .inr ⟨v, List.mem_cons_of_mem _ hv, e⟩
theorem Sz.settled {d : Dk} (h : Sz d) (p : Nat → Bool) : Sz (d.settled p) :=
  ⟨fun s hs => by
    rcases settle_mem p d.waits 0 d.l s hs with hs | ⟨w, hw, rfl⟩
    · exact h.l s hs
    · exact h.w w hw, fun x hx => by simp [Dk.settled] at hx⟩
theorem sz_write {d : Dk} (h : Sz d) (i : Int) (s : ByteArray) : Sz (d.write i s) := by
  unfold Dk.write
  split
  · rename_i he
    have hs : s.size = 256 := by
      unfold Dk.writeE at he
      split at he
      · split at he
        · assumption
        · omega
      · exact absurd he (by assumption)
    exact ⟨h.l, fun x hx => by
      simp only [Dk.wrote, List.mem_append, List.mem_singleton] at hx
      rcases hx with hx | rfl
      · exact h.w x hx
      · exact hs⟩
  · exact h
theorem sz_flush {d : Dk} (h : Sz d) : Sz d.flush := by unfold Dk.flush; split; exact h.settled _; exact h
theorem sz_fail {d : Dk} (h : Sz d) (p : List Bool) : Sz (d.fail p) := ⟨(h.settled (fun i => p.getD i false)).l, (h.settled (fun i => p.getD i false)).w⟩
theorem sz_start {d : Dk} (h : Sz d) : Sz d.start := by unfold Dk.start; split; exact ⟨h.l, h.w⟩; exact h
theorem sz_fuse {d : Dk} (h : Sz d) (n : Int) : Sz (d.setFuse n) := by unfold Dk.setFuse; split; exact ⟨h.l, h.w⟩; exact h
theorem sz_step {d : Dk} (h : Sz d) (x : Stp) : Sz (step d x) := by unfold step; split; exact sz_flush h; exact sz_write h _ _
theorem sz_run : ∀ (l : List Stp) {d : Dk}, Sz d → Sz (run d l).1
  | [], d, h => h
  | x :: l, d, h => by
    rw [run]
    split
    · exact sz_run l (sz_step h x)
    · exact sz_step h x
theorem sz_new (n : Nat) : Sz (Dk.new n) := ⟨fun s hs => by
  have := List.eq_of_mem_replicate hs
  rw [this]
  exact Dk.rep_size 256 0, fun x hx => by simp [Dk.new] at hx⟩
theorem look_size (i : Int) : ∀ (ws : List Stp) (s : ByteArray), s.size = 256 → (∀ x ∈ ws, x.2.size = 256) → (Dk.look i ws s).size = 256
  | [], s, h, _ => h
  | w :: ws, s, h, hw => by
    rw [Dk.look]
    refine look_size i ws _ ?_ (fun x hx => hw x (List.mem_cons_of_mem _ hx))
    split
    · exact hw w (List.mem_cons_self ..)
    · exact h
theorem read_size {d : Dk} (h : Sz d) {i : Int} (hu : d.use i = 0) : (d.read i).1.size = 256 := by
  unfold Dk.read
  rw [if_pos hu]
  obtain ⟨_, h0, h1⟩ := Dk.use_zero hu
  refine look_size i _ _ ?_ h.w
  rw [List.getD_eq_getElem?_getD, List.getElem?_eq_getElem (by omega)]
  exact h.l _ (List.getElem_mem _)
theorem rdK_len {d : Dk} (h : Sz d) {p : Int} : ∀ k : Nat, (∀ i : Nat, i < k → d.use (p + (i : Nat)) = 0) → (rdK d p k).length = 256 * k
  | 0, _ => rfl
  | k + 1, hu => by
    rw [rdK, List.length_append, rdK_len h k (fun i hi => hu i (by omega))]
    have := read_size h (hu k (by omega))
    have e : (d.read (p + (k : Nat))).1.data.toList.length = (d.read (p + (k : Nat))).1.size := Array.length_toList
    rw [e, this]
    omega
theorem page_size {d : Dk} (h : Sz d) {p : Int} (hu : ∀ i : Nat, i < 4 → d.use (p + (i : Nat)) = 0) : (pageB d p).size = 1024 := by
  have := rdK_len h 4 hu
  show (rdK d p 4).toArray.size = 1024
  rw [List.size_toArray, this]
def toldL (P : Nat) (m : ByteArray) : List Nat := (List.range P).filter (fun i => told m i)
def openS (P : Nat) (d : Dk) : List Stp :=
  if toldL P (d.read 0).1 = [] then [] else (toldL P (d.read 0).1).flatMap (fun (i : Nat) => laid (1 + 4 * ((P : Int) + i)) (pageB d (1 + 4 * (i : Int)))) ++ [flushS, (0, Dk.sector0), flushS]

/-- What steps do but for the fuse: what lies there for good, what waits. -/
def ex (s : List ByteArray × List Stp) (x : Stp) : List ByteArray × List Stp := if x.1 < 0 then (Dk.settle (fun _ => true) 0 s.2 s.1, []) else (s.1, s.2 ++ [x])
def exs (s : List ByteArray × List Stp) (l : List Stp) : List ByteArray × List Stp := l.foldl ex s
/-- A step that a disk of n sectors can do. -/
def Can (n : Nat) (x : Stp) : Prop := x.1 < 0 ∨ (x.1 < (n : Int) ∧ x.2.size = 256)
theorem step_shape {d : Dk} (hok : d.Ok) {x : Stp} (hx : Can d.l.length x) : (d.down = true ∧ stepE d x = 10 ∧ step d x = d) ∨
    (d.down = false ∧ stepE d x = 0 ∧ ((step d x).l, (step d x).waits) = ex (d.l, d.waits) x ∧ (step d x).l.length = d.l.length ∧ (x.1 < 0 → (step d x).down = false)) := by
  have hpos := hok.pos
  by_cases hd : d.down = true
  · have hu : ∀ i, d.use i = 10 := fun i => by unfold Dk.use; rw [if_pos hd]
    refine .inl ⟨hd, ?_, ?_⟩
    · unfold stepE
      split
      · exact hu 0
      · unfold Dk.writeE
        rw [if_neg (by rw [hu]; decide)]
        exact hu _
    · unfold step
      split
      · unfold Dk.flush
        rw [if_neg (by rw [hu]; decide)]
      · unfold Dk.write Dk.writeE
        rw [if_neg (by rw [if_neg (by rw [hu]; decide), hu]; decide)]
  · have hf : d.down = false := by simpa using hd
    have hu : ∀ i : Int, 0 ≤ i → i < (d.l.length : Int) → d.use i = 0 := fun i h0 h1 => by unfold Dk.use; rw [if_neg hd, if_neg (by omega)]
    refine .inr ⟨hf, ?_⟩
    unfold stepE step ex
    by_cases hx0 : x.1 < 0
    · rw [if_pos hx0, if_pos hx0, if_pos hx0]
      have h0 := hu 0 (by omega) (by omega)
      unfold Dk.flush
      rw [if_pos h0]
      exact ⟨h0, rfl, by simp [Dk.settled, Dk.settle_length], fun _ => hf⟩
    · rw [if_neg hx0, if_neg hx0, if_neg hx0]
      rcases hx with hx | ⟨h1, h2⟩
      · exact absurd hx hx0
      · have h0 := hu x.1 (by omega) h1
        have he : d.writeE x.1 x.2 = 0 := by unfold Dk.writeE; rw [if_pos h0, if_pos h2]
        unfold Dk.write
        rw [if_pos he]
        exact ⟨he, rfl, rfl, fun h => absurd h hx0⟩
theorem step_ok {d : Dk} (hok : d.Ok) (x : Stp) : (step d x).Ok := by unfold step; split; exact hok.flush; exact hok.write _ _
theorem run_ok : ∀ (l : List Stp) {d : Dk}, d.Ok → (run d l).1.Ok
  | [], d, h => h
  | x :: l, d, h => by
    rw [run]
    split
    · exact run_ok l (step_ok h x)
    · exact step_ok h x
/-- A run goes through, or stops behind some of its steps, the power off. -/
theorem run_shape : ∀ (l : List Stp) {d : Dk}, d.Ok → (∀ x ∈ l, Can d.l.length x) → ∃ k, k ≤ l.length ∧ ((run d l).1.l, (run d l).1.waits) = exs (d.l, d.waits) (l.take k) ∧ (run d l).1.l.length = d.l.length ∧
    (((run d l).2 = 0 ∧ k = l.length) ∨ ((run d l).2 = 10 ∧ (run d l).1.down = true ∧ k < l.length))
  | [], d, _, _ => ⟨0, Nat.le_refl _, rfl, rfl, .inl ⟨rfl, rfl⟩⟩
  | x :: l, d, hok, hc => by
    rw [run]
    rcases step_shape hok (hc x (List.mem_cons_self ..)) with ⟨h1, h2, h3⟩ | ⟨h1, h2, h3, h4, _⟩
    · rw [if_neg (by rw [h2]; decide), h3, h2]
      exact ⟨0, Nat.zero_le _, rfl, rfl, .inr ⟨rfl, h1, Nat.succ_pos _⟩⟩
    · rw [if_pos h2]
      obtain ⟨k, hk, he, hl, hr⟩ := run_shape l (step_ok hok x) (fun y hy => by rw [h4]; exact hc y (List.mem_cons_of_mem _ hy))
      refine ⟨k + 1, by simpa using hk, ?_, hl.trans h4, ?_⟩
      · rw [he, h3, List.take_succ_cons]
        rfl
      · rcases hr with ⟨a, b⟩ | ⟨a, b, c⟩
        · exact .inl ⟨a, by simp [b]⟩
        · exact .inr ⟨a, b, by simpa using c⟩
theorem run_up : ∀ (l : List Stp) {d : Dk} (x : Stp), d.Ok → (∀ y ∈ l ++ [x], Can d.l.length y) → x.1 < 0 → (run d (l ++ [x])).2 = 0 → (run d (l ++ [x])).1.down = false := by
  intro l d x hok hc hx he
  rw [run_append] at he ⊢
  by_cases h0 : (run d l).2 = 0
  · rw [if_pos h0] at he ⊢
    obtain ⟨k, _, _, hl, _⟩ := run_shape l hok (fun y hy => hc y (List.mem_append_left _ hy))
    have hx2 : Can (run d l).1.l.length x := by rw [hl]; exact hc x (by simp)
    rw [run] at he ⊢
    rcases step_shape (run_ok l hok) hx2 with ⟨h1, h2, h3⟩ | ⟨h1, h2, h3, h4, h5⟩
    · rw [if_neg (by rw [h2]; decide)] at he
      simp only at he
      omega
    · rw [if_pos h2]
      exact h5 hx
  · rw [if_neg h0] at he
    exact absurd he h0
theorem exs_append (s : List ByteArray × List Stp) (a b : List Stp) : exs s (a ++ b) = exs (exs s a) b := List.foldl_append ..
theorem exs_writes (l : List ByteArray) : ∀ (a ws : List Stp), (∀ x ∈ a, 0 ≤ x.1) → exs (l, ws) a = (l, ws ++ a)
  | [], ws, _ => by simp [exs]
  | x :: a, ws, h => by
    have hx := h x (List.mem_cons_self ..)
    show exs (ex (l, ws) x) a = _
    unfold ex
    rw [if_neg (by omega), exs_writes l a _ (fun y hy => h y (List.mem_cons_of_mem _ hy))]
    simp
theorem exs_flush (s : List ByteArray × List Stp) : exs s [flushS] = (Dk.settle (fun _ => true) 0 s.2 s.1, []) := rfl
end Go.Proofs.Ytoolkamajlgcbaa
