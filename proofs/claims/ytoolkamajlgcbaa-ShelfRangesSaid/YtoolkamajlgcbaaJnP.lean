/- JnP: what a journal does to its disk, in plain Lean; what a failure amid it leaves. No program here. -/
import Derived.Test.YtoolkamajlgcbaaJdP
set_option linter.unusedVariables false
set_option linter.unusedSimpArgs false
namespace Go.Proofs.Ytoolkamajlgcbaa

abbrev Stp := Int × ByteArray
/-- A step's error; a place below 0 is a flush. -/
def stepE (d : Dk) (x : Stp) : Int := if x.1 < 0 then d.use 0 else d.writeE x.1 x.2
def step (d : Dk) (x : Stp) : Dk := if x.1 < 0 then d.flush else d.write x.1 x.2
def run : Dk → List Stp → Dk × Int
  | d, [] => (d, 0)
  | d, x :: l => if stepE d x = 0 then run (step d x) l else (step d x, stepE d x)
theorem run_nil (d : Dk) : run d [] = (d, 0) := rfl
theorem run_cons (d : Dk) (x : Stp) (l : List Stp) : run d (x :: l) = if stepE d x = 0 then run (step d x) l else (step d x, stepE d x) := rfl
theorem run_append : ∀ (a b : List Stp) (d : Dk), run d (a ++ b) = if (run d a).2 = 0 then run (run d a).1 b else run d a
  | [], b, d => by simp [run]
  | x :: a, b, d => by
    rw [List.cons_append, run, run]
    by_cases h : stepE d x = 0
    · rw [if_pos h, if_pos h]; exact run_append a b (step d x)
    · rw [if_neg h, if_neg h, if_neg h]
/-- The i-th quarter of a page's bytes. -/
def cut4 (s : ByteArray) (i : Nat) : ByteArray := s.extract (256 * i) (256 * i + 256)
def layK (p : Int) (s : ByteArray) : Nat → List Stp
  | 0 => []
  | k + 1 => layK p s k ++ [(p + (k : Nat), cut4 s k)]
def laid (p : Int) (s : ByteArray) : List Stp := layK p s 4
theorem run_one (d : Dk) (x : Stp) : run d [x] = (step d x, stepE d x) := by
  rw [run]
  split
  · rename_i h; rw [run, h]
  · rfl
theorem run_stop {d : Dk} {a : List Stp} (h : (run d a).2 ≠ 0) (b : List Stp) : run d (a ++ b) = run d a := by rw [run_append, if_neg h]
theorem run_go {d : Dk} {a : List Stp} (h : (run d a).2 = 0) (b : List Stp) : run d (a ++ b) = run (run d a).1 b := by rw [run_append, if_pos h]
theorem run_snoc {d : Dk} {a : List Stp} (h : (run d a).2 = 0) (x : Stp) : run d (a ++ [x]) = (step (run d a).1 x, stepE (run d a).1 x) := by rw [run_go h, run_one]
theorem layK_more (p : Int) (s : ByteArray) : ∀ (n k : Nat), k ≤ n → ∃ r, layK p s n = layK p s k ++ r
  | 0, k, h => ⟨[], by rw [show k = 0 by omega, List.append_nil]⟩
  | n + 1, k, h => by
    by_cases e : k = n + 1
    · subst e; exact ⟨[], by simp⟩
    · obtain ⟨r, hr⟩ := layK_more p s n k (by omega)
      exact ⟨r ++ [(p + (n : Nat), cut4 s n)], by rw [layK, hr, List.append_assoc]⟩
theorem layK_len (p : Int) (s : ByteArray) : ∀ k, (layK p s k).length = k
  | 0 => rfl
  | k + 1 => by rw [layK, List.length_append, layK_len p s k]; rfl
/-- There may be n more writes. -/
structure Fw (n : Nat) (d : Dk) : Prop where
  w : d.waits.length + n ≤ 1000000
  c : d.writes + (n : Int) ≤ 1000000
theorem Fw.mono {n m : Nat} {d : Dk} (h : Fw n d) (hm : m ≤ n) : Fw m d := ⟨by have := h.w; omega, by have := h.c; omega⟩
theorem fw_write {n : Nat} {d : Dk} (h : Fw (n + 1) d) (i : Int) (s : ByteArray) : Fw n (d.write i s) := by
  have h1 := h.w
  have h2 := h.c
  unfold Dk.write
  split
  · exact ⟨by simp [Dk.wrote]; omega, by simp only [Dk.wrote]; omega⟩
  · exact h.mono (by omega)
theorem fw_flush {n : Nat} {d : Dk} (h : Fw n d) : Fw n d.flush := by
  have h1 := h.w
  have h2 := h.c
  unfold Dk.flush
  split
  · exact ⟨by simp [Dk.settled]; omega, h2⟩
  · exact h
theorem fw_step {n : Nat} {d : Dk} (h : Fw (n + 1) d) (x : Stp) : Fw n (step d x) := by
  unfold step
  split
  · exact (fw_flush h).mono (by omega)
  · exact fw_write h _ _
theorem fw_run {n : Nat} : ∀ (l : List Stp) {d : Dk}, Fw (n + l.length) d → Fw n (run d l).1
  | [], d, h => h
  | x :: l, d, h => by
    rw [run]
    have h' : Fw (n + l.length) (step d x) := fw_step (by simpa [Nat.add_assoc] using h) x
    split
    · exact fw_run l h'
    · exact h'.mono (by omega)
/-- Does a mark tell a page? -/
def told (m : ByteArray) (i : Nat) : Bool := ((m.data.toList.getD (i / 8) 0).toNat / 2 ^ (i % 8)) % 2 == 1
abbrev Chg := Nat × ByteArray
/-- A mark that tells these pages. -/
def markL (l : List Chg) : List UInt8 := (List.range 32).map (fun b => UInt8.ofNat (((List.range 8).map (fun j => if l.any (fun c => decide (c.1 = 8 * b + j)) then 2 ^ j else 0)).foldl (· + ·) 0))
def mark (l : List Chg) : ByteArray := ⟨(markL l).toArray⟩
def flushS : Stp := (-1, ByteArray.empty)
/-- What a commit of changes, in the order of their pages, does. -/
def commitS (P : Nat) (l : List Chg) : List Stp :=
  l.flatMap (fun c => laid (1 + 4 * (c.1 : Int)) c.2) ++ [flushS, (0, mark l), flushS] ++ l.flatMap (fun c => laid (1 + 4 * ((P : Int) + c.1)) c.2) ++ [flushS, (0, Dk.sector0), flushS]
/-- The bytes of the first k sectors from a place on, as they are read. -/
def rdK (d : Dk) (p : Int) : Nat → List UInt8
  | 0 => []
  | k + 1 => rdK d p k ++ (d.read (p + (k : Nat))).1.data.toList
/-- The bytes of four sectors. -/
def pageB (d : Dk) (p : Int) : ByteArray := ⟨(rdK d p 4).toArray⟩
/-- Each sector has 256 bytes. -/
structure Sz (d : Dk) : Prop where
  l : ∀ s ∈ d.l, s.size = 256
  w : ∀ x ∈ d.waits, x.2.size = 256
theorem settle_mem (p : Nat → Bool) : ∀ (ws : List Stp) (n : Nat) (l : List ByteArray) (s : ByteArray), s ∈ Dk.settle p n ws l → s ∈ l ∨ ∃ w ∈ ws, w.2 = s
  | [], n, l, s, h => .inl h
  | w :: ws, n, l, s, h => by
    rw [Dk.settle] at h
    rcases settle_mem p ws _ _ s h with h | ⟨v, hv, e⟩
    · split at h
      · rcases List.mem_or_eq_of_mem_set h with h | h
        · exact .inl h
        · exact .inr ⟨w, List.mem_cons_self .., h.symm⟩
      · exact .inl h
    · exact .inr ⟨v, List.mem_cons_of_mem _ hv, e⟩
theorem Sz.settled {d : Dk} (h : Sz d) (p : Nat → Bool) : Sz (d.settled p) :=
  ⟨fun s hs => by
    rcases settle_mem p d.waits 0 d.l s hs with hs | ⟨w, hw, rfl⟩
    · exact h.l s hs
    · exact h.w w hw, fun x hx => by simp [Dk.settled] at hx⟩
theorem sz_write {d : Dk} (h : Sz d) (i : Int) (s : ByteArray) : Sz (d.write i s) := by
  unfold Dk.write
  split
  · rename_i he
    have hs : s.size = 256 := by
      unfold Dk.writeE at he
      split at he
      · split at he
        · assumption
        · omega
      · exact absurd he (by assumption)
    exact ⟨h.l, fun x hx => by
      simp only [Dk.wrote, List.mem_append, List.mem_singleton] at hx
      rcases hx with hx | rfl
      · exact h.w x hx
      · exact hs⟩
  · exact h
theorem sz_flush {d : Dk} (h : Sz d) : Sz d.flush := by unfold Dk.flush; split; exact h.settled _; exact h
theorem sz_fail {d : Dk} (h : Sz d) (p : List Bool) : Sz (d.fail p) := ⟨(h.settled (fun i => p.getD i false)).l, (h.settled (fun i => p.getD i false)).w⟩
theorem sz_start {d : Dk} (h : Sz d) : Sz d.start := by unfold Dk.start; split; exact ⟨h.l, h.w⟩; exact h
theorem sz_fuse {d : Dk} (h : Sz d) (n : Int) : Sz (d.setFuse n) := by unfold Dk.setFuse; split; exact ⟨h.l, h.w⟩; exact h
theorem sz_step {d : Dk} (h : Sz d) (x : Stp) : Sz (step d x) := by unfold step; split; exact sz_flush h; exact sz_write h _ _
theorem sz_run : ∀ (l : List Stp) {d : Dk}, Sz d → Sz (run d l).1
  | [], d, h => h
  | x :: l, d, h => by
    rw [run]
    split
    · exact sz_run l (sz_step h x)
    · exact sz_step h x
theorem sz_new (n : Nat) : Sz (Dk.new n) := ⟨fun s hs => by
  have := List.eq_of_mem_replicate hs
  rw [this]
  exact Dk.rep_size 256 0, fun x hx => by simp [Dk.new] at hx⟩
theorem look_size (i : Int) : ∀ (ws : List Stp) (s : ByteArray), s.size = 256 → (∀ x ∈ ws, x.2.size = 256) → (Dk.look i ws s).size = 256
  | [], s, h, _ => h
  | w :: ws, s, h, hw => by
    rw [Dk.look]
    refine look_size i ws _ ?_ (fun x hx => hw x (List.mem_cons_of_mem _ hx))
    split
    · exact hw w (List.mem_cons_self ..)
    · exact h
theorem read_size {d : Dk} (h : Sz d) {i : Int} (hu : d.use i = 0) : (d.read i).1.size = 256 := by
  unfold Dk.read
  rw [if_pos hu]
  obtain ⟨_, h0, h1⟩ := Dk.use_zero hu
  refine look_size i _ _ ?_ h.w
  rw [List.getD_eq_getElem?_getD, List.getElem?_eq_getElem (by omega)]
  exact h.l _ (List.getElem_mem _)
theorem rdK_len {d : Dk} (h : Sz d) {p : Int} : ∀ k : Nat, (∀ i : Nat, i < k → d.use (p + (i : Nat)) = 0) → (rdK d p k).length = 256 * k
  | 0, _ => rfl
  | k + 1, hu => by
    rw [rdK, List.length_append, rdK_len h k (fun i hi => hu i (by omega))]
    have := read_size h (hu k (by omega))
    have e : (d.read (p + (k : Nat))).1.data.toList.length = (d.read (p + (k : Nat))).1.size := Array.length_toList
    rw [e, this]
    omega
theorem page_size {d : Dk} (h : Sz d) {p : Int} (hu : ∀ i : Nat, i < 4 → d.use (p + (i : Nat)) = 0) : (pageB d p).size = 1024 := by
  have := rdK_len h 4 hu
  show (rdK d p 4).toArray.size = 1024
  rw [List.size_toArray, this]
def toldL (P : Nat) (m : ByteArray) : List Nat := (List.range P).filter (fun i => told m i)
def openS (P : Nat) (d : Dk) : List Stp :=
  if toldL P (d.read 0).1 = [] then [] else (toldL P (d.read 0).1).flatMap (fun (i : Nat) => laid (1 + 4 * ((P : Int) + i)) (pageB d (1 + 4 * (i : Int)))) ++ [flushS, (0, Dk.sector0), flushS]

/-- What steps do but for the fuse: what lies there for good, what waits. -/
def ex (s : List ByteArray × List Stp) (x : Stp) : List ByteArray × List Stp := if x.1 < 0 then (Dk.settle (fun _ => true) 0 s.2 s.1, []) else (s.1, s.2 ++ [x])
def exs (s : List ByteArray × List Stp) (l : List Stp) : List ByteArray × List Stp := l.foldl ex s
/-- A step that a disk of n sectors can do. -/
def Can (n : Nat) (x : Stp) : Prop := x.1 < 0 ∨ (x.1 < (n : Int) ∧ x.2.size = 256)
theorem step_shape {d : Dk} (hok : d.Ok) {x : Stp} (hx : Can d.l.length x) : (d.down = true ∧ stepE d x = 10 ∧ step d x = d) ∨
    (d.down = false ∧ stepE d x = 0 ∧ ((step d x).l, (step d x).waits) = ex (d.l, d.waits) x ∧ (step d x).l.length = d.l.length ∧ (x.1 < 0 → (step d x).down = false)) := by
  have hpos := hok.pos
  by_cases hd : d.down = true
  · have hu : ∀ i, d.use i = 10 := fun i => by unfold Dk.use; rw [if_pos hd]
    refine .inl ⟨hd, ?_, ?_⟩
    · unfold stepE
      split
      · exact hu 0
      · unfold Dk.writeE
        rw [if_neg (by rw [hu]; decide)]
        exact hu _
    · unfold step
      split
      · unfold Dk.flush
        rw [if_neg (by rw [hu]; decide)]
      · unfold Dk.write Dk.writeE
        rw [if_neg (by rw [if_neg (by rw [hu]; decide), hu]; decide)]
  · have hf : d.down = false := by simpa using hd
    have hu : ∀ i : Int, 0 ≤ i → i < (d.l.length : Int) → d.use i = 0 := fun i h0 h1 => by unfold Dk.use; rw [if_neg hd, if_neg (by omega)]
    refine .inr ⟨hf, ?_⟩
    unfold stepE step ex
    by_cases hx0 : x.1 < 0
    · rw [if_pos hx0, if_pos hx0, if_pos hx0]
      have h0 := hu 0 (by omega) (by omega)
      unfold Dk.flush
      rw [if_pos h0]
      exact ⟨h0, rfl, by simp [Dk.settled, Dk.settle_length], fun _ => hf⟩
    · rw [if_neg hx0, if_neg hx0, if_neg hx0]
      rcases hx with hx | ⟨h1, h2⟩
      · exact absurd hx hx0
      · have h0 := hu x.1 (by omega) h1
        have he : d.writeE x.1 x.2 = 0 := by unfold Dk.writeE; rw [if_pos h0, if_pos h2]
        unfold Dk.write
        rw [if_pos he]
        exact ⟨he, rfl, rfl, fun h => absurd h hx0⟩
theorem step_ok {d : Dk} (hok : d.Ok) (x : Stp) : (step d x).Ok := by unfold step; split; exact hok.flush; exact hok.write _ _
theorem run_ok : ∀ (l : List Stp) {d : Dk}, d.Ok → (run d l).1.Ok
  | [], d, h => h
  | x :: l, d, h => by
    rw [run]
    split
    · exact run_ok l (step_ok h x)
    · exact step_ok h x
/-- A run goes through, or stops behind some of its steps, the power off. -/
theorem run_shape : ∀ (l : List Stp) {d : Dk}, d.Ok → (∀ x ∈ l, Can d.l.length x) → ∃ k, k ≤ l.length ∧ ((run d l).1.l, (run d l).1.waits) = exs (d.l, d.waits) (l.take k) ∧ (run d l).1.l.length = d.l.length ∧
    (((run d l).2 = 0 ∧ k = l.length) ∨ ((run d l).2 = 10 ∧ (run d l).1.down = true ∧ k < l.length))
  | [], d, _, _ => ⟨0, Nat.le_refl _, rfl, rfl, .inl ⟨rfl, rfl⟩⟩
  | x :: l, d, hok, hc => by
    rw [run]
    rcases step_shape hok (hc x (List.mem_cons_self ..)) with ⟨h1, h2, h3⟩ | ⟨h1, h2, h3, h4, _⟩
    · rw [if_neg (by rw [h2]; decide), h3, h2]
      exact ⟨0, Nat.zero_le _, rfl, rfl, .inr ⟨rfl, h1, Nat.succ_pos _⟩⟩
    · rw [if_pos h2]
      obtain ⟨k, hk, he, hl, hr⟩ := run_shape l (step_ok hok x) (fun y hy => by rw [h4]; exact hc y (List.mem_cons_of_mem _ hy))
      refine ⟨k + 1, by simpa using hk, ?_, hl.trans h4, ?_⟩
      · rw [he, h3, List.take_succ_cons]
        rfl
      · rcases hr with ⟨a, b⟩ | ⟨a, b, c⟩
        · exact .inl ⟨a, by simp [b]⟩
        · exact .inr ⟨a, b, by simpa using c⟩
theorem run_up : ∀ (l : List Stp) {d : Dk} (x : Stp), d.Ok → (∀ y ∈ l ++ [x], Can d.l.length y) → x.1 < 0 → (run d (l ++ [x])).2 = 0 → (run d (l ++ [x])).1.down = false := by
  intro l d x hok hc hx he
  rw [run_append] at he ⊢
  by_cases h0 : (run d l).2 = 0
  · rw [if_pos h0] at he ⊢
    obtain ⟨k, _, _, hl, _⟩ := run_shape l hok (fun y hy => hc y (List.mem_append_left _ hy))
    have hx2 : Can (run d l).1.l.length x := by rw [hl]; exact hc x (by simp)
    rw [run] at he ⊢
    rcases step_shape (run_ok l hok) hx2 with ⟨h1, h2, h3⟩ | ⟨h1, h2, h3, h4, h5⟩
    · rw [if_neg (by rw [h2]; decide)] at he
      simp only at he
      omega
    · rw [if_pos h2]
      exact h5 hx
  · rw [if_neg h0] at he
    exact absurd he h0
theorem exs_append (s : List ByteArray × List Stp) (a b : List Stp) : exs s (a ++ b) = exs (exs s a) b := List.foldl_append ..
theorem exs_writes (l : List ByteArray) : ∀ (a ws : List Stp), (∀ x ∈ a, 0 ≤ x.1) → exs (l, ws) a = (l, ws ++ a)
  | [], ws, _ => by simp [exs]
  | x :: a, ws, h => by
    have hx := h x (List.mem_cons_self ..)
    show exs (ex (l, ws) x) a = _
    unfold ex
    rw [if_neg (by omega), exs_writes l a _ (fun y hy => h y (List.mem_cons_of_mem _ hy))]
    simp
theorem exs_flush (s : List ByteArray × List Stp) : exs s [flushS] = (Dk.settle (fun _ => true) 0 s.2 s.1, []) := rfl
end Go.Proofs.Ytoolkamajlgcbaa
