/- ExtA: the model of an area; the walks of New, Size, Holes, Free, Largest. -/
import Derived.Test.YthloinmnojlleaaBase
import Derived.Test.YthloinmnojlleaaReg
import Derived.Test.YthloinmnojlleaaProg
import Derived.BigQuiet
import Derived.BigCall
import Derived.WalkSpells
import Derived.WalkLawsBesides
import Derived.Laws.AppendOwnNone
import Derived.Deep.OwnRows
import Derived.Laws.OwnMore
import Derived.Lib.SliceRun
set_option linter.unusedVariables false
set_option linter.unusedSimpArgs false
namespace Go.Proofs.Ythloinmnojlleaa
open Go.RowKit

/-- An area: its size, its holes, where the rule Next goes on. -/
structure Ar where
  size : Nat
  holes : List (Nat × Nat)
  next : Nat
def sp : List (Nat × Nat) → List Value
  | [] => []
  | h :: l => .int .i64 (h.1 : Int) :: .int .i64 (h.2 : Int) :: sp l
theorem sp_length : ∀ l, (sp l).length = l.length * 2
  | [] => rfl
  | h :: l => by simp [sp, sp_length l]; omega
theorem sp_append : ∀ a b, sp (a ++ b) = sp a ++ sp b
  | [], b => rfl
  | h :: a, b => by simp [sp, sp_append a b]
theorem sp_one : ∀ l, ∀ u ∈ sp l, u.oneCell' = true
  | [], u, h => by simp [sp] at h
  | h :: l, u, hu => by
    simp only [sp, List.mem_cons] at hu
    rcases hu with rfl | rfl | hu
    · rfl
    · rfl
    · exact sp_one l u hu
theorem sp_get : ∀ (l : List (Nat × Nat)) (k : Nat) (h : k < l.length), (sp l)[k * 2]? = some (.int .i64 (l[k].1 : Int)) ∧ (sp l)[k * 2 + 1]? = some (.int .i64 (l[k].2 : Int))
  | x :: l, 0, h => ⟨rfl, rfl⟩
  | x :: l, k + 1, h => by
    have := sp_get l k (by simpa using h)
    rw [show (k + 1) * 2 = k * 2 + 2 by omega, show k * 2 + 2 + 1 = k * 2 + 1 + 2 by omega]
    simpa [sp] using this
theorem sp_drop : ∀ (l : List (Nat × Nat)) (k : Nat), sp (l.drop k) = (sp l).drop (k * 2)
  | l, 0 => by simp
  | [], k + 1 => by simp [sp]
  | x :: l, k + 1 => by
    rw [show (k + 1) * 2 = k * 2 + 1 + 1 by omega]
    simp only [sp, List.drop_succ_cons]
    exact sp_drop l k
theorem sp_take : ∀ (l : List (Nat × Nat)) (k : Nat), sp (l.take k) = (sp l).take (k * 2)
  | l, 0 => by simp [sp]
  | [], k + 1 => by simp [sp]
  | x :: l, k + 1 => by
    rw [show (k + 1) * 2 = k * 2 + 1 + 1 by omega]
    simp only [sp, List.take_succ_cons]
    rw [sp_take l k]
/-- Holes in order, from lo on; no two touch. -/
def Lies (size : Nat) : Nat → List (Nat × Nat) → Prop
  | _, [] => True
  | lo, h :: l => lo ≤ h.1 ∧ 1 ≤ h.2 ∧ h.1 + h.2 ≤ size ∧ Lies size (h.1 + h.2 + 1) l
structure Ar.Ok (a : Ar) : Prop where
  pos : 1 ≤ a.size
  most : a.size ≤ 1048576
  lies : Lies a.size 0 a.holes
  next : a.next ≤ a.size
theorem lies_len {n : Nat} : ∀ {lo : Nat} {l : List (Nat × Nat)}, Lies n lo l → lo ≤ n + 1 → l.length + lo ≤ n + 1
  | lo, [], _, h => by simpa using h
  | lo, x :: l, h, _ => by
    obtain ⟨h1, h2, h3, h4⟩ := h
    have := lies_len h4 (by omega)
    simp only [List.length_cons]
    omega
theorem Ar.Ok.few {a : Ar} (h : a.Ok) : a.holes.length ≤ 1048577 := by have := lies_len h.lies (by omega); have := h.most; omega
theorem lies_get {n : Nat} : ∀ {lo : Nat} {l : List (Nat × Nat)}, Lies n lo l → ∀ k (h : k < l.length), lo ≤ l[k].1 ∧ 1 ≤ l[k].2 ∧ l[k].1 + l[k].2 ≤ n
  | lo, x :: l, h, 0, _ => ⟨h.1, h.2.1, h.2.2.1⟩
  | lo, x :: l, h, k + 1, hk => by
    have h4 := h.2.2.2
    have := lies_get h4 k (by simpa using hk)
    have h1 := h.1
    simp only [List.getElem_cons_succ]
    exact ⟨by omega, this.2⟩

theorem infoSp : (Try.prog.info? 30).map (fun i => (i.zero, i.size, i.bytes)) = some (some (.agg #[.int .i64 0, .int .i64 0]), 2, 16) := by kernel_rfl
/-- The area a lies at block g, in blocks of F alone. -/
structure IsAr (w : World) (F : Nat → Prop) (g : Nat) (a : Ar) (v : Value) : Prop where
  blk : w.heap[g]? = some (.cells #[.int .i64 a.size, v, .int .i64 a.next] 65 (0, 0))
  own : w.ownsRow 0 30 2 v a.holes.length (sp a.holes)
  fg : F g
  fv : ∀ k, v.ownBlock = some k → F k
  lt : ∀ k, F k → k < w.heap.size
  ok : a.Ok
def HasAr (w : World) (F : Nat → Prop) (g : Nat) (a : Ar) : Prop := ∃ v, IsAr w F g a v
theorem IsAr.keep {w w' : World} {S F : Nat → Prop} {g : Nat} {a : Ar} {v : Value} (h : IsAr w F g a v) (ht : Touch S w w') (hS : ∀ k, F k → ¬ S k) : IsAr w' F g a v :=
  ⟨blk_touch ht h.blk (hS _ h.fg), own_touch h.own ht (fun k hk => hS k (h.fv k hk)), h.fg, h.fv, fun k hk => Nat.lt_of_lt_of_le (h.lt k hk) ht.size, h.ok⟩
theorem IsAr.below {w w' : World} {F : Nat → Prop} {g : Nat} {a : Ar} {v : Value} (h : IsAr w F g a v) (hb : Below w.heap.size w w') : IsAr w' F g a v :=
  h.keep (S := fun _ => False) (Touch.of_below hb) (fun _ _ x => x)
theorem own_slice {w : World} {base n : Nat} {e : TypeId} {size : Nat} {v : Value} {xs : List Value} (h : w.ownsRow base e size v n xs) : ∃ A c, v = .slice A n c := by
  rcases h.2 with ⟨rfl, rfl⟩ | ⟨g, cap, cur, rfl, _⟩
  · exact ⟨none, 0, rfl⟩
  · exact ⟨_, cap, rfl⟩
theorem own_forms {w : World} {base n : Nat} {e : TypeId} {size : Nat} {v : Value} {xs : List Value} (h : w.ownsRow base e size v n xs) : (v = .slice none 0 0 ∧ n = 0) ∨ ∃ g c, v = .slice (some ⟨g, 0, none⟩) n c := by
  rcases h.2 with ⟨rfl, rfl⟩ | ⟨g, cap, cur, rfl, _⟩
  · exact .inl ⟨rfl, rfl⟩
  · exact .inr ⟨g, cap, rfl⟩

/-- The area behind New. -/
def Ar.new (n : Nat) : Ar := ⟨n, [(0, n)], 0⟩
theorem Ar.new_ok {n : Nat} (h1 : 1 ≤ n) (h2 : n ≤ 1048576) : (Ar.new n).Ok := ⟨h1, h2, ⟨Nat.zero_le _, h1, by simp [Ar.new], trivial⟩, Nat.zero_le _⟩
theorem new_yes (w : World) (n : Nat) (h1 : 1 ≤ n) (h2 : n ≤ 1048576) :
    Calls Try.prog 9 #[.int .i64 n] w fun e w' => ∃ g F v, e = .returned (.tuple #[.pointer (some ⟨g, 0, none⟩), .int .i64 0]) ∧ IsAr w' F g (Ar.new n) v ∧ (∀ k, F k → w.heap.size ≤ k) ∧ Below w.heap.size w w' := by
  have q1 : decide ((n : Int) < 1) = false := by simp; omega
  have q2 : decide ((1048576 : Int) < n) = false := by simp; omega
  go_enter Try.func9, Try.ntmps9
  go_wp2
  go_ret2
  refine ⟨w.heap.size + 1, fun k => w.heap.size ≤ k ∧ k < w.heap.size + 2, .slice (some ⟨w.heap.size, 0, none⟩) 1 1, rfl, ⟨by
    have := blk_new (w.alloc (.cells #[.int .i64 0, .int .i64 n] 30)) (.cells #[.int .i64 n, .slice (some ⟨w.heap.size, 0, none⟩) 1 1, .int .i64 0] 65)
    rw [World.size_alloc] at this
    exact this, ?_, ⟨by omega, by omega⟩, ?_, fun k hk => by simp; omega, Ar.new_ok h1 h2⟩, fun k hk => hk.1, ((Below.refl _ w).alloc (Nat.le_refl _) _).alloc (by simp) _⟩
  · exact (World.ownsRow_lit (base := 0) (e := 30) (size := 2) w #[.int .i64 0, .int .i64 n] 1 (Nat.zero_le _) (by decide) rfl).alloc _
  · intro k hk
    simp [Value.ownBlock] at hk
    omega
theorem new_no (w : World) (n : Int) (h : n < 1 ∨ 1048576 < n) :
    Calls Try.prog 9 #[.int .i64 n] w fun e w' => e = .returned (.tuple #[.pointer none, .int .i64 1]) ∧ w = w' := by
  by_cases h1 : n < 1
  · have q1 : decide (n < 1) = true := by simpa using h1
    go_enter Try.func9, Try.ntmps9
    go_wp2
    go_ret2
    exact ⟨rfl, rfl⟩
  · have q1 : decide (n < 1) = false := by simpa using h1
    have q2 : decide (1048576 < n) = true := by simp; omega
    go_enter Try.func9, Try.ntmps9
    go_wp2
    go_ret2
    exact ⟨rfl, rfl⟩

set_option maxHeartbeats 800000 in
set_option maxRecDepth 100000 in
theorem clone_spans (w : World) (v : Value) (L : List (Nat × Nat)) (h : w.ownsRow 0 30 2 v L.length (sp L)) (hL : L.length ≤ 1048577) :
    Calls Try.prog 33 #[v] w fun e w' => ∃ v', e = .returned v' ∧ w'.ownsRow w.heap.size 30 2 v' L.length (sp L) ∧ Below w.heap.size w w' := by
  obtain ⟨i0, hi, hz0, hz1, hz2⟩ := info_parts infoSp
  have q22 : ∀ (w : World) (a : Option Addr) (n c n' c' : Nat), (binOp .eql 28 (.slice a n c) (.slice none n' c')).run Try.prog w = .ok (.bool a.isNone) w := fun w a n c n' c' => Lib.run_eql_slice_nil w _ _ a n c n' c' Try.underlying28
  rcases own_forms h with ⟨rfl, h0⟩ | ⟨g, c, rfl⟩
  · obtain rfl : L = [] := List.eq_nil_of_length_eq_zero h0
    go_enter Try.func33, Try.ntmps33
    go_wp2
    go_ret
    exact ⟨_, rfl, World.ownsRow_nil _ _ _ _, Below.refl _ _⟩
  · have hlit := World.ownsRow_lit (base := w.heap.size) (e := 30) (size := 2) w #[] 0 (Nat.le_refl _) (by decide) rfl
    simp at hlit
    have HLIT := Lib.hid hlit
    have HSRC : Hid (∀ j u, (sp L)[j]? = some u → (w.alloc (.cells #[] 30)).cell? ((⟨g, 0, none⟩ : Addr).add j) = some u) := fun j u hu => cell_below ((Below.refl _ w).alloc (Nat.le_refl _) _) (h.cells (g := g) rfl j u hu)
    clear hlit h
    go_enter Try.func33, Try.ntmps33
    go_wp2_with (at_builtin; refine wpList_append_own_at _ rfl (.tmp 5) (.tmp 6) 28 rfl w.heap.size 30 i0 _ 2 16 Try.underlying28 hi hz0 hz1 hz2 rfl (by decide) (.slice (some ⟨w.heap.size, 0, none⟩) 0 0) 0 [] rfl HLIT.out ⟨g, 0, none⟩ L.length c (sp L) rfl (sp_length L) HSRC.out (sp_one L) (by unfold maxLen; omega) (by omega) (by simp) ?_)
    intro v1 w1 ho1 hg1 _ hat1
    try simp only [Nat.zero_add, List.nil_append] at ho1
    have hB1 : Hid (Below w.heap.size w w1) := ((Below.refl _ w).alloc (Nat.le_refl _) _).grown hg1 (by simp) (fun k e => by simp [Value.ownBlock] at e; omega)
    have HO := Lib.hid ho1
    clear ho1 hg1 hat1
    go_wp2
    go_ret
    exact ⟨_, rfl, HO.out, hB1.out⟩

theorem IsAr.cells {w : World} {F : Nat → Prop} {g : Nat} {a : Ar} {v : Value} (h : IsAr w F g a v) : w.cell? ⟨g, 0, none⟩ = some (.int .i64 a.size) ∧ w.cell? ⟨g, 1, none⟩ = some v ∧ w.cell? ⟨g, 2, none⟩ = some (.int .i64 a.next) := by
  have c0 := blk_cell h.blk 0; have c1 := blk_cell h.blk 1; have c2 := blk_cell h.blk 2
  simp only [List.getElem?_toArray, List.getElem?_cons_zero, List.getElem?_cons_succ] at c0 c1 c2
  exact ⟨c0, c1, c2⟩
theorem size_any (w : World) (F : Nat → Prop) (g : Nat) (a : Ar) (v : Value) (h : IsAr w F g a v) : Calls Try.prog 18 #[.pointer (some ⟨g, 0, none⟩)] w fun e w' => e = .returned (.int .i64 a.size) ∧ w = w' := by
  obtain ⟨c0, _, _⟩ := h.cells
  go_enter Try.func18, Try.ntmps18
  go_wp2
  go_ret
  exact ⟨rfl, rfl⟩
theorem holes_any (w : World) (F : Nat → Prop) (g : Nat) (a : Ar) (v : Value) (h : IsAr w F g a v) : Calls Try.prog 15 #[.pointer (some ⟨g, 0, none⟩)] w fun e w' =>
    ∃ v', e = .returned v' ∧ w'.ownsRow w.heap.size 30 2 v' a.holes.length (sp a.holes) ∧ Below w.heap.size w w' := by
  obtain ⟨_, c1, _⟩ := h.cells
  have CL := Lib.hid (clone_spans w v a.holes h.own h.ok.few)
  obtain ⟨A, c, rfl⟩ := own_slice h.own
  clear h
  go_enter Try.func15, Try.ntmps15
  go_wp2_with fail
  refine CL.out.mono ?_
  rintro e w1 ⟨v', rfl, ho, b1⟩
  have HO := Lib.hid ho; have B1 := Lib.hid b1
  clear ho b1 CL
  go_wp2
  go_ret
  exact ⟨v', rfl, HO.out, B1.out⟩
/-- A row of spans: where each lies. -/
theorem row_at {w : World} {b : Nat} {v : Value} {L : List (Nat × Nat)} (h : w.ownsRow b 30 2 v L.length (sp L)) (hp : 0 < L.length) : ∃ g c, v = .slice (some ⟨g, 0, none⟩) L.length c ∧ b ≤ g ∧ g < w.heap.size ∧ ∀ k (hk : k < L.length), w.cell? ⟨g, k * 2, none⟩ = some (.int .i64 (L[k].1 : Int)) ∧ w.cell? ⟨g, k * 2 + 1, none⟩ = some (.int .i64 (L[k].2 : Int)) := by
  rcases h.2 with ⟨_, h0⟩ | ⟨g, c, cur, rfl, _⟩
  · omega
  · obtain ⟨h1, h2⟩ := h.lt g rfl
    refine ⟨g, c, rfl, h1, h2, fun k hk => ?_⟩
    obtain ⟨a1, a2⟩ := sp_get L k hk
    have z1 := h.cells (g := g) rfl (k * 2) _ a1
    have z2 := h.cells (g := g) rfl (k * 2 + 1) _ a2
    refine ⟨?_, by simpa [Addr.add] using z2⟩
    by_cases e : k = 0
    · subst e; simpa [Addr.add] using z1
    · have e2 : ¬ k * 2 = 0 := by omega
      simpa [Addr.add, e2, e] using z1

def Ar.free (a : Ar) : Nat := (a.holes.map Prod.snd).foldl (· + ·) 0
def Ar.largest (a : Ar) : Nat := (a.holes.map Prod.snd).foldl max 0
theorem fold_snoc (L : List (Nat × Nat)) (k : Nat) (hk : k < L.length) (f : Nat → Nat → Nat) : ((L.take (k + 1)).map Prod.snd).foldl f 0 = f (((L.take k).map Prod.snd).foldl f 0) L[k].2 := by
  rw [List.take_succ_eq_append_getElem hk, List.map_append, List.foldl_append]
  rfl
theorem fold_add (l : List Nat) : ∀ n, l.foldl (· + ·) n = n + l.foldl (· + ·) 0 := by
  induction l with
  | nil => simp
  | cons x l ih => intro n; simp only [List.foldl_cons]; rw [ih (n + x), ih (0 + x)]; omega
theorem lies_sum {n : Nat} : ∀ {lo : Nat} {l : List (Nat × Nat)}, Lies n lo l → lo ≤ n + 1 → (l.map Prod.snd).foldl (· + ·) 0 + lo ≤ n + 1
  | lo, [], _, h => by simpa using h
  | lo, x :: l, h, _ => by
    obtain ⟨h1, h2, h3, h4⟩ := h
    have := lies_sum h4 (by omega)
    simp only [List.map_cons, List.foldl_cons]
    rw [fold_add]
    omega
theorem lies_take {n : Nat} : ∀ {lo : Nat} {l : List (Nat × Nat)} (k : Nat), Lies n lo l → Lies n lo (l.take k)
  | lo, l, 0, _ => by simp [Lies]
  | lo, [], k + 1, _ => by simp [Lies]
  | lo, x :: l, k + 1, h => ⟨h.1, h.2.1, h.2.2.1, lies_take k h.2.2.2⟩

set_option maxHeartbeats 800000 in
theorem free_any (w : World) (F : Nat → Prop) (g : Nat) (a : Ar) (v : Value) (h : IsAr w F g a v) : Calls Try.prog 14 #[.pointer (some ⟨g, 0, none⟩)] w fun e w' => e = .returned (.int .i64 a.free) ∧ Below w.heap.size w w' := by
  have OK := Lib.hid h.ok
  have HH := Lib.hid (holes_any w F g a v h)
  clear h
  go_enter Try.func14, Try.ntmps14
  go_wp2_with fail
  refine HH.out.mono ?_
  rintro e w1 ⟨v', rfl, ho, b1⟩
  obtain ⟨A, c, rfl⟩ := own_slice ho
  have HO := Lib.hid ho; have B1 := Lib.hid b1
  have few : a.holes.length ≤ 1048577 := OK.out.few
  clear ho b1 HH
  go_wp2_with fail
  go_loopw [3, 9] (fun n i wr => ∃ k : Nat, k ≤ a.holes.length ∧ i = .int .i64 k ∧ n = .int .i64 (((a.holes.take k).map Prod.snd).foldl (· + ·) 0 : Nat) ∧ Hid (Below w1.heap.size w1 wr)) (fun _ i _ => a.holes.length - (intOf i).toNat)
  case atStart => exact ⟨0, Nat.zero_le _, rfl, rfl, Below.refl _ _⟩
  case round =>
    obtain ⟨k, hk, rfl, rfl, hb⟩ := hrel
    by_cases hlt : k < a.holes.length
    · obtain ⟨g1, c1, e1, _, _, hc⟩ := row_at HO.out (by omega)
      injection e1 with e1 e2 e3
      subst e1 e3
      obtain ⟨z1, z2⟩ := hc k hlt
      have z1 := cell_below hb.out z1
      have z2 := cell_below hb.out z2
      have SN := Lib.hid (fold_snoc a.holes k hlt (· + ·))
      have BD : ((a.holes.take k).map Prod.snd).foldl (· + ·) 0 + a.holes[k].2 ≤ 1048577 := by
        rw [← SN.out]
        have := lies_sum (lies_take (k + 1) OK.out.lies) (by omega)
        have := OK.out.most
        omega
      generalize a.holes[k] = x at z1 z2 SN BD
      generalize hs : ((a.holes.take k).map Prod.snd).foldl (· + ·) 0 = s at SN BD ⊢
      clear hc e2 hs
      have hsz : w1.heap.size ≤ wr.heap.size := hb.out.size
      have BA : ∀ o, Hid (Below w1.heap.size w1 (wr.alloc o)) := fun o => hb.out.alloc hsz o
      go_wp2
      go_roundw
      case rel => exact ⟨k + 1, hlt, by go_num, congrArg (Value.int .i64) (by rw [SN.out]; omega), BA _⟩
      case measure => simp [intOf]; omega
    · obtain rfl : k = a.holes.length := by omega
      go_wp2
      go_ret
      refine ⟨?_, B1.out.trans (hb.out.mono B1.out.size)⟩
      unfold Ar.free
      rw [List.take_length]
      rfl
set_option maxHeartbeats 800000 in
theorem largest_any (w : World) (F : Nat → Prop) (g : Nat) (a : Ar) (v : Value) (h : IsAr w F g a v) : Calls Try.prog 12 #[.pointer (some ⟨g, 0, none⟩)] w fun e w' => e = .returned (.int .i64 a.largest) ∧ Below w.heap.size w w' := by
  have OK := Lib.hid h.ok
  have HH := Lib.hid (holes_any w F g a v h)
  clear h
  go_enter Try.func12, Try.ntmps12
  go_wp2_with fail
  refine HH.out.mono ?_
  rintro e w1 ⟨v', rfl, ho, b1⟩
  obtain ⟨A, c, rfl⟩ := own_slice ho
  have HO := Lib.hid ho; have B1 := Lib.hid b1
  have few : a.holes.length ≤ 1048577 := OK.out.few
  clear ho b1 HH
  go_wp2_with fail
  go_loopw [3, 9] (fun n i wr => ∃ k : Nat, k ≤ a.holes.length ∧ i = .int .i64 k ∧ n = .int .i64 (((a.holes.take k).map Prod.snd).foldl max 0 : Nat) ∧ Hid (Below w1.heap.size w1 wr)) (fun _ i _ => a.holes.length - (intOf i).toNat)
  case atStart => exact ⟨0, Nat.zero_le _, rfl, rfl, Below.refl _ _⟩
  case round =>
    obtain ⟨k, hk, rfl, rfl, hb⟩ := hrel
    by_cases hlt : k < a.holes.length
    · obtain ⟨g1, c1, e1, _, _, hc⟩ := row_at HO.out (by omega)
      injection e1 with e1 e2 e3
      subst e1 e3
      obtain ⟨z1, z2⟩ := hc k hlt
      have z1 := cell_below hb.out z1
      have z2 := cell_below hb.out z2
      have SN := Lib.hid (fold_snoc a.holes k hlt max)
      generalize a.holes[k] = x at z1 z2 SN
      generalize hs : ((a.holes.take k).map Prod.snd).foldl max 0 = s at SN ⊢
      clear hc e2 hs
      have hsz : w1.heap.size ≤ wr.heap.size := hb.out.size
      have BA : ∀ o, Hid (Below w1.heap.size w1 (wr.alloc o)) := fun o => hb.out.alloc hsz o
      go_wp2
      go_roundw
      case rel => exact ⟨k + 1, hlt, by go_num, congrArg (Value.int .i64) (by rw [SN.out]; omega), BA _⟩
      case measure => simp [intOf]; omega
    · obtain rfl : k = a.holes.length := by omega
      go_wp2
      go_ret
      refine ⟨?_, B1.out.trans (hb.out.mono B1.out.size)⟩
      unfold Ar.largest
      rw [List.take_length]
      rfl
end Go.Proofs.Ythloinmnojlleaa
