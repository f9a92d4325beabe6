/- RdA: the pages of ShelfReads: bytes filled up to a page, changes that may be. -/
import Derived.Test.YtoolkamajlgcbaaMr21
import Derived.Laws.CopyOwn
set_option linter.unusedVariables false
set_option linter.unusedSimpArgs false
namespace Go.Proofs.Ytoolkamajlgcbaa
open Go.RowKit

def civ : List (Int × ByteArray) → List Value
  | [] => []
  | h :: l => .int .i64 h.1 :: .string h.2 :: civ l
theorem civ_length : ∀ l, (civ l).length = l.length * 2
  | [] => rfl
  | h :: l => by simp [civ, civ_length l]; omega
theorem civ_append : ∀ a b, civ (a ++ b) = civ a ++ civ b
  | [], b => rfl
  | h :: a, b => by simp [civ, civ_append a b]
theorem civ_get : ∀ (l : List (Int × ByteArray)) (k : Nat) (h : k < l.length), (civ l)[k * 2]? = some (.int .i64 l[k].1) ∧ (civ l)[k * 2 + 1]? = some (.string l[k].2)
  | x :: l, 0, h => ⟨rfl, rfl⟩
  | x :: l, k + 1, h => by
    have := civ_get l k (by simpa using h)
    rw [show (k + 1) * 2 = k * 2 + 2 by omega, show k * 2 + 2 + 1 = k * 2 + 1 + 2 by omega]
    simpa [civ] using this
/-- Changes in a row of one's own are read. -/
theorem rdC_own {w : World} {base : Nat} {A : Option Addr} {c : Nat} {l : List (Int × ByteArray)} (h : w.ownsRow base 53 2 (.slice A l.length c) l.length (civ l)) : RdC w A l := fun hp => by
  rcases h.2 with ⟨_, h0⟩ | ⟨g, cap, cur, e, _, hk, h1, _, h3, h4⟩
  · omega
  · injection e with e _ _
    subst e
    refine ⟨g, 0, rfl, fun j hj => ?_⟩
    obtain ⟨g1, g2⟩ := civ_get l j hj
    rw [← h4, List.getElem?_take_of_lt (by omega), Array.getElem?_toList] at g1
    rw [← h4, List.getElem?_take_of_lt (by omega), Array.getElem?_toList] at g2
    rw [Nat.zero_add, blk_cell hk, blk_cell hk]
    exact ⟨g1, g2⟩
/-- The first 1024 bytes, filled up with zeros. -/
def padL (bs : List UInt8) : List UInt8 := bs.take 1024 ++ List.replicate (1024 - (bs.take 1024).length) 0
def padB (bs : List UInt8) : ByteArray := ⟨(padL bs).toArray⟩
theorem padL_len (bs : List UInt8) : (padL bs).length = 1024 := by
  unfold padL
  rw [List.length_append, List.length_replicate, List.length_take]
  omega
theorem padB_size (bs : List UInt8) : (padB bs).size = 1024 := by
  show (padL bs).toArray.size = 1024
  rw [List.size_toArray, padL_len]
/-- The changes of the first k pages. -/
def chL (ls : List (List UInt8)) (k : Nat) : List (Int × ByteArray) := (List.range k).map (fun (i : Nat) => (((i : Nat) : Int), padB (ls.getD i [])))
theorem chL_len (ls : List (List UInt8)) (k : Nat) : (chL ls k).length = k := by unfold chL; rw [List.length_map, List.length_range]
theorem chL_succ (ls : List (List UInt8)) (k : Nat) : chL ls (k + 1) = chL ls k ++ [((k : Int), padB (ls.getD k []))] := by unfold chL; rw [List.range_succ, List.map_append]; rfl
theorem chL_get (ls : List (List UInt8)) (k j : Nat) (h : j < (chL ls k).length) : (chL ls k)[j] = ((j : Int), padB (ls.getD j [])) := by
  show ((List.range k).map (fun (i : Nat) => (((i : Nat) : Int), padB (ls.getD i []))))[j]'h = _
  simp
theorem chL_why (ls : List (List UInt8)) {k P : Nat} (hk : k ≤ P) : whyE P (chL ls k) = 0 := by
  have h1 : outK P (chL ls k) = false := out_no (fun j hj => by
    rw [chL_get]
    rw [chL_len] at hj
    simp only
    omega)
  have h3 : longK (chL ls k) = false := long_no (fun j hj => by rw [chL_get]; exact padB_size _)
  have h2 : ∀ n, n ≤ k → dupK (chL ls k) n = false := by
    intro n
    induction n with
    | zero => intro _; rfl
    | succ n ih =>
      intro hn
      unfold dupK
      rw [ih (by omega), Bool.false_or]
      rw [List.any_eq_false]
      intro c hc
      obtain ⟨j, hj, rfl⟩ := List.getElem_of_mem hc
      rw [List.length_take, chL_len] at hj
      have hn' : n < (chL ls k).length := by rw [chL_len]; omega
      have eg : (chL ls k).getD n (0, ByteArray.empty) = (chL ls k)[n] := by rw [List.getD_eq_getElem?_getD, List.getElem?_eq_getElem hn']; rfl
      rw [List.getElem_take, chL_get, eg, chL_get]
      simp
      omega
  unfold whyE
  rw [if_neg (by rw [h1]; decide), if_neg (by rw [chL_len, h2 k (Nat.le_refl _)]; decide), if_neg (by rw [h3]; decide)]
end Go.Proofs.Ytoolkamajlgcbaa
/- RdB: the argument of ShelfReads laid open: bytes of bytes. -/
set_option linter.unusedVariables false
set_option linter.unusedSimpArgs false
namespace Go.Proofs.Ytoolkamajlgcbaa
open Go.RowKit Go.ChangeShapes Go.WideShapes Go.ChangeAt

def uvs (L : List UInt8) : List Value := L.map (fun b => Value.int .u8 (b.toNat : Int))
theorem uvs_len (L : List UInt8) : (uvs L).length = L.length := List.length_map ..
theorem uvs_one (L : List UInt8) : ∀ u ∈ uvs L, u.oneCell' = true := by
  intro u hu
  simp only [uvs, List.mem_map] at hu
  obtain ⟨x, _, rfl⟩ := hu
  rfl
/-- Bytes that are read. -/
def RdU (w : World) (v : Value) (L : List UInt8) : Prop := ∃ A c, v = .slice A L.length c ∧ L.length ≤ c ∧ c ≤ maxLen ∧ (0 < L.length → ∃ ad, A = some ad ∧ ∀ j u, (uvs L)[j]? = some u → w.cell? (ad.add j) = some u)
theorem RdU.below {w w' : World} {s : Value} {L : List UInt8} (h : RdU w s L) (hb : Below w.heap.size w w') : RdU w' s L := by
  obtain ⟨A, c, rfl, h1, h2, h3⟩ := h
  refine ⟨A, c, rfl, h1, h2, fun hp => ?_⟩
  obtain ⟨ad, e, hc⟩ := h3 hp
  exact ⟨ad, e, fun j u hu => cell_below hb (hc j u hu)⟩
def RdUU (w : World) (v : Value) (ls : List (List UInt8)) : Prop := ∃ A c, v = .slice A ls.length c ∧ ls.length ≤ c ∧ c ≤ maxLen ∧ (0 < ls.length → ∃ b off, A = some ⟨b, off, none⟩ ∧ ∀ i (h : i < ls.length), ∃ vi, w.cell? ⟨b, off + i, none⟩ = some vi ∧ RdU w vi ls[i])
theorem choose_lt2 {α β : Type} (ha : Nonempty α) (n : Nat) (p : Nat → α → Prop) (h : ∀ i, i < n → ∃ x, p i x) : ∃ f : Nat → α, ∀ i, i < n → p i (f i) := choose_lt ha n p h
section
variable {H : Type} {enc : TypeId × Value → H} {W : World} {base : Nat} {held : Bool}
set_option maxRecDepth 100000 in
theorem cells_bytes {fuel : Nat} {v : Value} {x : DataW H × List MemPlace} (h : DataW.trod enc Try.prog W base (fun _ => true) held fuel 51 [v] = some x) : ∃ L, RdU W v L := by
  rcases Go.Deep.open_slice1 Try.underlying51 (by kernel_rfl) h with ⟨hcs, _⟩ | ⟨a, len, cap, m, n, V, D, Pl, hcs, _, hl, hm, hmm, _, hx⟩
  · simp at hcs
    subst hcs
    exact ⟨[], none, 0, rfl, Nat.le_refl _, by decide, fun h => by simp at h⟩
  · simp at hcs hmm
    subst hcs
    subst hmm
    obtain ⟨f, hf⟩ := choose_lt (α := UInt8) ⟨0⟩ m (fun i (b : UInt8) => V i = .int .u8 (b.toNat : Int)) (fun i hi => by
      obtain ⟨_, h2⟩ := hx i hi
      obtain ⟨b, hb, _, wb⟩ := DataW.trod_int Try.underlying5 h2
      have hf2 : 0 ≤ b ∧ b ≤ 255 := by simp [Lit.wf, IntKind.min, IntKind.max, IntKind.signed, IntKind.bits] at wb; omega
      refine ⟨UInt8.ofNat b.toNat, ?_⟩
      have e : (UInt8.ofNat b.toNat).toNat = b.toNat := by simp; omega
      rw [e, show V i = .int .u8 b by simpa using hb]
      congr 1
      omega)
    refine ⟨(List.range len).map f, some a, m, by simp, by simpa using hl, by simpa using hm, fun hp => ⟨a, rfl, fun j u hu => ?_⟩⟩
    have hj : j < len := by
      have := (List.getElem?_eq_some_iff.1 hu).1
      simpa [uvs] using this
    rw [(hx j (by omega)).1, hf j (by omega)]
    simpa [uvs, hj] using hu
set_option maxRecDepth 100000 in
theorem cells_bytess {fuel : Nat} {v : Value} {x : DataW H × List MemPlace} (h : DataW.trod enc Try.prog W base (fun _ => true) held fuel 49 [v] = some x) : ∃ ls, RdUU W v ls := by
  rcases Go.Deep.open_slice1 Try.underlying49 (by kernel_rfl) h with ⟨hcs, _⟩ | ⟨a, len, cap, m, n, V, D, Pl, hcs, _, hl, hm, hmm, _, hx⟩
  · simp at hcs
    subst hcs
    exact ⟨[], none, 0, rfl, Nat.le_refl _, by decide, fun h => by simp at h⟩
  · simp at hcs hmm
    subst hcs
    subst hmm
    obtain ⟨f, hf⟩ := choose_lt (α := List UInt8) ⟨[]⟩ m (fun i L => RdU W (V i) L) (fun i hi => cells_bytes (hx i hi).2)
    refine ⟨(List.range len).map f, some a, m, by simp, by simpa using hl, by simpa using hm, fun hp => ?_⟩
    simp at hp
    have ha := plain_addr (hx 0 (by omega)).1
    refine ⟨a.block, a.off, by rw [← ha], fun i hi => ?_⟩
    simp at hi
    refine ⟨V i, ?_, ?_⟩
    · have := (hx i (by omega)).1
      rw [ha] at this
      simpa [Addr.add_lit] using this
    · simpa using hf i (by omega)
set_option maxRecDepth 100000 in
theorem open_bytess {v : Value} {d : DataW H} {ps : List MemPlace} {r : World} (hv : Value.okWide Try.prog r .any base 49 v) (h : DataW.Trod enc Try.prog W 0 (fun _ => true) held 49 v d ps) : ∃ ls, RdUU W v ls := by
  obtain ⟨a0, len0, cap0, rfl⟩ := okWide_slice Try.underlying49 hv
  obtain ⟨fuel, hf⟩ := h
  exact cells_bytess (W := W) (by simpa [Value.cells] using hf)
end
end Go.Proofs.Ytoolkamajlgcbaa
/- RdC: a disk's blocks by their kinds: a shelf and a journal lie in none of them. -/
set_option linter.unusedVariables false
set_option linter.unusedSimpArgs false
namespace Go.Proofs.Ytoolkamajlgcbaa
open Go.RowKit

/-- Blocks of a disk's kinds. -/
def DkBlk (w : World) (k : Nat) : Prop := ∃ cur t, w.heap[k]? = some (.cells cur t (0, 0)) ∧ (t = 104 ∨ t = 9 ∨ t = 121)
/-- A disk, with no more blocks than it needs. -/
theorem HasDisk.least {w : World} {F : Nat → Prop} {g : Nat} {d : Dk} (h : HasDisk w F g d) : ∃ F0 : Nat → Prop, HasDisk w F0 g d ∧ (∀ k, F0 k → F k) ∧ ∀ k, F0 k → DkBlk w k := by
  obtain ⟨vl, vw, h⟩ := h
  have o1 : ∀ k, vl.ownBlock = some k → DkBlk w k := fun k hk => by
    rcases h.own.2 with ⟨e, _⟩ | ⟨g', cap, cur, e, _, hb, _⟩
    · rw [e] at hk; cases hk
    · rw [e] at hk; cases hk; exact ⟨cur, _, hb, .inr (.inl rfl)⟩
  have o2 : ∀ k, vw.ownBlock = some k → DkBlk w k := fun k hk => by
    rcases h.ownW.2 with ⟨e, _⟩ | ⟨g', cap, cur, e, _, hb, _⟩
    · rw [e] at hk; cases hk
    · rw [e] at hk; cases hk; exact ⟨cur, _, hb, .inr (.inr rfl)⟩
  refine ⟨fun k => k = g ∨ vl.ownBlock = some k ∨ vw.ownBlock = some k, ⟨vl, vw, ⟨h.blk, h.own, h.ownW, .inl rfl, fun k hk => .inr (.inl hk), fun k hk => .inr (.inr hk), fun k hk => ?_, h.ok⟩⟩, fun k hk => ?_, fun k hk => ?_⟩
  · rcases hk with hk | hk | hk
    · rw [hk]; exact h.lt g h.fg
    · exact h.lt k (h.fl k hk)
    · exact h.lt k (h.fw k hk)
  · rcases hk with hk | hk | hk
    · rw [hk]; exact h.fg
    · exact h.fl k hk
    · exact h.fw k hk
  · rcases hk with hk | hk | hk
    · rw [hk]; exact ⟨_, _, h.blk, .inl rfl⟩
    · exact o1 k hk
    · exact o2 k hk
theorem dk_no {w : World} {k : Nat} {cur : Array Value} {t : TypeId} (h : DkBlk w k) (hb : w.heap[k]? = some (.cells cur t (0, 0))) : t = 104 ∨ t = 9 ∨ t = 121 := by
  obtain ⟨cur', t', h1, h2⟩ := h
  rw [hb] at h1
  simp at h1
  rw [h1.2]
  exact h2
theorem Jb.far {w : World} {gj g P k : Nat} (h : Jb w gj g P) (hk : DkBlk w k) : gj ≠ k := fun e => by
  subst e
  have := dk_no hk h
  revert this
  decide
/-- A shelf stays while the disk's blocks are touched. -/
theorem ShO.disk {w w' : World} {S : Nat → Prop} {base gs gj : Nat} {v : Value} {L : List Lf} (h : ShO w base gs gj v L) (ht : Touch S w w') (hS : ∀ k, S k → DkBlk w k) : ShO w' base gs gj v L := by
  refine ⟨blk_touch ht h.box (fun e => ?_), h.row.touch ht (fun k hk e => ?_), fun x hx => (h.rd x hx).touch ht (fun b hb e => ?_)⟩
  · have hb := h.box
    unfold ShB at hb
    have := dk_no (hS gs e) hb
    revert this
    decide
  · rcases h.row with ⟨rfl, _⟩ | ⟨g, cap, cur, rfl, _, hk', _⟩
    · cases hk
    · cases hk
      have := dk_no (hS _ e) hk'
      revert this
      decide
  · obtain ⟨cur, hb⟩ := hb
    have := dk_no (hS b e) hb
    revert this
    decide
set_option maxHeartbeats 1600000 in
set_option maxRecDepth 100000 in
theorem sopened_far (w : World) (P : Nat) (hP1 : 2 ≤ P) (hP : P ≤ 12) :
    Calls Try.prog 9 #[.int .i64 (P : Int)] w fun e w' => ∃ g gj gs, e = .returned (.tuple #[.pointer (some ⟨g, 0, none⟩), .pointer (some ⟨gj, 0, none⟩), .pointer (some ⟨gs, 0, none⟩)]) ∧ ShB w' gs gj (.slice none 0 0) ∧ w.heap.size ≤ gs ∧ Below w.heap.size w w' ∧ Jb w' gj g P ∧ ∃ F, HasDisk w' F g (Dk.new (8 * P + 1)) ∧ ∀ k, F k → w.heap.size ≤ k := by
  have d1 : decide ((P : Int) < 2) = false := by simp; omega
  have d2 : decide (12 < (P : Int)) = false := by simp; omega
  have d2' : decide (12 < P) = false := by simp; omega
  have d1' : decide (P < 2) = false := by simp; omega
  obtain ⟨n, hnn⟩ : ∃ n : Nat, n = 8 * P + 1 := ⟨_, rfl⟩
  have eq1 : 8 * (P : Int) + 1 = (n : Int) := by omega
  have NEW := Lib.hid (new_h w n (by omega) (by omega))
  have hd0 : Dk.new n = Dk.new (8 * P + 1) := by rw [hnn]
  have HD0 := Lib.hid hd0
  have ST : Hid (Sto P (Dk.new n)) := sto_new (by omega) (by omega) (by omega)
  have RD : Hid (run (Dk.new n) (openK P (Dk.new n) ((Dk.new n).read 0).1) = (Dk.new n, 0)) := by
    unfold Hid
    rw [read_new (i := 0) (by omega) (by omega), openK_zero]
    rfl
  have PZ : Hid (pageB (Dk.new n) (1 + 4 * ((P : Int) + 0)) = Dk.rep 1024 0) := by
    unfold Hid
    rw [hd0]
    rcases page_zero (P := P) with h | h
    · exact h
    · omega
  have LN : Hid (8 * P + 1 ≤ (Dk.new n).l.length ∧ Sz (Dk.new n) ∧ (Dk.new n).down = false ∧ (Dk.new n).waits = [] ∧ (Dk.new n).writes = 0) := ⟨by simp [Dk.new]; omega, sz_new _, rfl, rfl, rfl⟩
  have NN : n ≤ 97 := by omega
  clear hnn hd0
  go_enter Try.func9, Try.ntmps9
  go_wp2_with fail
  refine NEW.out.mono ?_
  rintro e w1 ⟨g, F, rfl, hd, hF, b1⟩
  have OP := Lib.hid (open_any w1 F g P (Dk.new n) hd ST.out (by omega) (by omega) ⟨by rw [LN.out.2.2.2.1]; simp, by rw [LN.out.2.2.2.2]; simp⟩)
  unfold OpenTo at OP
  rw [RD.out] at OP
  have HF := Lib.hid hF; have B1 := Lib.hid b1
  clear hd hF b1 NEW
  go_wp2_with fail
  refine OP.out.mono ?_
  rintro e w2 ⟨v, F2, rfl, ht, hv⟩
  rw [if_pos (by trivial)] at hv
  obtain ⟨gj, rfl, hj, hnj, hgj⟩ := hv
  have B2 : Hid (Below w.heap.size w w2) := B1.out.trans (ht.touch.below B1.out.size HF.out)
  have HT := Lib.hid ht.has; have HJ := Lib.hid hj
  have FN : Hid (∀ k, F2 k → w.heap.size ≤ k) := fun k hk => by
    rcases ht.new k hk with h | h
    · exact HF.out k h
    · exact Nat.le_trans B1.out.size h
  have SO := Lib.hid (sopen_zero w2 F2 gj g P (Dk.new n) ht.has hj LN.out.2.1 (by rw [LN.out.2.2.2.1]; decide) hP1 (by omega) LN.out.1 LN.out.2.2.1 PZ.out)
  clear ht hj hnj hgj OP
  go_wp2_with fail
  refine SO.out.mono ?_
  rintro e w3 ⟨gs, rfl, hb, hgs, q3⟩
  have B3 : Hid (Below w.heap.size w w3) := B2.out.trans (q3.mono B2.out.size)
  have HB := Lib.hid hb
  have R : Hid (w.heap.size ≤ gs) := Nat.le_trans B2.out.size hgs
  have HJ3 := Lib.hid (HJ.out.below q3); have HT3 := Lib.hid (HT.out.below q3)
  clear hb hgs q3 SO
  go_wp2
  go_ret3
  exact ⟨g, gj, gs, rfl, HB.out, R.out, B3.out, HJ3.out, F2, by rw [← HD0.out]; exact HT3.out, FN.out⟩
end Go.Proofs.Ytoolkamajlgcbaa
