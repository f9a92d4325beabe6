/- CmK: a shelf, its store and what was committed, amid a law; what each of the shelf's functions does to them. -/
import Derived.Test.YtoolkamajlgcbaaCmJ
set_option linter.unusedVariables false
set_option linter.unusedSimpArgs false
namespace Go.Proofs.Ytoolkamajlgcbaa
open Go.RowKit

/-- Blocks of a shelf's and a disk's kinds. -/
def KX (w : World) (k : Nat) : Prop := ∃ cur t, w.heap[k]? = some (.cells cur t (0, 0)) ∧ (t = 104 ∨ t = 9 ∨ t = 121 ∨ t = 85 ∨ t = 82)
/-- Only such blocks and new ones are others. -/
def Tch (w w' : World) : Prop := Touch (KX w) w w'
theorem Touch.sub {S S' : Nat → Prop} {w w' : World} (h : Touch S w w') (hs : ∀ k, S k → S' k) : Touch S' w w' := ⟨h.os, h.tape, h.output, h.size, fun k hk hn => h.block k hk (fun x => hn (hs k x))⟩
theorem Tch.of_below {w w' : World} (h : Below w.heap.size w w') : Tch w w' := Touch.of_below h
theorem Tch.trans {a b c : World} (h : Tch a b) (k : Tch b c) : Tch a c := by
  refine Touch.trans h k (fun j hj hx => ?_)
  apply Classical.byContradiction
  intro hn
  obtain ⟨cur, t, h1, h2⟩ := hx
  rw [h.block j hj hn] at h1
  exact hn ⟨cur, t, h1, h2⟩
theorem Tch.blk {w w' : World} (h : Tch w w') {b : Nat} {cs : Array Value} {t : TypeId} (hb : w.heap[b]? = some (.cells cs t (0, 0))) (ht : (t == 104 || t == 9 || t == 121 || t == 85 || t == 82) = false) : w'.heap[b]? = some (.cells cs t (0, 0)) :=
  blk_touch h hb (fun hx => by
    obtain ⟨cur, t', h1, h2⟩ := hx
    rw [hb] at h1
    simp only [Option.some.injEq, Obj.cells.injEq] at h1
    obtain ⟨_, e, _⟩ := h1
    subst e
    simp only [Bool.or_eq_false_iff, beq_eq_false_iff_ne] at ht
    obtain ⟨⟨⟨⟨t1, t2⟩, t3⟩, t4⟩, t5⟩ := ht
    rcases h2 with h | h | h | h | h
    · exact t1 h
    · exact t2 h
    · exact t3 h
    · exact t4 h
    · exact t5 h)
theorem Tch.no_pair {w : World} {b : Nat} (h : PBlk w b) : ¬ KX w b := fun hx => by
  obtain ⟨cur, hb⟩ := h
  obtain ⟨cur', t', h1, h2⟩ := hx
  rw [hb] at h1
  simp only [Option.some.injEq, Obj.cells.injEq] at h1
  obtain ⟨_, e, _⟩ := h1
  subst e
  revert h2
  decide
theorem RdP.tch {w w' : World} {v : Value} {F : PL} (h : RdP w v F) (ht : Tch w w') : RdP w' v F := h.touch ht (fun _ hb => Tch.no_pair hb)
theorem Jb.tch {w w' : World} {gj g P : Nat} (h : Jb w gj g P) (ht : Tch w w') : Jb w' gj g P := ht.blk h (by decide)
theorem LRow.weak {w : World} {b b' : Nat} {v : Value} {L : List Lf} (h : LRow w b v L) (hb : b' ≤ b) : LRow w b' v L := by
  rcases h with h | ⟨g, cap, cur, e, h1, h2⟩
  · exact .inl h
  · exact .inr ⟨g, cap, cur, e, Nat.le_trans hb h1, h2⟩
theorem ShO.weak {w : World} {b b' gs gj : Nat} {v : Value} {L : List Lf} (h : ShO w b gs gj v L) (hb : b' ≤ b) : ShO w b' gs gj v L := ⟨h.box, h.row.weak hb, h.rd⟩
/-- A shelf's own blocks are of its kinds. -/
theorem ShO.kx {w : World} {base gs gj : Nat} {v : Value} {L : List Lf} (h : ShO w base gs gj v L) {k : Nat} (hk : k = gs ∨ v.ownBlock = some k) : KX w k := by
  rcases hk with rfl | hk
  · exact ⟨_, _, h.box, .inr (.inr (.inr (.inl rfl)))⟩
  · rcases h.row with ⟨rfl, _⟩ | ⟨g, cap, cur, rfl, _, hb, _⟩
    · cases hk
    · cases hk; exact ⟨cur, _, hb, .inr (.inr (.inr (.inr rfl)))⟩
theorem dk_kx {w : World} {k : Nat} (h : DkBlk w k) : KX w k := by
  obtain ⟨cur, t, h1, h2⟩ := h
  refine ⟨cur, t, h1, ?_⟩
  rcases h2 with h | h | h
  · exact .inl h
  · exact .inr (.inl h)
  · exact .inr (.inr (.inl h))
/-- The disk's blocks are none of the shelf's. -/
theorem ShO.not_dk {w : World} {base gs gj : Nat} {v : Value} {L : List Lf} (h : ShO w base gs gj v L) {k : Nat} (hk : k = gs ∨ v.ownBlock = some k) : ¬ DkBlk w k := fun hd => by
  rcases hk with rfl | hk
  · have := dk_no hd h.box
    revert this
    decide
  · rcases h.row with ⟨rfl, _⟩ | ⟨g, cap, cur, rfl, _, hb, _⟩
    · cases hk
    · cases hk
      have := dk_no hd hb
      revert this
      decide
theorem HasDisk.touch {S F : Nat → Prop} {w w' : World} {g : Nat} {d : Dk} (h : HasDisk w F g d) (ht : Touch S w w') (hS : ∀ k, F k → ¬ S k) : HasDisk w' F g d := by
  obtain ⟨vl, vw, h⟩ := h
  exact ⟨vl, vw, ⟨blk_touch ht h.blk (hS g h.fg), own_touch h.own ht (fun k hk => hS k (h.fl k hk)), own_touch h.ownW ht (fun k hk => hS k (h.fw k hk)), h.fg, h.fl, h.fw, fun k hk => Nat.lt_of_lt_of_le (h.lt k hk) ht.size, h.ok⟩⟩
theorem full_good {sh : List (Nat × PL)} (h : GoodS sh) : Full sh := fun i hi => (h _ (lf_mem hi)).2.1
structure Ply (w : World) (lo gj g P n gs : Nat) (d : Dk) (sh gd : List (Nat × PL)) : Prop where
  sho : ∃ v L, ShO w lo gs gj v L ∧ shP L = sh
  jb : Jb w gj g P
  gsl : lo ≤ gs
  los : lo ≤ w.heap.size
  dk : ∃ F, HasDisk w F g d ∧ (∀ k, F k → DkBlk w k) ∧ ∀ k, F k → lo ≤ k
  wf : Wf P sh
  two : Two (zs sh) (-9) (-9)
  kept : Kept P d gd
  two2 : Two (zs gd) (-9) (-9)
  fw : Fw n d
theorem Ply.below {w w' : World} {lo gj g P n gs : Nat} {d : Dk} {sh gd : List (Nat × PL)} (h : Ply w lo gj g P n gs d sh gd) (hb : Below w.heap.size w w') : Ply w' lo gj g P n gs d sh gd := by
  obtain ⟨v, L, h1, h2⟩ := h.sho
  obtain ⟨F, h3, h4, h5⟩ := h.dk
  exact ⟨⟨v, L, h1.below hb, h2⟩, h.jb.below hb, h.gsl, Nat.le_trans h.los hb.size, ⟨F, h3.below hb, fun k hk => by
    obtain ⟨cur, t, e1, e2⟩ := h4 k hk
    exact ⟨cur, t, (hb.block k (lt_of_block e1)).trans e1, e2⟩, h5⟩, h.wf, h.two, h.kept, h.two2, h.fw⟩
theorem Ply.len {w : World} {lo gj g P n gs : Nat} {d : Dk} {sh gd : List (Nat × PL)} (h : Ply w lo gj g P n gs d sh gd) (hP1 : 2 ≤ P) : sh.length + 1 ≤ P := ids_len h.wf.ids (by omega)
/-- Behind what touched the shelf's own blocks alone. -/
theorem Ply.own {w w' : World} {lo gj g P n gs : Nat} {d : Dk} {sh sh' gd : List (Nat × PL)} (h : Ply w lo gj g P n gs d sh gd) {v v' : Value} {L L' : List Lf} (hs : ShO w lo gs gj v L) (ht : Touch (fun k => k = gs ∨ v.ownBlock = some k) w w') (hs' : ShO w' lo gs gj v' L') (e : shP L' = sh') (hw : Wf P sh') (h2 : Two (zs sh') (-9) (-9)) :
    Ply w' lo gj g P n gs d sh' gd ∧ Tch w w' ∧ Below lo w w' := by
  have tch : Tch w w' := ht.sub (fun k hk => hs.kx hk)
  obtain ⟨F, h3, h4, h5⟩ := h.dk
  have h6 : ∀ k, F k → ¬ (k = gs ∨ v.ownBlock = some k) := fun k hk hx => hs.not_dk hx (h4 k hk)
  refine ⟨⟨⟨v', L', hs', e⟩, h.jb.tch tch, h.gsl, Nat.le_trans h.los ht.size, ⟨F, h3.touch ht (fun k hk hx => h6 k hk hx), fun k hk => ?_, h5⟩, hw, h2, h.kept, h.two2, h.fw⟩, tch, ht.below h.los (fun k hk => ?_)⟩
  · obtain ⟨cur, t, e1, e2⟩ := h4 k hk
    exact ⟨cur, t, blk_touch ht e1 (h6 k hk), e2⟩
  · rcases hk with hk | hk
    · rw [hk]; exact h.gsl
    · exact hs.own_ge hk
theorem ply_put {w : World} {lo gj g P n gs : Nat} {d : Dk} {sh gd : List (Nat × PL)} (h : Ply w lo gj g P n gs d sh gd) (hP1 : 2 ≤ P) (hP : P ≤ 128) {a x : ByteArray} (ha : EntOK (a, x)) :
    Calls Try.prog 17 #[.pointer (some ⟨gs, 0, none⟩), .string a, .string x] w fun e w' => e = .returned (.int .i64 ((putA sh P a x).1 : Nat)) ∧ Ply w' lo gj g P n gs d (putA sh P a x).2 gd ∧ Tch w w' ∧ Below lo w w' := by
  obtain ⟨v, L, hv, hsh⟩ := h.sho
  obtain ⟨k1, k2, k3⟩ := ha
  have hlen := h.len hP1
  have pi := put_inv h.wf.good h.two hP1 (by omega) (show EntOK (a, x) from ⟨k1, k2, k3⟩)
  have wf' : Wf P (putA sh P a x).2 := ⟨pi.1, ids_put hP1 h.wf.ids, by
    rw [put_flat h.wf.srt (full_good h.wf.good)]
    split
    · exact srt_putF h.wf.srt a x
    · exact h.wf.srt⟩
  rw [← hsh] at hlen
  rw [shP_len] at hlen
  rcases Nat.eq_zero_or_pos L.length with h0 | h0
  · have e0 := List.eq_nil_of_length_eq_zero h0
    subst e0
    refine (put_zero w lo gs gj v hv h.los a x k1 k2 k3).mono ?_
    rintro e w' ⟨rfl, v', L', q1, q2, q3, _⟩
    have e1 : putA sh P a x = (0, [(1, [(a, x)])]) := by rw [← hsh]; unfold putA; rw [if_pos (show shP [] = [] from rfl)]
    exact ⟨by rw [e1]; rfl, h.own hv q3 q1 (by rw [q2, e1]) wf' pi.2.1⟩
  · have hg := h.wf.good
    rw [← hsh] at hg
    refine (put_any w lo gs gj g P v L hv h.jb (by omega) (good_of hg) (fun y hy p hp => EntOK.sz ((hg (y.id, y.l) (List.mem_map.2 ⟨y, hy, rfl⟩)).2.2.1 p hp)) h0 (by omega) (fun y hy => by
      have := (hg (y.id, y.l) (List.mem_map.2 ⟨y, hy, rfl⟩)).2.2.2
      have this : y.id ≤ 1000 := this
      omega) h.los a x k1 k2 k3).mono ?_
    rintro e w' ⟨rfl, v', L', q1, q2, q3, _⟩
    rw [hsh] at q2
    exact ⟨by rw [hsh], h.own hv q3 q1 q2 wf' pi.2.1⟩
theorem ply_drop {w : World} {lo gj g P n gs : Nat} {d : Dk} {sh gd : List (Nat × PL)} (h : Ply w lo gj g P n gs d sh gd) (hP1 : 2 ≤ P) (hP : P ≤ 128) (a : ByteArray) :
    Calls Try.prog 12 #[.pointer (some ⟨gs, 0, none⟩), .string a] w fun e w' => e = .returned (.bool (dropA sh a).1) ∧ Ply w' lo gj g P n gs d (dropA sh a).2 gd ∧ Tch w w' ∧ Below lo w w' := by
  obtain ⟨v, L, hv, hsh⟩ := h.sho
  have hlen := h.len hP1
  have pi := drop_inv (a := a) h.wf.good h.two
  have wf' : Wf P (dropA sh a).2 := ⟨pi.1, ids_drop h.wf.ids, by
    rw [drop_flat h.wf.srt (full_good h.wf.good)]
    exact srt_dropF h.wf.srt a⟩
  have hg := h.wf.good
  rw [← hsh] at hlen hg
  rw [shP_len] at hlen
  refine (drop_any w lo gs gj v L hv (good_of hg) (by omega) h.los a).mono ?_
  rintro e w' ⟨rfl, v', L', q1, q2, _, q3, _⟩
  rw [hsh] at q2
  exact ⟨by rw [hsh], h.own hv q3 q1 q2 wf' pi.2.1⟩
theorem Ply.read {w : World} {lo gj g P n gs : Nat} {d : Dk} {sh gd : List (Nat × PL)} (h : Ply w lo gj g P n gs d sh gd) : ShRd w gs sh := by
  obtain ⟨v, L, hv, hsh⟩ := h.sho
  rw [← hsh]
  exact hv.read
theorem ply_stt {w : World} {lo gj g P n gs : Nat} {d : Dk} {sh gd : List (Nat × PL)} (h : Ply w lo gj g P n gs d sh gd) (hP1 : 2 ≤ P) (hP : P ≤ 128) : sh.length ≤ 128 ∧ (∀ i, (lfA sh i).length ≤ 340) ∧ (flatS sh).length ≤ 43520 := by
  have hl := h.len hP1
  have fl : ∀ (l : List (Nat × PL)), (∀ y ∈ l, y.2.length ≤ 340) → (l.flatMap (·.2)).length ≤ 340 * l.length := by
    intro l
    induction l with
    | nil => intro _; simp
    | cons y r ih =>
      intro hl
      have h1 := hl y (List.mem_cons_self ..)
      have h2 := ih (fun z hz => hl z (List.mem_cons_of_mem _ hz))
      rw [List.flatMap_cons, List.length_append, List.length_cons]
      omega
  have h1 := fl sh (fun y hy => by
    have := (szL_len y.2).1
    have := (h.wf.good y hy).1
    omega)
  refine ⟨by omega, fun i => by
    by_cases hi : i < sh.length
    · have h3 := (h.wf.good _ (lf_mem hi)).1
      have h4 := (szL_len (lfA sh i)).1
      have h3 : szL (lfA sh i) ≤ 1020 := h3
      omega
    · rw [lfA_out (by omega)]
      simp, ?_⟩
  show (sh.flatMap (·.2)).length ≤ _
  omega
end Go.Proofs.Ytoolkamajlgcbaa
