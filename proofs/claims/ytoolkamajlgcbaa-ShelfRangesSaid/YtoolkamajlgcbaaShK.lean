/- ShK: the law's lives: a shelf of two entries. -/
import Derived.Test.YtoolkamajlgcbaaShJ
set_option linter.unusedVariables false
set_option linter.unusedSimpArgs false
namespace Go.Proofs.Ytoolkamajlgcbaa
open Go.RowKit

theorem lf_one {l : PL} : ∀ i, lfA [(1, l)] i = if i = 0 then l else []
  | 0 => rfl
  | i + 1 => by rw [if_neg (by omega)]; simp [lfA]
theorem one_full {l : PL} (h : 0 < l.length) : Full [(1, l)] := fun i hi => by
  obtain rfl : i = 0 := by simpa using hi
  exact h
theorem one_len {l : PL} (i : Nat) : (lfA [(1, l)] i).length ≤ l.length := by
  rw [lf_one]
  split
  · exact Nat.le_refl _
  · exact Nat.zero_le _
theorem one_tail {l : PL} (i k : Nat) : (tailS [(1, l)] i k).length ≤ l.length := by
  unfold tailS
  rw [lf_one]
  have : ([(1, l)].drop (i + 1)).flatMap (·.2) = [] := by rw [List.drop_eq_nil_of_le (by simp)]; rfl
  rw [this, List.append_nil, List.length_drop]
  split
  · omega
  · simp
theorem two_range {a x b y : ByteArray} (h1 : gtB a a = false) (h2 : geB b a = true) (h3 : geB a a = true) (h4 : gtB a b = false) (h5 : gtB b b = false) : rngR [(1, [(a, x), (b, y)])] a b 1 = [(a, x)] := by
  have e1 : fI [(1, [(a, x), (b, y)])] a = 0 := by
    unfold fI
    rw [show [(1, [(a, x), (b, y)])].length = 1 from rfl, srch, if_pos (by decide), if_neg (by show ¬ gtB a a = true; rw [h1]; decide), srch, if_neg (by decide)]
  have e2 : fK [(1, [(a, x), (b, y)])] a = 0 := by
    unfold fK
    rw [if_neg (by simp), e1]
    show srch (fun k => geB (keyA [(a, x), (b, y)] k) a) 0 2 = 0
    rw [srch, if_pos (by decide), if_pos (by show geB b a = true; exact h2), srch, if_pos (by decide), if_pos (by show geB a a = true; exact h3), srch, if_neg (by decide)]
  unfold rngR
  rw [e1, e2]
  show (rngK b 1 [(a, x), (b, y)] []).1 = [(a, x)]
  unfold rngK
  rw [if_neg (by rw [h4]; simp)]
  unfold rngK
  rw [if_pos (by right; simp)]
  rfl
set_option maxHeartbeats 3200000 in
set_option maxRecDepth 100000 in
theorem slives_any (w : World) : Calls Try.prog 10 #[] w fun e w' => e = .returned (.bool true) ∧ Below w.heap.size w w' := by
  have OP := Lib.hid (sopened_any w 3 (by decide) (by decide))
  obtain ⟨a, ha⟩ : ∃ a : ByteArray, a = { data := #[97] } := ⟨_, rfl⟩
  obtain ⟨x, hx⟩ : ∃ a : ByteArray, a = { data := #[120] } := ⟨_, rfl⟩
  obtain ⟨b, hb⟩ : ∃ a : ByteArray, a = { data := #[98] } := ⟨_, rfl⟩
  obtain ⟨y, hy⟩ : ∃ a : ByteArray, a = { data := #[121] } := ⟨_, rfl⟩
  have sa : a.size = 1 := by rw [ha]; rfl
  have sx : x.size = 1 := by rw [hx]; rfl
  have sb : b.size = 1 := by rw [hb]; rfl
  have sy : y.size = 1 := by rw [hy]; rfl
  have g1 : gtB a b = false := by rw [ha, hb]; decide +kernel
  have g2 : geB a b = false := by rw [ha, hb]; decide +kernel
  have g3 : gtB a a = false := by rw [ha]; decide +kernel
  have g4 : geB b a = true := by rw [ha, hb]; decide +kernel
  have g5 : geB a a = true := by rw [ha]; decide +kernel
  have g6 : gtB b b = false := by rw [hb]; decide +kernel
  have RG : Hid (rngR [(1, [(a, x), (b, y)])] a b 1 = [(a, x)]) := two_range g3 g4 g5 g1 g6
  have P1 := fun W gs gj h => Lib.hid (put_first W gs gj h a x (by omega) (by omega) (by omega))
  have P2 := fun W base gs gj bl c bp h hb => Lib.hid (put_second W base gs gj bl c bp a x b y h hb (by omega) (by omega) (by omega) (by omega) (by omega) g1 g2)
  have SZ : Hid (Small [(a, x), (b, y)]) := ⟨by show 2 ≤ 1000000; omega, fun p hp => by
    simp only [List.mem_cons, List.not_mem_nil, or_false] at hp
    rcases hp with rfl | rfl
    · exact ⟨by show a.size ≤ _; omega, by show x.size ≤ _; omega⟩
    · exact ⟨by show b.size ≤ _; omega, by show y.size ≤ _; omega⟩⟩
  have S10 : Hid (sizS [(1, [(a, x), (b, y)])] 1 = 10) := by
    show 0 + (0 + (3 + a.size + x.size) + (3 + b.size + y.size)) = 10
    omega
  have S2 : Hid (lenS [(1, [(a, x), (b, y)])] 1 = 2) := rfl
  have HA := Lib.hid ha; have HX := Lib.hid hx; have HB := Lib.hid hb; have HY := Lib.hid hy
  clear sa sx sb sy g1 g2 g3 g4 g5 g6 ha hx hb hy
  go_enter Try.func10, Try.ntmps10
  go_wp2_with fail
  refine OP.out.mono ?_
  rintro e w1 ⟨g, gj, gs, rfl, hb1, hgs, q1, _, _⟩
  have HB1 := Lib.hid hb1; have Q1 := Lib.hid q1; have HGS := Lib.hid hgs
  clear hb1 hgs q1 OP
  go_wp2_with fail
  rw [← HA.out, ← HX.out]
  refine (P1 _ _ _ HB1.out).out.mono ?_
  rintro e w2 ⟨rfl, t2, bl, c, bp, h2⟩
  have H2 := Lib.hid h2
  have Q2 : Hid (Below w.heap.size w w2) := Q1.out.trans (t2.below Q1.out.size (fun k hk => by have := HGS.out; omega))
  have HBL : Hid (w1.heap.size ≤ bl) := (h2.row.lt bl rfl).1
  have Z2 : Hid (w1.heap.size ≤ w2.heap.size) := t2.size
  clear h2 t2
  go_wp2_with fail
  rw [← HB.out, ← HY.out]
  refine (P2 _ _ _ _ _ _ _ H2.out Z2.out).out.mono ?_
  rintro e w3 ⟨rfl, t3, bq, c3, h3⟩
  have H3 := Lib.hid h3
  have Q3 : Hid (Below w.heap.size w w3) := Q2.out.trans (t3.below Q2.out.size (fun k hk => by have := HBL.out; have := Q1.out.size; omega))
  clear h3 t3
  have RD := Lib.hid (one_rd H3.out).1
  have RA := Lib.hid (range_any w3 gs [(1, [(a, x), (b, y)])] RD.out (one_full (by show 0 < 2; omega)) (by show 1 ≤ _; omega) (fun i => Nat.le_trans (one_len i) (by show 2 ≤ _; omega)) (fun i k => Nat.le_trans (one_tail i k) (by show 2 ≤ _; omega)) a b 1)
  rw [RG.out] at RA
  have SL := fun W hW => Lib.hid (slen_any W gs [(1, [(a, x), (b, y)])] (RD.out.below hW) (by show 1 ≤ _; omega) (fun i hi => by
    obtain rfl : i = 0 := by simpa using hi
    exact SZ.out) (by show lenS [(1, [(a, x), (b, y)])] 1 ≤ _; rw [S2.out]; decide))
  have SS := fun W hW => Lib.hid (ssize_any W gs [(1, [(a, x), (b, y)])] (RD.out.below hW) (by show 1 ≤ _; omega) (fun i hi => by
    obtain rfl : i = 0 := by simpa using hi
    exact SZ.out) (by show sizS [(1, [(a, x), (b, y)])] 1 ≤ _; rw [S10.out]; decide))
  simp only [List.length_singleton] at SL SS
  rw [S2.out] at SL
  rw [S10.out] at SS
  go_wp2_with fail
  rw [← HA.out, ← HB.out]
  refine RA.out.mono ?_
  rintro e w4 ⟨v, rfl, ho, q4⟩
  have HO := Lib.hid ho
  obtain ⟨gr, cr, rfl⟩ := own_shape ho
  have cc := ho.cells (g := gr) rfl
  have k0 : w4.cell? ⟨gr, 0, none⟩ = some (.string a) := by simpa [Addr.add] using cc 0 _ rfl
  have k1 : w4.cell? ⟨gr, 1, none⟩ = some (.string x) := by simpa [Addr.add] using cc 1 _ rfl
  rw [HA.out] at k0
  rw [HX.out] at k1
  have Q4h := Lib.hid q4
  have Q4 : Hid (Below w.heap.size w w4) := Q3.out.trans (q4.mono Q3.out.size)
  have SL4 := SL w4 q4
  clear ho cc q4 RA
  go_wp2_with fail
  refine SL4.out.mono ?_
  rintro e w5 ⟨rfl, q5⟩
  have Q5 : Hid (Below w.heap.size w w5) := Q4.out.trans (q5.mono Q4.out.size)
  have SS5 := SS w5 (Q4h.out.trans (q5.mono Q4h.out.size))
  clear q5 SL4 SL
  go_wp2_with fail
  refine SS5.out.mono ?_
  rintro e w6 ⟨rfl, q6⟩
  have Q6 : Hid (Below w.heap.size w w6) := Q5.out.trans (q6.mono Q5.out.size)
  clear q6 SS5 SS
  go_wp2
  go_ret
  exact ⟨rfl, Q6.out⟩
end Go.Proofs.Ytoolkamajlgcbaa
