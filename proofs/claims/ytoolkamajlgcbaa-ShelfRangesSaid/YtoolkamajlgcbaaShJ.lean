/- ShJ: a shelf's Range. -/
import Derived.Test.YtoolkamajlgcbaaShI
set_option linter.unusedVariables false
set_option linter.unusedSimpArgs false
namespace Go.Proofs.Ytoolkamajlgcbaa
open Go.RowKit

def prv : PL → List Value
  | [] => []
  | x :: l => .string x.1 :: .string x.2 :: prv l
theorem prv_append : ∀ a b : PL, prv (a ++ b) = prv a ++ prv b
  | [], b => rfl
  | x :: a, b => by simp only [List.cons_append, prv, prv_append a b]
def rngK (to : ByteArray) (most : Int) : PL → PL → PL × Bool
  | [], out => (out, false)
  | p :: l, out => if gtB p.1 to = true ∨ most ≤ (out.length : Int) then (out, true) else rngK to most l (out ++ [p])
/-- The entries from a leaf's place on. -/
def tailS (sh : List (Nat × PL)) (i k : Nat) : PL := (lfA sh i).drop k ++ (sh.drop (i + 1)).flatMap (·.2)
theorem tail_end {sh : List (Nat × PL)} {i k : Nat} (h : sh.length ≤ i) : tailS sh i k = [] := by
  unfold tailS
  have e : lfA sh i = [] := by unfold lfA; rw [List.getD_eq_getElem?_getD, List.getElem?_eq_none h]; rfl
  rw [e, List.drop_nil, List.nil_append, List.drop_eq_nil_of_le (by omega)]
  rfl
theorem tail_leaf {sh : List (Nat × PL)} {i k : Nat} (hi : i < sh.length) (hk : (lfA sh i).length ≤ k) : tailS sh i k = tailS sh (i + 1) 0 := by
  unfold tailS
  rw [List.drop_eq_nil_of_le hk, List.nil_append, List.drop_zero]
  by_cases h : i + 1 < sh.length
  · rw [List.drop_eq_getElem_cons h, List.flatMap_cons, lfA_get h]
  · rw [List.drop_eq_nil_of_le (by omega), List.drop_eq_nil_of_le (by omega)]
    have e : lfA sh (i + 1) = [] := by unfold lfA; rw [List.getD_eq_getElem?_getD, List.getElem?_eq_none (by omega)]; rfl
    rw [e]
    rfl
theorem tail_step {sh : List (Nat × PL)} {i k : Nat} (hk : k < (lfA sh i).length) : tailS sh i k = (lfA sh i)[k] :: tailS sh i (k + 1) := by
  unfold tailS
  rw [List.drop_eq_getElem_cons hk, List.cons_append]
def rngR (sh : List (Nat × PL)) (frm to : ByteArray) (most : Int) : PL := (rngK to most (tailS sh (fI sh frm) (fK sh frm)) []).1
theorem fK_le {sh : List (Nat × PL)} {key : ByteArray} : fK sh key ≤ (lfA sh (fI sh key)).length := by
  unfold fK
  split
  · exact Nat.zero_le _
  · exact (srch_le _ _ 0 _ (Nat.le_refl _) (Nat.zero_le _)).2
set_option maxHeartbeats 6400000 in
set_option maxRecDepth 100000 in
theorem range_any (w : World) (gs : Nat) (sh : List (Nat × PL)) (hs : ShRd w gs sh) (hf : Full sh) (hn : sh.length ≤ 1000000) (hn2 : ∀ i, (lfA sh i).length ≤ 1000000) (hT : ∀ i k, (tailS sh i k).length ≤ 1000000000) (frm to : ByteArray) (most : Int) :
    Calls Try.prog 19 #[.pointer (some ⟨gs, 0, none⟩), .string frm, .string to, .int .i64 most] w fun e w' => ∃ v, e = .returned v ∧ w'.ownsRow w.heap.size 47 2 v (rngR sh frm to most).length (prv (rngR sh frm to most)) ∧ Below w.heap.size w w' := by
  obtain ⟨i0, hi, hz0, hz1, hz2⟩ := info_parts infoPr
  have FN := Lib.hid (find_any w gs sh hs hf hn hn2 frm)
  obtain ⟨fi, hfi⟩ : ∃ x, x = fI sh frm := ⟨_, rfl⟩
  obtain ⟨fk, hfk⟩ : ∃ x, x = fK sh frm := ⟨_, rfl⟩
  have hkle : fk ≤ (lfA sh fi).length := by rw [hfi, hfk]; exact fK_le
  have hile : fi ≤ sh.length := by
    rw [hfi]
    by_cases h : 0 < sh.length
    · exact Nat.le_of_lt (fI_lt h)
    · have : fI sh frm ≤ sh.length := by unfold fI; have := (srch_le (fun i => gtB (keyA (lfA sh i) 0) frm) sh.length 0 sh.length (by omega) (Nat.zero_le _)).2; omega
      exact this
  have RR : Hid ((rngK to most (tailS sh fi fk) []).1 = rngR sh frm to most) := by unfold Hid rngR; rw [hfi, hfk]
  rw [← hfi, ← hfk] at FN
  generalize rngR sh frm to most = R at RR ⊢
  have HS := Lib.hid hs
  clear hfi hfk hs
  go_enter Try.func19, Try.ntmps19
  go_wp2_with fail
  refine FN.out.mono ?_
  rintro e w1 ⟨rfl, q1⟩
  have Q1 := Lib.hid q1
  clear q1 FN
  go_wp2_with fail
  go_loopw [9, 10, 11] (fun v iv kv wr => ∃ (i k : Nat) (out : PL), i ≤ sh.length ∧ k ≤ 1000000 ∧ (i < sh.length → k ≤ (lfA sh i).length) ∧ iv = .int .i64 i ∧ kv = .int .i64 k ∧ Hid ((rngK to most (tailS sh i k) out).1 = R) ∧ Hid (out.length + (tailS sh i k).length ≤ 1000000000) ∧ Hid (wr.ownsRow w.heap.size 47 2 v out.length (prv out)) ∧ Hid (Below w.heap.size w wr)) (fun _ iv _ _ => sh.length - (intOf iv).toNat)
  case atStart => exact ⟨fi, fk, [], hile, Nat.le_trans hkle (hn2 fi), fun _ => hkle, rfl, rfl, RR, by unfold Hid; have := hT fi fk; simp; omega, World.ownsRow_nil _ _ _ _, Q1⟩
  case round =>
    obtain ⟨i, k, out, hi1, hk1, hk2, rfl, rfl, hr, hb1, ho, hb⟩ := hrel
    obtain ⟨A, c, g1, g2, g3⟩ := HS.out
    replace g1 := cell_below hb.out g1
    by_cases hlt : i < sh.length
    · obtain ⟨b, o, rfl, hc⟩ := g3 (by omega)
      obtain ⟨_, A', c', z1, zc, zr⟩ := hc i hlt
      rw [← lfA_get hlt] at z1 zc zr
      replace z1 := cell_below hb.out z1
      have hkl2 := hk2 hlt
      have TL := Lib.hid (@tail_leaf sh i (lfA sh i).length hlt (Nat.le_refl _))
      have TS := Lib.hid (fun k (hk : k < (lfA sh i).length) => tail_step hk)
      have hlm := hn2 i
      generalize lfA sh i = l at z1 zc zr hkl2 TL TS hlm
      have ZR := Lib.hid zr
      have zc' := zc
      clear hc zr g3 hk2
      by_cases hkl : k < l.length
      · obtain ⟨b', o', rfl, hcc⟩ := ZR.out (by omega)
        have CC := Lib.hid hcc
        have hz : ¬ c' - k = 0 := by omega
        have hzk : ¬ c' ≤ k := by omega
        have hkc : k ≤ c' := by omega
        clear hcc
        go_wp2_with fail
        go_loopw [9, 43] (fun v jv wr => ∃ (j : Nat) (out : PL), j ≤ l.length - k ∧ jv = .int .i64 j ∧ Hid ((rngK to most (tailS sh i (k + j)) out).1 = R) ∧ Hid (out.length + (tailS sh i (k + j)).length ≤ 1000000000) ∧ Hid (wr.ownsRow w.heap.size 47 2 v out.length (prv out)) ∧ Hid (Below w.heap.size w wr)) (fun _ jv _ => (l.length - k) - (intOf jv).toNat)
        case atStart => exact ⟨0, out, Nat.zero_le _, rfl, hr, hb1, ho, hb⟩
        case round =>
          obtain ⟨j, out, hj, rfl, hr, hb1, ho, hb⟩ := hrel
          by_cases hjl : j < l.length - k
          · obtain ⟨y0, y1⟩ := CC.out (k + j) (by omega)
            have TSj := Lib.hid (TS.out (k + j) (by omega))
            generalize l[k + j] = pp at y0 y1 TSj
            obtain ⟨p1, p2⟩ := pp
            simp only at y0 y1 TSj
            rw [Nat.add_mul, ← Nat.add_assoc] at y0 y1
            replace y0 := cell_below hb.out y0; replace y1 := cell_below hb.out y1
            have hj3 : (j : Int) < (l.length : Int) - (k : Int) := by omega
            have hj4 : (j : Int) < ((l.length - k : Nat) : Int) := by omega
            have hbz : Hid (w.heap.size ≤ wr.heap.size) := hb.out.size
            have hr0 := hr.out
            rw [TSj.out] at hr0
            unfold rngK at hr0
            obtain ⟨A9, c9, rfl⟩ := own_slice ho.out
            by_cases hst : gtB p1 to = true ∨ most ≤ (out.length : Int)
            · rw [if_pos hst] at hr0
              have R2 : Hid (out = R) := hr0
              have hex : (!Op.bytesLess p1.toList to.toList && !p1.toList == to.toList) = true ∨ ((!Op.bytesLess p1.toList to.toList && !p1.toList == to.toList) = false ∧ decide (most ≤ (out.length : Int)) = true) := by
                by_cases hg : gtB p1 to = true
                · exact .inl hg
                · exact .inr ⟨by simpa [gtB] using hg, by simpa using hst.resolve_left hg⟩
              clear hst hr0 hr
              rcases hex with x1 | ⟨x1, x2⟩
              all_goals
                go_wp2
                go_ret
                exact ⟨_, rfl, by rw [← R2.out]; exact ho.out.alloc _, hb.out.alloc hbz.out _⟩
            · rw [if_neg hst] at hr0
              have HR0 := Lib.hid hr0
              have x1 : (!Op.bytesLess p1.toList to.toList && !p1.toList == to.toList) = false := by
                have : ¬ gtB p1 to = true := fun h => hst (.inl h)
                simpa [gtB] using this
              have x2 : decide (most ≤ (out.length : Int)) = false := by simp; omega
              have hb3 := hb1.out
              rw [TSj.out, List.length_cons] at hb3
              obtain ⟨W3, hW3⟩ : ∃ W3, W3 = (wr.alloc (.cells #[.string p1, .string p2] 47)).alloc (.cells #[.string p1, .string p2] 47) := ⟨_, rfl⟩
              have e1 : Hid ((wr.alloc (.cells #[.string p1, .string p2] 47)).heap.size = wr.heap.size + 1) := by unfold Hid; simp
              clear hst hr0 hr
              have NW : ∀ j u, [Value.string p1, .string p2][j]? = some u → ((wr.alloc (.cells #[.string p1, .string p2] 47)).alloc (.cells #[.string p1, .string p2] 47)).cell? ((⟨wr.heap.size + 1, 0, none⟩ : Addr).add j) = some u := by
                rw [← e1.out]
                exact two_new _ _ _ _
              have OA : ((wr.alloc (.cells #[.string p1, .string p2] 47)).alloc (.cells #[.string p1, .string p2] 47)).ownsRow w.heap.size 47 2 (.slice A9 out.length c9) out.length (prv out) := World.ownsRow.alloc (World.ownsRow.alloc ho.out _) _
              have hz9 : w.heap.size ≤ ((wr.alloc (.cells #[.string p1, .string p2] 47)).alloc (.cells #[.string p1, .string p2] 47)).heap.size := by have := hbz.out; simp; omega
              have l9 : out.length + 1 ≤ maxLen := by unfold maxLen; omega
              have l10 : (out.length + 1) * 32 ≤ 140737488355328 := by omega
              have NWh := Lib.hid NW; have OAh := Lib.hid OA; have HZ9 := Lib.hid hz9
              clear NW OA hz9
              go_wp2_with (at_builtin; refine wpList_append_own_at _ rfl (.tmp 58) (.tmp 60) 43 rfl w.heap.size 47 i0 _ 2 32 Try.underlying43 hi hz0 hz1 hz2 rfl (by decide) _ out.length (prv out) rfl OAh.out ⟨wr.heap.size + 1, 0, none⟩ 1 1 [.string p1, .string p2] rfl rfl NWh.out (by simp [Value.oneCell']) l9 l10 HZ9.out ?_)
              intro v4 w4 ho4 hg4 _ _
              have B4 : Hid (Below w.heap.size w w4) := ((hb.out.alloc hbz.out _).alloc (by have := hbz.out; simp; omega) _).grown hg4 (by have := hbz.out; simp; omega) (fun j hj => (ho.out.lt j hj).1)
              have O4 : Hid (w4.ownsRow w.heap.size 47 2 v4 (out ++ [(p1, p2)]).length (prv (out ++ [(p1, p2)]))) := by unfold Hid; rw [prv_append, List.length_append]; exact ho4
              have hb5 : Hid ((out ++ [(p1, p2)]).length + (tailS sh i (k + (j + 1))).length ≤ 1000000000) := by unfold Hid; rw [List.length_append]; show out.length + 1 + (tailS sh i (k + j + 1)).length ≤ _; omega
              clear ho4 hg4 hb3
              go_wp2
              go_roundw
              case rel => first | exact ⟨j + 1, out ++ [(p1, p2)], hjl, by go_num, HR0, hb5, O4, B4⟩ | ((repeat apply Exists.intro); refine ⟨?_, rfl⟩; exact ⟨j + 1, out ++ [(p1, p2)], hjl, by go_num, HR0, hb5, O4, B4⟩)
              case measure => simp [intOf]; omega
          · have hjn : j = l.length - k := by omega
            have TE : Hid (tailS sh i (k + j) = tailS sh (i + 1) 0) := by
              unfold Hid
              rw [show k + j = l.length by omega]
              exact TL.out
            have hr2 : Hid ((rngK to most (tailS sh (i + 1) 0) out).1 = R) := by rw [← TE.out]; exact hr
            have hb2 : Hid (out.length + (tailS sh (i + 1) 0).length ≤ 1000000000) := by rw [← TE.out]; exact hb1
            clear hr hb1
            have hjl3 : ¬ (j : Int) < (l.length : Int) - (k : Int) := by omega
            have hjl4 : ¬ (j : Int) < ((l.length - k : Nat) : Int) := by omega
            go_wp2
            go_roundw
            case rel => first | exact ⟨i + 1, 0, out, hlt, by decide, fun _ => Nat.zero_le _, by go_num, rfl, hr2, hb2, ho, hb⟩ | ((repeat apply Exists.intro); refine ⟨?_, rfl⟩; exact ⟨i + 1, 0, out, hlt, by decide, fun _ => Nat.zero_le _, by go_num, rfl, hr2, hb2, ho, hb⟩)
            case measure => simp [intOf]; omega
      · have hkl3 : k = l.length := by omega
        subst hkl3
        have hr2 : Hid ((rngK to most (tailS sh (i + 1) 0) out).1 = R) := by rw [← TL.out]; exact hr
        have hb2 : Hid (out.length + (tailS sh (i + 1) 0).length ≤ 1000000000) := by rw [← TL.out]; exact hb1
        have hkc : l.length ≤ c' := zc'
        have hss : l.length - l.length = 0 := by omega
        have hss2 : (l.length : Int) - (l.length : Int) = 0 := by omega
        clear hr hb1
        by_cases hz : c' - l.length = 0
        all_goals
          go_wp2_with fail
          go_loopw [9, 43] (fun v jv wr' => jv = .int .i64 0 ∧ Hid (wr'.ownsRow w.heap.size 47 2 v out.length (prv out)) ∧ Hid (Below w.heap.size w wr')) (fun _ jv _ => 0)
          case atStart => exact ⟨rfl, ho, hb⟩
          case round =>
            obtain ⟨rfl, ho, hb⟩ := hrel
            go_wp2
            go_roundw
            case rel => first | exact ⟨i + 1, 0, out, hlt, by decide, fun _ => Nat.zero_le _, by go_num, rfl, hr2, hb2, ho, hb⟩ | ((repeat apply Exists.intro); refine ⟨?_, rfl⟩; exact ⟨i + 1, 0, out, hlt, by decide, fun _ => Nat.zero_le _, by go_num, rfl, hr2, hb2, ho, hb⟩)
            case measure => simp [intOf]; omega
    · have hil : i = sh.length := by omega
      subst hil
      have R2 : Hid (out = R) := by
        have := hr.out
        rw [tail_end (Nat.le_refl _)] at this
        exact this
      go_wp2
      go_ret
      exact ⟨_, rfl, by rw [← R2.out]; exact ho.out, hb.out⟩
end Go.Proofs.Ytoolkamajlgcbaa
