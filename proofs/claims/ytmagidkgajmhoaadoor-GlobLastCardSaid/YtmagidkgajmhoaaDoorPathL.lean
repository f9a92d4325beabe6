/- PathL: the walk of the document's Cut. -/
import Derived.Test.YtmagidkgajmhoaaDoorPathK
set_option linter.unusedVariables false
set_option linter.unusedSimpArgs false
namespace Go.Proofs.YtmagidkgajmhoaaDoor
open Go.RowKit

theorem cut_step {d : Bs} {f k : Nat} (hf : f ≤ k) (hk : k < d.length) (h : d[k] = 47) (hn : (47 : UInt8) ∉ (d.drop f).take (k - f)) : cut (d.drop f) = (d.drop f).take (k - f) :: cut (d.drop (k + 1)) := by
  have e : d.drop f = (d.drop f).take (k - f) ++ 47 :: d.drop (k + 1) := by
    have e2 : (d.drop f).drop (k - f) = 47 :: d.drop (k + 1) := by
      rw [List.drop_drop, show f + (k - f) = k by omega, ← h, List.getElem_cons_drop]
    rw [← e2, List.take_append_drop]
  conv => lhs; rw [e]
  rw [cut_append, cut_plain _ hn]
  rfl
theorem cut_last {d : Bs} {f : Nat} (hn : (47 : UInt8) ∉ (d.drop f).take (d.length - f)) : cut (d.drop f) = [(d.drop f).take (d.length - f)] := by
  have e : (d.drop f).take (d.length - f) = d.drop f := List.take_of_length_le (by rw [List.length_drop]; exact Nat.le_refl _)
  rw [e] at hn ⊢
  exact cut_plain _ hn
theorem no_next {d : Bs} {f k : Nat} (hf : f ≤ k) (hk : k < d.length) (h : ¬ d[k] = 47) (hn : (47 : UInt8) ∉ (d.drop f).take (k - f)) : (47 : UInt8) ∉ (d.drop f).take (k + 1 - f) := by
  rw [show k + 1 - f = k - f + 1 by omega, List.take_succ_eq_append_getElem (by rw [List.length_drop]; omega)]
  intro hx
  rcases List.mem_append.1 hx with hx | hx
  · exact hn hx
  · rw [List.getElem_drop] at hx
    simp only [show f + (k - f) = k by omega, List.mem_singleton] at hx
    exact h hx.symm
theorem dat_get (s : ByteArray) (k : Nat) (h : k < s.size) : (dat s)[k]'(by rw [← Lib.size_eq]; exact h) = s[k] := by simp [dat]; rfl
def strsV (l : List ByteArray) : List Value := l.map Value.string
theorem row_own {w : World} {b : Nat} {v : Value} {l : List ByteArray} (h : w.ownsRow b 9 1 v l.length (strsV l)) (hp : 0 < l.length) : ∃ g c, v = .slice (some ⟨g, 0, none⟩) l.length c ∧ l.length ≤ c ∧ b ≤ g ∧ Row w g l := by
  have h' := h.2
  rcases h.2 with ⟨_, h0⟩ | ⟨g, c, cur, rfl, h1, h2, h3, h4⟩
  · omega
  · refine ⟨g, c, rfl, ?_, (h.lt g (by simp [Value.ownBlock])).1, fun k hk => (h.cellAt k (by omega)).trans ?_⟩
    · first | exact h3 | exact h2 | exact h1 | omega
    · simp [strsV, List.getElem?_map, List.getElem?_eq_getElem hk]

set_option maxHeartbeats 3200000 in
set_option maxRecDepth 100000 in
theorem refcut_any (s : ByteArray) (w : World) (hs : s.size ≤ 4294967280) :
    Calls Tryd.prog 21 #[.string s] w fun e w' => ∃ g c ps, e = .returned (.slice (some ⟨g, 0, none⟩) ps.length c) ∧ bytes ps = cut (dat s) ∧ Row w' g ps ∧ w.heap.size ≤ g ∧ ps.length ≤ c ∧ Below w.heap.size w w' := by
  obtain ⟨i0, hi, hz0, hz1, hz2⟩ := info_parts infoStr
  have hsl : s.size = (dat s).length := Lib.size_eq s
  go_enter Tryd.func21, Tryd.ntmps21
  go_wp2_with fail
  go_loopw [3, 4, 5, 6] (fun v f i i2 wr => ∃ (k fr : Nat) (done : List ByteArray), i = .int .i64 k ∧ f = .int .i64 fr ∧ done.length ≤ k ∧ Hid (wr.ownsRow w.heap.size 9 1 v done.length (strsV done)) ∧ Hid (Below w.heap.size w wr) ∧
    Hid ((k ≤ s.size ∧ fr ≤ k ∧ cut (dat s) = bytes done ++ cut ((dat s).drop fr) ∧ (47 : UInt8) ∉ ((dat s).drop fr).take (k - fr)) ∨ (k = s.size + 1 ∧ cut (dat s) = bytes done))) (fun _ _ i _ _ => s.size + 1 - (intOf i).toNat)
  case atStart => exact ⟨0, 0, [], rfl, rfl, Nat.le_refl _, World.ownsRow_nil _ _ _ _, Below.refl _ _, .inl ⟨Nat.zero_le _, Nat.le_refl _, by simp [bytes], by simp⟩⟩
  case round =>
    obtain ⟨k, fr, done, rfl, rfl, hdl, ho, hb, hinv⟩ := hrel
    rcases hinv.out with ⟨hk, hfk, hcut, hno⟩ | ⟨hk, hcut⟩
    · by_cases hpl : k < s.size ∧ ¬ s[k]! = 47
      · obtain ⟨hlt, hc0⟩ := hpl
        have hc : ¬ s[k] = 47 := by rw [getElem!_pos s k hlt] at hc0; exact hc0
        have HN : Hid ((k + 1 ≤ s.size ∧ fr ≤ k + 1 ∧ cut (dat s) = bytes done ++ cut ((dat s).drop fr) ∧ (47 : UInt8) ∉ ((dat s).drop fr).take (k + 1 - fr)) ∨ (k + 1 = s.size + 1 ∧ cut (dat s) = bytes done)) :=
          .inl ⟨hlt, by omega, hcut, no_next hfk (by omega) (by rw [dat_get s k hlt]; exact hc) hno⟩
        have q1 : ((k : Int) == s.size) = false := by simp; omega
        have q2 : (((s[k]).toNat : Int) == 47) = false := by
          simp only [beq_eq_false_iff_ne, ne_eq]
          intro x
          apply hc
          apply UInt8.toNat_inj.1
          have e47 : (47 : UInt8).toNat = 47 := rfl
          rw [e47]
          omega
        clear hcut hno hc hc0 hinv hsl
        go_wp2
        go_roundw
        case rel => exact ⟨k + 1, fr, done, by go_num, rfl, by omega, ho, hb, HN⟩
        case measure => simp [intOf]; omega
      · have HN : Hid ((k + 1 ≤ s.size ∧ k + 1 ≤ k + 1 ∧ cut (dat s) = bytes (done ++ [s.extract fr k]) ++ cut ((dat s).drop (k + 1)) ∧ (47 : UInt8) ∉ ((dat s).drop (k + 1)).take (k + 1 - (k + 1))) ∨ (k + 1 = s.size + 1 ∧ cut (dat s) = bytes (done ++ [s.extract fr k]))) := by
          have hz : bytes (done ++ [s.extract fr k]) = bytes done ++ [((dat s).drop fr).take (k - fr)] := by
            unfold bytes
            rw [List.map_append]
            simp only [List.map_cons, List.map_nil]
            rw [Lib.extract_data]
          by_cases hlt : k < s.size
          · left
            have hc : s[k] = 47 := by
              by_cases hc : s[k] = 47
              · exact hc
              · exact (hpl ⟨hlt, by rw [getElem!_pos s k hlt]; exact hc⟩).elim
            refine ⟨hlt, Nat.le_refl _, ?_, by simp⟩
            rw [hz, hcut, cut_step hfk (by omega) (by rw [dat_get s k hlt]; exact hc) hno, List.append_assoc]
            rfl
          · right
            obtain rfl : k = s.size := by omega
            refine ⟨rfl, ?_⟩
            rw [hz, hcut]
            congr 1
            rw [hsl] at hno ⊢
            exact cut_last hno
        have hbr : (k = s.size) ∨ (∃ h : k < s.size, ((s[k]'h).toNat : Int) = 47) := by
          by_cases hlt : k < s.size
          · right
            refine ⟨hlt, ?_⟩
            have hc : s[k] = 47 := by
              by_cases hc : s[k] = 47
              · exact hc
              · exact (hpl ⟨hlt, by rw [getElem!_pos s k hlt]; exact hc⟩).elim
            rw [hc]; rfl
          · left; omega
        have hsz : w.heap.size ≤ wr.heap.size := hb.out.size
        obtain ⟨z, hz⟩ : ∃ z, z = s.extract fr k := ⟨_, rfl⟩
        rw [← hz] at HN
        have ho1 := Lib.hid (ho.out.alloc (.cells #[.string (s.extract fr k)] 9))
        have HZ := Lib.hid hz
        clear hcut hno hpl hinv hsl hz
        have hkk : k ≤ 4294967280 := by omega
        rcases hbr with he | ⟨hlt, hc⟩
        · have q1 : ((k : Int) == s.size) = true := by simp; omega
          clear he
          go_wp2_with (at_builtin; refine wpList_append_own_at _ rfl (.tmp 22) (.tmp 27) 42 rfl w.heap.size 9 i0 _ 1 16 Tryd.underlying42 hi hz0 hz1 hz2 rfl (by decide) u3 done.length _ rfl ho1.out ⟨wr.heap.size, 0, none⟩ 1 1 [.string (s.extract fr k)] rfl rfl ?c1 ?c2 (by unfold maxLen; omega) (by omega) (by simp; omega) ?_)
          case c1 =>
            intro j u hj
            match j, hj with
            | 0, hj => simp at hj; subst hj; simp [Addr.add]
          case c2 => intro u hu; simp at hu; subst hu; rfl
          intro v2 w2 ho2 hg2 _ _
          have hb2 : Hid (Below w.heap.size w w2) := (hb.out.alloc hsz _).grown hg2 (by simp; omega) (fun j hj => (ho1.out.lt j hj).1)
          have HO2 : Hid (w2.ownsRow w.heap.size 9 1 v2 (done ++ [z]).length (strsV (done ++ [z]))) := by
            have e : strsV (done ++ [z]) = strsV done ++ [.string z] := by simp [strsV]
            unfold Hid
            rw [e, List.length_append, HZ.out]
            exact ho2
          clear ho2 hg2 ho1
          go_wp2
          go_roundw
          case rel => exact ⟨k + 1, k + 1, done ++ [z], by go_num, by go_num, by simp; omega, HO2, hb2, HN⟩
          case measure => simp [intOf]; omega
        · have q1 : ((k : Int) == s.size) = false := by simp; omega
          have q2 : (((s[k]).toNat : Int) == 47) = true := by simpa using hc
          go_wp2_with (at_builtin; refine wpList_append_own_at _ rfl (.tmp 22) (.tmp 27) 42 rfl w.heap.size 9 i0 _ 1 16 Tryd.underlying42 hi hz0 hz1 hz2 rfl (by decide) u3 done.length _ rfl ho1.out ⟨wr.heap.size, 0, none⟩ 1 1 [.string (s.extract fr k)] rfl rfl ?c1 ?c2 (by unfold maxLen; omega) (by omega) (by simp; omega) ?_)
          case c1 =>
            intro j u hj
            match j, hj with
            | 0, hj => simp at hj; subst hj; simp [Addr.add]
          case c2 => intro u hu; simp at hu; subst hu; rfl
          intro v2 w2 ho2 hg2 _ _
          have hb2 : Hid (Below w.heap.size w w2) := (hb.out.alloc hsz _).grown hg2 (by simp; omega) (fun j hj => (ho1.out.lt j hj).1)
          have HO2 : Hid (w2.ownsRow w.heap.size 9 1 v2 (done ++ [z]).length (strsV (done ++ [z]))) := by
            have e : strsV (done ++ [z]) = strsV done ++ [.string z] := by simp [strsV]
            unfold Hid
            rw [e, List.length_append, HZ.out]
            exact ho2
          clear ho2 hg2 ho1
          go_wp2
          go_roundw
          case rel => exact ⟨k + 1, k + 1, done ++ [z], by go_num, by go_num, by simp; omega, HO2, hb2, HN⟩
          case measure => simp [intOf]; omega
    · subst hk
      have hdp : Hid (0 < done.length) := by
        unfold Hid
        have := congrArg List.length hcut
        have h2 := cut_ne (dat s)
        cases hd : done with
        | nil => rw [hd] at hcut; exact (h2 hcut).elim
        | cons a l => simp
      have HC := Lib.hid hcut
      clear hinv hcut hsl
      obtain ⟨g, c, rfl, h1, h2, h3⟩ := row_own ho.out hdp.out
      have H3 := Lib.hid h3
      clear h3
      go_wp2
      go_ret
      exact ⟨g, c, done, rfl, HC.out.symm, H3.out, h2, h1, hb.out⟩
end Go.Proofs.YtmagidkgajmhoaaDoor
