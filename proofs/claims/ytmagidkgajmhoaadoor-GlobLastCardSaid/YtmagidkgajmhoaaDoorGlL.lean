/- GlL: glob.cut. -/
import Derived.Test.YtmagidkgajmhoaaDoorGlK
set_option linter.unusedVariables false
set_option linter.unusedSimpArgs false
namespace Go.Proofs.YtmagidkgajmhoaaDoor
open Go.RowKit

/-- Bytes ahead of the first of some texts. -/
def push (a : Bs) (l : List Bs) : List Bs := (a ++ l.headD []) :: l.tail
/-- A pattern, parted at its strokes, but for those behind a `\`. -/
def cutE : Bs → List Bs
  | [] => [[]]
  | [c] => if c = 47 then [[], []] else [[c]]
  | c :: d :: r => if c = 92 then push [c, d] (cutE r) else if c = 47 then [] :: cutE (d :: r) else push [c] (cutE (d :: r))
theorem cutE_ne : ∀ l, cutE l ≠ []
  | [] => by simp [cutE]
  | [c] => by unfold cutE; split <;> simp
  | c :: d :: r => by
    unfold cutE
    split
    · simp [push]
    · split <;> simp [push]
theorem push_nil {l : List Bs} (h : l ≠ []) : push [] l = l := by
  cases l with
  | nil => exact absurd rfl h
  | cons a r => rfl
theorem push_push (a b : Bs) (l : List Bs) : push a (push b l) = push (a ++ b) l := by simp [push]
theorem cutE_92 : ∀ l : Bs, cutE (92 :: l) = push ((92 :: l).take 2) (cutE (l.drop 1))
  | [] => by simp [cutE, push]
  | d :: r => by simp [cutE]
theorem cutE_47 : ∀ l : Bs, cutE (47 :: l) = [] :: cutE l
  | [] => rfl
  | d :: r => by simp [cutE]
theorem cutE_c {c : UInt8} (h1 : c ≠ 92) (h2 : c ≠ 47) : ∀ l : Bs, cutE (c :: l) = push [c] (cutE l)
  | [] => by simp [cutE, h2, push]
  | d :: r => by simp [cutE, h1, h2]
def seg (D : Bs) (f i : Nat) : Bs := (D.drop f).take (i - f)
theorem seg_add (D : Bs) (f i n : Nat) (h : f ≤ i) : seg D f (i + n) = seg D f i ++ (D.drop i).take n := by
  unfold seg
  rw [show i + n - f = (i - f) + n by omega, List.take_add, List.drop_drop, show f + (i - f) = i by omega]
theorem seg_self (D : Bs) (i : Nat) : seg D i i = [] := by unfold seg; rw [Nat.sub_self]; rfl
theorem dat_extract (s : ByteArray) (f i : Nat) : dat (s.extract f i) = seg (dat s) f i := by
  show (s.extract f i).data.toList = _
  rw [Lib.extract_data]
  rfl
theorem bytes_snoc (ps : List ByteArray) (x : ByteArray) : bytes (ps ++ [x]) = bytes ps ++ [dat x] := by unfold bytes; rw [List.map_append]; rfl
theorem datsz (s : ByteArray) : (dat s).length = s.size := by unfold dat; rw [Array.length_toList]; rfl
theorem own_cap {w : World} {B size n c : Nat} {e : TypeId} {A : Option Addr} {xs : List Value} (h : w.ownsRow B e size (.slice A n c) n xs) : n ≤ c := by
  rcases h.2 with ⟨hv, h0⟩ | ⟨g, cap, cur, hv, h1, hk, h2, h3, h4, h5⟩
  · omega
  · cases hv
    first | exact h1 | exact h2 | exact h3 | exact h4 | omega
theorem strsV_one (z : ByteArray) : ∀ u ∈ [Value.string z], u.oneCell' = true := fun u hu => by
  simp at hu
  subst hu
  rfl
theorem str_new (w : World) (z : ByteArray) : ∀ j u, [Value.string z][j]? = some u → (w.alloc (.cells #[.string z] 9)).cell? ((⟨w.heap.size, 0, none⟩ : Addr).add j) = some u := fun j u hj => by
  match j, hj with
  | 0, hj => simp at hj; subst hj; simp [Addr.add]
theorem u8_lit (c : UInt8) (z : UInt8) : ((c.toNat : Int) == (z.toNat : Int)) = (c == z) := by
  rw [Bool.eq_iff_iff, beq_iff_eq, beq_iff_eq]
  constructor
  · intro h
    exact UInt8.toNat_inj.1 (by omega)
  · rintro rfl; rfl
set_option maxHeartbeats 3200000 in
set_option maxRecDepth 100000 in
theorem cutE_any (s : ByteArray) (w : World) (hs : s.size ≤ 1000000) :
    Calls Tryd.prog 23 #[.string s] w fun e w' => ∃ A c ps, e = .returned (.slice A ps.length c) ∧ bytes ps = cutE (dat s) ∧ ps.length ≤ c ∧ ps.length ≤ s.size + 1 ∧ Blk w' 9 A (strsV ps) ∧ Below w.heap.size w w' := by
  obtain ⟨i0, hi, hz0, hz1, hz2⟩ := info_parts infoStr
  obtain ⟨R, hR⟩ : ∃ R, R = cutE (dat s) := ⟨_, rfl⟩
  rw [← hR]
  have R0 : Hid (R = bytes [] ++ push (seg (dat s) 0 0) (cutE ((dat s).drop 0))) := by
    unfold Hid
    rw [hR, seg_self, push_nil (cutE_ne _)]
    rfl
  have HR := Lib.hid hR
  clear hR
  go_enter Tryd.func23, Tryd.ntmps23
  go_wp2_with fail
  go_loopw [3, 4, 5] (fun v f i wr => ∃ (k fr c : Nat) (A : Option Addr) (done : List ByteArray), v = .slice A done.length c ∧ i = .int .i64 k ∧ f = .int .i64 fr ∧ done.length ≤ k ∧ done.length ≤ s.size ∧ k ≤ s.size + 1 ∧ fr ≤ k ∧ fr ≤ s.size ∧ Hid (wr.ownsRow w.heap.size 9 1 (.slice A done.length c) done.length (strsV done)) ∧ Hid (Below w.heap.size w wr) ∧
    Hid (R = bytes done ++ push (seg (dat s) fr k) (cutE ((dat s).drop k)))) (fun _ _ i _ => s.size + 1 - (intOf i).toNat)
  case atStart => exact ⟨0, 0, 0, none, [], rfl, rfl, rfl, Nat.le_refl _, Nat.zero_le _, Nat.zero_le _, Nat.le_refl _, Nat.zero_le _, World.ownsRow_nil _ _ _ _, Below.refl _ _, R0⟩
  case round =>
    obtain ⟨k, fr, c, A, done, rfl, rfl, rfl, hdl, hds, hk1, hfk, hfs, ho, hb, hq⟩ := hrel
    have hsz : w.heap.size ≤ wr.heap.size := hb.out.size
    have DS := Lib.hid (datsz s)
    by_cases hlt : k < s.size
    case neg =>
      have hki : ¬ (k : Int) < (s.size : Int) := by omega
      obtain ⟨z, hz⟩ : ∃ z, z = s.extract fr s.size := ⟨_, rfl⟩
      have QE : Hid (R = bytes (done ++ [z])) := by
        unfold Hid
        rw [hq.out, bytes_snoc, hz, dat_extract, List.drop_eq_nil_of_le (by have := DS.out; omega)]
        have : seg (dat s) fr k = seg (dat s) fr s.size := by
          unfold seg
          have := DS.out
          rw [List.take_of_length_le (by rw [List.length_drop]; omega), List.take_of_length_le (by rw [List.length_drop]; omega)]
        rw [this]
        simp [cutE, push]
      have ho1 := Lib.hid (ho.out.alloc (.cells #[.string (s.extract fr s.size)] 9))
      have C1 := Lib.hid (str_new wr (s.extract fr s.size))
      have HZ := Lib.hid hz
      have hfi : (fr : Int) ≤ (s.size : Int) := by omega
      clear hz hq
      go_wp2_with (at_builtin; refine wpList_append_own_at _ rfl (.tmp 30) (.tmp 34) 42 rfl w.heap.size 9 i0 _ 1 16 Tryd.underlying42 hi hz0 hz1 hz2 rfl (by decide) (.slice A done.length c) done.length _ rfl ho1.out ⟨wr.heap.size, 0, none⟩ 1 1 [.string (s.extract fr s.size)] rfl rfl C1.out (strsV_one _) (by unfold maxLen; omega) (by omega) (by simp; omega) ?_)
      intro v2 w2 ho2 hg2 _ _
      have hb2 : Hid (Below w.heap.size w w2) := (hb.out.alloc hsz _).grown hg2 (by simp; omega) (fun j hj => (ho1.out.lt j hj).1)
      have HO2 : Hid (w2.ownsRow w.heap.size 9 1 v2 (done ++ [z]).length (strsV (done ++ [z]))) := by
        have e : strsV (done ++ [z]) = strsV done ++ [.string z] := by simp [strsV]
        unfold Hid
        rw [e, List.length_append, HZ.out]
        exact ho2
      clear ho2 hg2 ho1
      obtain ⟨dn, hdn⟩ : ∃ dn, dn = done ++ [z] := ⟨_, rfl⟩
      rw [← hdn] at HO2 QE
      have dl : dn.length ≤ s.size + 1 := by rw [hdn, List.length_append]; simp; omega
      have HO := HO2.out
      obtain ⟨A2, c2, rfl⟩ := own_slice HO
      clear hdn HO
      go_wp2
      go_ret
      exact ⟨A2, c2, dn, rfl, QE.out.symm, own_cap HO2.out, dl, blk_own HO2.out, hb2.out⟩
    have hki : (k : Int) < (s.size : Int) := by omega
    have hdk : (dat s).drop k = s[k] :: (dat s).drop (k + 1) := dat_drop hlt
    have wk1 : IntKind.i64.wrap ((k : Int) + 1) = (k : Int) + 1 := by rw [IntKind.wrap_i64]; omega
    have wk2 : IntKind.i64.wrap ((k : Int) + 1 + 1) = (k : Int) + 1 + 1 := by rw [IntKind.wrap_i64]; omega
    have E92 : ((((s[k]).toNat : Nat) : Int) == 92) = (s[k] == 92) := u8_lit _ 92
    have E47 : ((((s[k]).toNat : Nat) : Int) == 47) = (s[k] == 47) := u8_lit _ 47
    by_cases h92 : s[k] = 92
    · have QN : Hid (R = bytes done ++ push (seg (dat s) fr (k + 2)) (cutE ((dat s).drop (k + 2)))) := by
        unfold Hid
        rw [hq.out, seg_add _ _ _ 2 hfk, ← push_push, hdk, h92, cutE_92, List.drop_drop]
      rw [show (s[k] == 92) = true by rw [h92]; rfl] at E92
      clear hq hdk h92 E47
      go_wp2
      go_roundw
      case rel => exact ⟨k + 2, fr, c, A, done, rfl, by go_num, rfl, by omega, hds, by omega, by omega, hfs, ho, hb, QN⟩
      case measure => simp [intOf]; omega
    · rw [show (s[k] == 92) = false from beq_false_of_ne h92] at E92
      by_cases h47 : s[k] = 47
      · rw [show (s[k] == 47) = true by rw [h47]; rfl] at E47
        obtain ⟨z, hz⟩ : ∃ z, z = s.extract fr k := ⟨_, rfl⟩
        have QE : Hid (R = bytes (done ++ [z]) ++ push (seg (dat s) (k + 1) (k + 1)) (cutE ((dat s).drop (k + 1)))) := by
          unfold Hid
          rw [hq.out, bytes_snoc, hz, dat_extract, hdk, h47, cutE_47, seg_self, push_nil (cutE_ne _)]
          simp [push]
        have ho1 := Lib.hid (ho.out.alloc (.cells #[.string (s.extract fr k)] 9))
        have C1 := Lib.hid (str_new wr (s.extract fr k))
        have HZ := Lib.hid hz
        have hfi : (fr : Int) ≤ (k : Int) := by omega
        have hks : (k : Int) ≤ (s.size : Int) := by omega
        clear hz hq hdk h92 h47
        go_wp2_with (at_builtin; refine wpList_append_own_at _ rfl (.tmp 21) (.tmp 26) 42 rfl w.heap.size 9 i0 _ 1 16 Tryd.underlying42 hi hz0 hz1 hz2 rfl (by decide) (.slice A done.length c) done.length _ rfl ho1.out ⟨wr.heap.size, 0, none⟩ 1 1 [.string (s.extract fr k)] rfl rfl C1.out (strsV_one _) (by unfold maxLen; omega) (by omega) (by simp; omega) ?_)
        intro v2 w2 ho2 hg2 _ _
        have hb2 : Hid (Below w.heap.size w w2) := (hb.out.alloc hsz _).grown hg2 (by simp; omega) (fun j hj => (ho1.out.lt j hj).1)
        have HO2 : Hid (w2.ownsRow w.heap.size 9 1 v2 (done ++ [z]).length (strsV (done ++ [z]))) := by
          have e : strsV (done ++ [z]) = strsV done ++ [.string z] := by simp [strsV]
          unfold Hid
          rw [e, List.length_append, HZ.out]
          exact ho2
        clear ho2 hg2 ho1
        obtain ⟨dn, hdn⟩ : ∃ dn, dn = done ++ [z] := ⟨_, rfl⟩
        rw [← hdn] at HO2 QE
        have dl : dn.length = done.length + 1 := by rw [hdn, List.length_append]; rfl
        have dl1 : dn.length ≤ k + 1 := by omega
        have dl2 : dn.length ≤ s.size := by omega
        have HO := HO2.out
        obtain ⟨A2, c2, rfl⟩ := own_slice HO
        clear hdn HO dl
        go_wp2
        go_roundw
        case rel => exact ⟨k + 1, k + 1, c2, A2, dn, rfl, by go_num, by go_num, dl1, dl2, by omega, by omega, by omega, HO2, hb2, QE⟩
        case measure => simp [intOf]; omega
      · rw [show (s[k] == 47) = false from beq_false_of_ne h47] at E47
        have QN : Hid (R = bytes done ++ push (seg (dat s) fr (k + 1)) (cutE ((dat s).drop (k + 1)))) := by
          unfold Hid
          rw [hq.out, seg_add _ _ _ 1 hfk, ← push_push, hdk, cutE_c h92 h47]
          rfl
        clear hq hdk h92 h47
        go_wp2
        go_roundw
        case rel => exact ⟨k + 1, fr, c, A, done, rfl, by go_num, rfl, by omega, hds, by omega, by omega, hfs, ho, hb, QN⟩
        case measure => simp [intOf]; omega
end Go.Proofs.YtmagidkgajmhoaaDoor
