/- NumA: rows of bytes; the walks of own, lay, Put, Get. -/
import Derived.Test.YthloinmnojlleaaNumP
import Derived.Lib.EndianBits
set_option linter.unusedVariables false
set_option linter.unusedSimpArgs false
namespace Go.Proofs.Ythloinmnojlleaa
open Go.RowKit

def u8s (l : List UInt8) : List Value := l.map fun x => .int .u8 (x.toNat : Int)
theorem u8s_length (l : List UInt8) : (u8s l).length = l.length := by simp [u8s]
theorem u8s_append (a b : List UInt8) : u8s (a ++ b) = u8s a ++ u8s b := by simp [u8s]
theorem u8s_one (l : List UInt8) : ∀ u ∈ u8s l, u.oneCell' = true := by
  intro u hu
  simp only [u8s, List.mem_map] at hu
  obtain ⟨x, _, rfl⟩ := hu
  rfl
theorem u8s_get (l : List UInt8) (k : Nat) (h : k < l.length) : (u8s l)[k]? = some (.int .u8 (l[k].toNat : Int)) := by
  simp [u8s, h]
theorem infoU : (Try.prog.info? 5).map (fun i => (i.zero, i.size, i.bytes)) = some (some (.int .u8 0), 1, 1) := by kernel_rfl
/-- A row of bytes of the call's own. -/
def OwnB (w : World) (B : Nat) (v : Value) (L : List UInt8) : Prop := w.ownsRow B 5 1 v L.length (u8s L)
/-- Bytes that can be read. -/
def RdB (w : World) (v : Value) (L : List UInt8) : Prop := ∃ A c, v = .slice A L.length c ∧ L.length ≤ c ∧ (A = none → c = 0) ∧ ∀ ad, A = some ad → ∀ j u, (u8s L)[j]? = some u → w.cell? (ad.add j) = some u
theorem RdB.below {w w' : World} {s : Value} {L : List UInt8} (h : RdB w s L) (hb : Below w.heap.size w w') : RdB w' s L := by
  obtain ⟨A, c, rfl, h1, h2, h3⟩ := h
  exact ⟨A, c, rfl, h1, h2, fun ad e j u hu => cell_below hb (h3 ad e j u hu)⟩
theorem OwnB.rd {w : World} {b : Nat} {v : Value} {L : List UInt8} (h : OwnB w b v L) : RdB w v L := by
  rcases h.2 with ⟨rfl, h0⟩ | ⟨g, c, cur, rfl, _, _, hc, _⟩
  · obtain rfl : L = [] := List.eq_nil_of_length_eq_zero h0
    exact ⟨none, 0, rfl, Nat.le_refl _, fun _ => rfl, fun ad e => by cases e⟩
  · refine ⟨_, c, rfl, hc, (fun e => by cases e), fun ad e j u hu => ?_⟩
    injection e with e
    subst e
    exact World.ownsRow.cells (g := g) h rfl j u hu
theorem RdB.slice {w : World} {v : Value} {L : List UInt8} (h : RdB w v L) : ∃ A c, v = .slice A L.length c := by
  obtain ⟨A, c, e, _⟩ := h
  exact ⟨A, c, e⟩
theorem OwnB.slice {w : World} {b : Nat} {v : Value} {L : List UInt8} (h : OwnB w b v L) : ∃ A c, v = .slice A L.length c := h.rd.slice
/-- A world grown behind an append is the old one below a place that the row lies above. -/
theorem OwnB.below {w w' : World} {b : Nat} {v : Value} {L : List UInt8} (h : OwnB w b v L) (hb : Below w.heap.size w w') : OwnB w' b v L :=
  own_touch h (Touch.of_below hb : Touch (fun _ => False) w w') (fun _ _ x => x)
theorem OwnB.base {w : World} {b b' : Nat} {v : Value} {L : List UInt8} (h : OwnB w b v L) (hb : b' ≤ b) : OwnB w b' v L := own_base h hb
/-- append onto such a row. -/
theorem wpList_append_u8 {w : World} {ops : Array Oper} {rest : List Oper} {o : Oper} {a : Act} {Q : Exit → Act → World → Prop} (hgd : o.guard = none) (s x : Operand) (t : TypeId)
    (ho : o.op = .call { callee := .builtin .append, args := #[s, x], argTypes := #[t, t] }) (ht : Try.prog.underlying t = some (.slice 5)) (B : Nat) (hB : B ≤ w.heap.size) (v xv : Value) (L M : List UInt8) (hs : a.eval s = v) (hxv : a.eval x = xv)
    (h : OwnB w B v L) (hx : RdB w xv M) (hl : L.length + M.length ≤ 1099511627776)
    (k : ∀ v' w', OwnB w' B v' (L ++ M) → w.grownBy w' v.ownBlock → wpList Try.prog ops Q rest (a.put o.dst v') w') : wpList Try.prog ops Q (o :: rest) a w := by
  obtain ⟨i0, hi, hz0, hz1, hz2⟩ := info_parts infoU
  refine wpList_plain hgd fun K hK => ?_
  have key : ∃ v' w', (Builtin.append_ #[t, t] o.type #[v, xv]).run Try.prog w = .ok v' w' ∧ OwnB w' B v' (L ++ M) ∧ w.grownBy w' v.ownBlock := by
    obtain ⟨A, c, rfl, hc, hn, hr⟩ := hx
    cases A with
    | none =>
      have hc0 := hn rfl
      have hM : M = [] := List.eq_nil_of_length_eq_zero (by omega)
      subst hM hc0
      exact ⟨v, w, run_append_owned_none (P := Try.prog) (w := w) B t o.type _ i0 1 ht hi v L.length (u8s L) h, by simpa using h, ⟨rfl, rfl, rfl, Nat.le_refl _, fun _ _ _ => rfl⟩⟩
    | some ad =>
      obtain ⟨v', w', e, ho', hgr, _, _⟩ := run_append_own_at (P := Try.prog) w B t o.type _ i0 _ 1 1 ht hi hz0 hz1 hz2 rfl (by decide) v L.length (u8s L) h ad M.length c (u8s M) (by rw [u8s_length]; omega) (hr ad rfl) (u8s_one M) (by unfold maxLen; omega) (by omega) hB
      refine ⟨v', w', e, ?_, hgr⟩
      unfold OwnB
      rw [List.length_append, u8s_append]
      exact ho'
  obtain ⟨v', w', hrun, h2, h3⟩ := key
  unfold Oper.wp execOp
  simp only [ho, resolve, invoke, builtin, Sem.run_bind, Sem.run_pure, Result.andThen_ok, List.map_toArray, List.map_cons, List.map_nil, hs, hxv, hrun]
  exact hK _ _ (k v' w' h2 h3)
/-- One byte laid out. -/
theorem rdb_lit (w : World) (x : UInt8) (t : TypeId) : RdB (w.alloc (.cells #[.int .u8 (x.toNat : Int)] t)) (.slice (some ⟨w.heap.size, 0, none⟩) 1 1) [x] := by
  refine ⟨_, 1, rfl, Nat.le_refl _, (fun e => by cases e), fun ad e j u hu => ?_⟩
  injection e with e
  subst e
  match j, hu with
  | 0, hu => simp [u8s] at hu; subst hu; simp [Addr.add]

theorem own_any (w : World) (v : Value) (L : List UInt8) (h : RdB w v L) (hl : L.length ≤ 1099511627000) :
    Calls Try.prog 54 #[v] w fun e w' => ∃ v', e = .returned v' ∧ OwnB w' w.heap.size v' L ∧ Below w.heap.size w w' := by
  have hlit : OwnB (w.alloc (.cells #[] 5)) w.heap.size (.slice (some ⟨w.heap.size, 0, none⟩) 0 0) [] := by
    have := World.ownsRow_lit (base := w.heap.size) (e := 5) (size := 1) w #[] 0 (Nat.le_refl _) (by decide) rfl
    simpa [OwnB, u8s] using this
  have HLIT := Lib.hid hlit
  have HR := Lib.hid (h.below ((Below.refl _ w).alloc (Nat.le_refl _) (.cells #[] 5)))
  obtain ⟨A, c, rfl⟩ := h.slice
  clear hlit h
  go_enter Try.func54, Try.ntmps54
  go_wp2_with (at_builtin; refine wpList_append_u8 rfl (.tmp 3) (.tmp 4) 40 rfl Try.underlying40 w.heap.size (by simp) _ _ [] L rfl rfl HLIT.out HR.out (by simp; omega) ?_)
  intro v1 w1 ho1 hg1
  have hB1 : Hid (Below w.heap.size w w1) := ((Below.refl _ w).alloc (Nat.le_refl _) _).grown hg1 (by simp) (fun k e => by simp [Value.ownBlock] at e; omega)
  have HO := Lib.hid ho1
  clear ho1 hg1
  go_wp2
  go_ret
  exact ⟨_, rfl, HO.out, hB1.out⟩
theorem or128 {n : Nat} : Go.bits .or .u8 (IntKind.u8.wrap (n : Int)) 128 = ((UInt8.ofNat (n % 128 + 128)).toNat : Int) := by
  rw [IntKind.wrap_u8, ofNat_toNat (by omega)]
  have h1 : ((n : Int) % 256) = ((n % 256 : Nat) : Int) := by omega
  rw [h1, show (128 : Int) = ((128 : Nat) : Int) from rfl, (bits_nat .u8 8 (by decide) wraps_u8 (n % 256) 128 (by omega) (by decide)).2]
  have : ∀ x : Fin 256, x.val ||| 128 = x.val % 128 + 128 := by decide +kernel
  have := this ⟨n % 256, by omega⟩
  simp only at this
  rw [this]
  omega
set_option maxHeartbeats 800000 in
theorem lay_any (w : World) (B : Nat) (hB : B ≤ w.heap.size) (v : Value) (L : List UInt8) (h : OwnB w B v L) (n : Nat) (hn : n < 128 ^ 9) (hl : L.length ≤ 1099511627000) :
    Calls Try.prog 53 #[v, .int .u64 n] w fun e w' => ∃ v', e = .returned v' ∧ OwnB w' B v' (L ++ putN n) ∧ Below B w w' := by
  obtain ⟨A, c, rfl⟩ := h.slice
  have HO := Lib.hid h
  clear h
  go_enter Try.func53, Try.ntmps53
  go_wp2_with fail
  go_loopw [0, 1, 5] (fun vv nn i2 wr => ∃ (m : Nat) (M : List UInt8), m < 128 ^ 9 ∧ nn = .int .u64 m ∧ L ++ putN n = M ++ putN m ∧ Hid (OwnB wr B vv M) ∧ Hid (Below B w wr)) (fun _ nn _ _ => (intOf nn).toNat)
  case atStart => exact ⟨n, L, hn, rfl, rfl, HO, Below.refl _ _⟩
  case round =>
    obtain ⟨m, M, hm, rfl, hE, HM, BM⟩ := hrel
    obtain ⟨A1, c1, rfl⟩ := HM.out.slice
    have hlen : M.length + (putN m).length = L.length + (putN n).length := by have := congrArg List.length hE; simpa using this.symm
    have hp1 := putN_len 9 n hn (by decide)
    have hp2 := putN_pos m
    have hML : M.length + 1 ≤ 1099511627776 := by omega
    have hsz := BM.out.size
    have hsz2 : B ≤ wr.heap.size := by omega
    clear hp1 hp2 hlen
    by_cases hb : m < 128
    · have d1 : decide ((128 : Int) ≤ (m : Int)) = false := by simp; omega
      have d2 : decide (128 ≤ m) = false := by simp; omega
      have hw : IntKind.u8.wrap (m : Int) = ((UInt8.ofNat m).toNat : Int) := by rw [IntKind.wrap_u8, ofNat_toNat (by omega)]; omega
      rw [putN_small hb] at hE
      have HE := Lib.hid hE
      generalize UInt8.ofNat m = x at hw HE
      clear hE hb
      have HX := Lib.hid (rdb_lit wr x 5)
      have HA := Lib.hid (HM.out.below ((Below.refl _ wr).alloc (Nat.le_refl _) (.cells #[.int .u8 (x.toNat : Int)] 5)))
      go_wp2_with (at_builtin; refine wpList_append_u8 rfl (.tmp 15) (.tmp 18) 40 rfl Try.underlying40 B (by simp; omega) _ _ M [x] rfl rfl HA.out HX.out (by simp; omega) ?_)
      intro v1 w1 ho1 hg1
      have hB1 : Hid (Below B w w1) := (BM.out.alloc hsz2 _).grown hg1 (by simp; omega) (fun k e => World.ownsRow.lt HM.out k e |>.1)
      have HO1 := Lib.hid ho1
      clear ho1 hg1
      go_wp2
      go_ret
      exact ⟨_, rfl, by rw [HE.out]; exact HO1.out, hB1.out⟩
    · have d1 : decide ((128 : Int) ≤ (m : Int)) = true := by simp; omega
      have d2 : decide (128 ≤ m) = true := by simp; omega
      have hw := @or128 m; rw [IntKind.wrap_u8] at hw
      rw [putN_big hb] at hE
      have HE := Lib.hid hE
      have HB := Lib.hid hb
      generalize UInt8.ofNat (m % 128 + 128) = x at hw HE
      clear hE hb
      have HX := Lib.hid (rdb_lit wr x 5)
      have HA := Lib.hid (HM.out.below ((Below.refl _ wr).alloc (Nat.le_refl _) (.cells #[.int .u8 (x.toNat : Int)] 5)))
      go_wp2_with (at_builtin; refine wpList_append_u8 rfl (.tmp 7) (.tmp 11) 40 rfl Try.underlying40 B (by simp; omega) _ _ M [x] rfl rfl HA.out HX.out (by simp; omega) ?_)
      intro v1 w1 ho1 hg1
      have hB1 : Hid (Below B w w1) := (BM.out.alloc hsz2 _).grown hg1 (by simp; omega) (fun k e => World.ownsRow.lt HM.out k e |>.1)
      have HO1 := Lib.hid ho1
      clear ho1 hg1
      go_wp2
      go_roundw
      case rel => exact ⟨m / 128, M ++ [x], by omega, congrArg (Value.int .u64) (by simp), by rw [HE.out]; simp, HO1, hB1⟩
      case measure => have := HB.out; simp [intOf]; omega
end Go.Proofs.Ythloinmnojlleaa
