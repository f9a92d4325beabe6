/- PlA: the document's area: rows of bools; the walks of its New, Within, All. -/
import Derived.Test.YthloinmnojlleaaPlP
import Derived.Test.YthloinmnojlleaaNumE
import Derived.Laws.ResultCell
import Derived.Laws.Rows
set_option linter.unusedVariables false
set_option linter.unusedSimpArgs false
namespace Go.Proofs.Ythloinmnojlleaa
open Go.RowKit

def bls (l : List Bool) : List Value := l.map Value.bool
theorem bls_length (l : List Bool) : (bls l).length = l.length := by simp [bls]
theorem bls_append (a b : List Bool) : bls (a ++ b) = bls a ++ bls b := by simp [bls]
theorem bls_one (l : List Bool) : ∀ u ∈ bls l, u.oneCell' = true := by
  intro u hu
  simp only [bls, List.mem_map] at hu
  obtain ⟨x, _, rfl⟩ := hu
  rfl
theorem bls_get (l : List Bool) (k : Nat) (h : k < l.length) : (bls l)[k]? = some (.bool l[k]) := by simp [bls, h]
theorem infoBl : (Try.prog.info? 4).map (fun i => (i.zero, i.size, i.bytes)) = some (some (.bool false), 1, 1) := by kernel_rfl
/-- A row of bools of the call's own. -/
def OwnL (w : World) (B : Nat) (v : Value) (l : List Bool) : Prop := w.ownsRow B 4 1 v l.length (bls l)
/-- Bools that can be read. -/
def RdL (w : World) (v : Value) (l : List Bool) : Prop := ∃ A c, v = .slice A l.length c ∧ l.length ≤ c ∧ (A = none → c = 0) ∧ ∀ ad, A = some ad → ∀ j u, (bls l)[j]? = some u → w.cell? (ad.add j) = some u
theorem RdL.below {w w' : World} {s : Value} {L : List Bool} (h : RdL w s L) (hb : Below w.heap.size w w') : RdL w' s L := by
  obtain ⟨A, c, rfl, h1, h2, h3⟩ := h
  exact ⟨A, c, rfl, h1, h2, fun ad e j u hu => cell_below hb (h3 ad e j u hu)⟩
theorem OwnL.rd {w : World} {b : Nat} {v : Value} {L : List Bool} (h : OwnL w b v L) : RdL w v L := by
  rcases h.2 with ⟨rfl, h0⟩ | ⟨g, c, cur, rfl, _, _, hc, _⟩
  · obtain rfl : L = [] := List.eq_nil_of_length_eq_zero h0
    exact ⟨none, 0, rfl, Nat.le_refl _, fun _ => rfl, fun ad e => by cases e⟩
  · refine ⟨_, c, rfl, hc, (fun e => by cases e), fun ad e j u hu => ?_⟩
    injection e with e
    subst e
    exact World.ownsRow.cells (g := g) h rfl j u hu
theorem OwnL.slice {w : World} {b : Nat} {v : Value} {L : List Bool} (h : OwnL w b v L) : ∃ A c, v = .slice A L.length c := own_slice h
theorem OwnL.below {w w' : World} {b : Nat} {v : Value} {L : List Bool} (h : OwnL w b v L) (hb : Below w.heap.size w w') : OwnL w' b v L := own_touch h (Touch.of_below hb : Touch (fun _ => False) w w') (fun _ _ x => x)
theorem OwnL.base {w : World} {b b' : Nat} {v : Value} {L : List Bool} (h : OwnL w b v L) (hb : b' ≤ b) : OwnL w b' v L := own_base h hb
theorem OwnL.at_ {w : World} {b : Nat} {v : Value} {L : List Bool} (h : OwnL w b v L) (hp : 0 < L.length) : ∃ g c, v = .slice (some ⟨g, 0, none⟩) L.length c ∧ L.length ≤ c ∧ b ≤ g ∧ g < w.heap.size ∧ ∀ j (hj : j < L.length), w.cell? ⟨g, j, none⟩ = some (.bool L[j]) := by
  rcases h.2 with ⟨rfl, h0⟩ | ⟨g, c, cur, rfl, _, _, hc, _⟩
  · omega
  · obtain ⟨h1, h2⟩ := World.ownsRow.lt h g rfl
    refine ⟨g, c, rfl, hc, h1, h2, fun j hj => ?_⟩
    have := World.ownsRow.cells (g := g) h rfl j _ (bls_get L j hj)
    by_cases e : j = 0
    · subst e; simpa [Addr.add] using this
    · simpa [Addr.add, e] using this
theorem OwnL.set {w : World} {B : Nat} {v u : Value} {l : List Bool} {g p : Nat} {c : Array Value} {t : TypeId} {fr : Nat × Nat} (h : OwnL w B v l) (hg : w.heap[g]? = some (.cells c t fr)) (hne : 4 ≠ t) : OwnL (w.setCell ⟨g, p, none⟩ u) B v l := by
  have hn := own_ne_blk h hg hne
  exact own_touch h (Touch.setCell (S := fun k => k = g) (Touch.refl _ w) (p := ⟨g, p, none⟩) (.inl rfl) u) (fun k hk e => by subst e; exact hn hk)
theorem wpList_append_bl {w : World} {ops : Array Oper} {rest : List Oper} {o : Oper} {a : Act} {Q : Exit → Act → World → Prop} (hgd : o.guard = none) (s x : Operand) (t : TypeId)
    (ho : o.op = .call { callee := .builtin .append, args := #[s, x], argTypes := #[t, t] }) (ht : Try.prog.underlying t = some (.slice 4)) (B : Nat) (hB : B ≤ w.heap.size) (v xv : Value) (L M : List Bool) (hs : a.eval s = v) (hxv : a.eval x = xv)
    (h : OwnL w B v L) (hx : RdL w xv M) (hl : L.length + M.length ≤ 1099511627776)
    (k : ∀ v' w', OwnL w' B v' (L ++ M) → w.grownBy w' v.ownBlock → wpList Try.prog ops Q rest (a.put o.dst v') w') : wpList Try.prog ops Q (o :: rest) a w := by
  obtain ⟨i0, hi, hz0, hz1, hz2⟩ := info_parts infoBl
  refine wpList_plain hgd fun K hK => ?_
  have key : ∃ v' w', (Builtin.append_ #[t, t] o.type #[v, xv]).run Try.prog w = .ok v' w' ∧ OwnL w' B v' (L ++ M) ∧ w.grownBy w' v.ownBlock := by
    obtain ⟨A, c, rfl, hc, hn, hr⟩ := hx
    cases A with
    | none =>
      have hc0 := hn rfl
      have hM : M = [] := List.eq_nil_of_length_eq_zero (by omega)
      subst hM hc0
      exact ⟨v, w, run_append_owned_none (P := Try.prog) (w := w) B t o.type _ i0 1 ht hi v L.length (bls L) h, by simpa using h, ⟨rfl, rfl, rfl, Nat.le_refl _, fun _ _ _ => rfl⟩⟩
    | some ad =>
      obtain ⟨v', w', e, ho', hgr, _, _⟩ := run_append_own_at (P := Try.prog) w B t o.type _ i0 _ 1 1 ht hi hz0 hz1 hz2 rfl (by decide) v L.length (bls L) h ad M.length c (bls M) (by rw [bls_length]; omega) (hr ad rfl) (bls_one M) (by unfold maxLen; omega) (by omega) hB
      refine ⟨v', w', e, ?_, hgr⟩
      unfold OwnL
      rw [List.length_append, bls_append]
      exact ho'
  obtain ⟨v', w', hrun, h2, h3⟩ := key
  unfold Oper.wp execOp
  simp only [ho, resolve, invoke, builtin, Sem.run_bind, Sem.run_pure, Result.andThen_ok, List.map_toArray, List.map_cons, List.map_nil, hs, hxv, hrun]
  exact hK _ _ (k v' w' h2 h3)
theorem rdl_lit (w : World) (x : Bool) (t : TypeId) : RdL (w.alloc (.cells #[.bool x] t)) (.slice (some ⟨w.heap.size, 0, none⟩) 1 1) [x] := by
  refine ⟨_, 1, rfl, Nat.le_refl _, (fun e => by cases e), fun ad e j u hu => ?_⟩
  injection e with e
  subst e
  match j, hu with
  | 0, hu => simp [bls] at hu; subst hu; simp [Addr.add]

/-- Results in a struct of two cells. -/
theorem infoRA : (Try.prog.info? 46).map (·.size) = some 2 := by kernel_rfl
theorem load_ra {w : World} {g : Nat} {a b : Value} {t : TypeId} {fr : Nat × Nat} (hg : w.heap[g]? = some (.cells #[a, b] t fr)) :
    (loadVar 46 ⟨g, 0, none⟩).run Try.prog w = .ok (.agg #[a, b]) w :=
  run_loadVar_row w g t _ _ fr _ hg Try.underlying46 rfl infoRA
theorem asAddr_some (x : Addr) (w : World) : (asAddr (.pointer (some x))).run Try.prog w = .ok x w := by simp [asAddr, go_sem]
theorem results_cell1 {fn : Func} {p : Tmp} {ty : TypeId} (h : fn.results = #[.cell p ty]) (tmps : Array Value) (P : Program) (w : World) :
    (results fn tmps).run P w = ((asAddr (tmps.getD p undef)).run P w).andThen fun a w₁ => (loadVar ty a).run P w₁ := by
  simp only [results, h]
  simp [Sem.run_bind, Result.andThen]
theorem ret_ra1 {fn : Func} {p : Tmp} (h : fn.results = #[.cell p 46]) (tmps : Array Value) {w : World} {g : Nat} {a b : Value} {t : TypeId} {fr : Nat × Nat} (hp : tmps.getD p undef = .pointer (some ⟨g, 0, none⟩)) (hg : w.heap[g]? = some (.cells #[a, b] t fr)) :
    (results fn tmps).run Try.prog w = .ok (.agg #[a, b]) w := by
  rw [results_cell1 h, hp, asAddr_some]
  simp only [Result.andThen]
  rw [load_ra hg]
theorem ret_ra2 {fn : Func} {p u : Tmp} (h : fn.results = #[.cell p 46, .tmp u]) (tmps : Array Value) {w : World} {g : Nat} {a b : Value} {t : TypeId} {fr : Nat × Nat} (hp : tmps.getD p undef = .pointer (some ⟨g, 0, none⟩)) (hg : w.heap[g]? = some (.cells #[a, b] t fr)) :
    (results fn tmps).run Try.prog w = .ok (.tuple #[.agg #[a, b], tmps.getD u undef]) w := by
  rw [results_cell_tmp h, hp, asAddr_some]
  simp only [Result.andThen]
  rw [load_ra hg]
theorem results_ctt {fn : Func} {p u x : Tmp} {ty : TypeId} (h : fn.results = #[.cell p ty, .tmp u, .tmp x]) (tmps : Array Value) (P : Program) (w : World) :
    (results fn tmps).run P w = ((asAddr (tmps.getD p undef)).run P w).andThen fun a w₁ => ((loadVar ty a).run P w₁).andThen fun v w₂ => .ok (.tuple #[v, tmps.getD u undef, tmps.getD x undef]) w₂ := by
  simp only [results, h]
  simp [Sem.run_bind, Result.andThen]
theorem ret_ra3 {fn : Func} {p u x : Tmp} (h : fn.results = #[.cell p 46, .tmp u, .tmp x]) (tmps : Array Value) {w : World} {g : Nat} {a b : Value} {t : TypeId} {fr : Nat × Nat} (hp : tmps.getD p undef = .pointer (some ⟨g, 0, none⟩)) (hg : w.heap[g]? = some (.cells #[a, b] t fr)) :
    (results fn tmps).run Try.prog w = .ok (.tuple #[.agg #[a, b], tmps.getD u undef, tmps.getD x undef]) w := by
  rw [results_ctt h, hp, asAddr_some]
  simp only [Result.andThen]
  rw [load_ra hg]
theorem results_tctt {fn : Func} {q p u x : Tmp} {ty : TypeId} (h : fn.results = #[.tmp q, .cell p ty, .tmp u, .tmp x]) (tmps : Array Value) (P : Program) (w : World) :
    (results fn tmps).run P w = ((asAddr (tmps.getD p undef)).run P w).andThen fun a w₁ => ((loadVar ty a).run P w₁).andThen fun v w₂ => .ok (.tuple #[tmps.getD q undef, v, tmps.getD u undef, tmps.getD x undef]) w₂ := by
  simp only [results, h]
  simp [Sem.run_bind, Result.andThen]
theorem ret_ra4 {fn : Func} {q p u x : Tmp} (h : fn.results = #[.tmp q, .cell p 46, .tmp u, .tmp x]) (tmps : Array Value) {w : World} {g : Nat} {a b : Value} {t : TypeId} {fr : Nat × Nat} (hp : tmps.getD p undef = .pointer (some ⟨g, 0, none⟩)) (hg : w.heap[g]? = some (.cells #[a, b] t fr)) :
    (results fn tmps).run Try.prog w = .ok (.tuple #[tmps.getD q undef, .agg #[a, b], tmps.getD u undef, tmps.getD x undef]) w := by
  rw [results_tctt h, hp, asAddr_some]
  simp only [Result.andThen]
  rw [load_ra hg]

set_option maxHeartbeats 800000 in
theorem rnew_any (w : World) (n : Nat) (hn : n ≤ 1048576) :
    Calls Try.prog 19 #[.int .i64 n] w fun e w' => ∃ s, e = .returned (.agg #[s, .int .i64 0]) ∧ OwnL w' w.heap.size s (List.replicate n true) ∧ Below w.heap.size w w' := by
  have B0 : Hid (Below w.heap.size w ((w.alloc (.cells #[.slice none 0 0, .int .i64 0] 46)).alloc (.cells #[.slice none 0 0, .int .i64 0] 46))) := ((Below.refl _ w).alloc (Nat.le_refl _) _).alloc (by simp) _
  have G0 := Lib.hid (blk_alloc (blk_new w (.cells #[.slice none 0 0, .int .i64 0] 46)) (.cells #[.slice none 0 0, .int .i64 0] 46))
  have g1 := blk_new (w.alloc (.cells #[.slice none 0 0, .int .i64 0] 46)) (.cells #[.slice none 0 0, .int .i64 0] 46)
  rw [World.size_alloc] at g1
  have G1 := Lib.hid g1
  clear g1
  go_enter Try.func19, Try.ntmps19
  go_wp2_with fail
  go_loopw [4, 6] (fun ii i2 wr => ∃ (k : Nat) (s : Value), k ≤ n ∧ ii = .int .i64 k ∧ Hid (wr.heap[w.heap.size]? = some (.cells #[.slice none 0 0, .int .i64 0] 46 (0, 0))) ∧ Hid (wr.heap[w.heap.size + 1]? = some (.cells #[s, .int .i64 0] 46 (0, 0))) ∧ Hid (OwnL wr w.heap.size s (List.replicate k true)) ∧ Hid (Below w.heap.size w wr)) (fun ii _ _ => n - (intOf ii).toNat)
  case atStart => exact ⟨0, .slice none 0 0, Nat.zero_le _, rfl, G0, G1, World.ownsRow_nil _ _ _ _, B0⟩
  case round =>
    obtain ⟨k, s, hk, rfl, HA, HB, HS, BW⟩ := hrel
    clear G0 G1 B0
    obtain ⟨A, c, rfl⟩ := HS.out.slice
    rw [List.length_replicate] at HB HS
    have k0 := blk_cell HB.out 0; have k1 := blk_cell HB.out 1; have j0 := blk_cell HA.out 0; have j1 := blk_cell HA.out 1
    have f0 := blk_free HA.out 0; have f1 := blk_free HA.out 1
    simp only [List.getElem?_toArray, List.getElem?_cons_zero, List.getElem?_cons_succ] at k0 k1 j0 j1
    have hsz := BW.out.size
    by_cases hlt : k < n
    · have HX := Lib.hid (rdl_lit wr true 4)
      have HO := Lib.hid (HS.out.below ((Below.refl _ wr).alloc (Nat.le_refl _) (.cells #[.bool true] 4)))
      have HBA := Lib.hid (blk_alloc HB.out (.cells #[.bool true] 4))
      have HAA := Lib.hid (blk_alloc HA.out (.cells #[.bool true] 4))
      go_wp2_with (at_builtin; refine wpList_append_bl rfl (.tmp 12) (.tmp 13) 44 rfl Try.underlying44 w.heap.size (by simp; omega) _ _ (List.replicate k true) [true] rfl rfl HO.out HX.out (by simp; omega) ?_)
      intro v1 w1 ho1 hg1
      have hgb := blk_grown hg1 HBA.out (own_ne_blk HO.out HBA.out (by decide))
      have hga := blk_grown hg1 HAA.out (own_ne_blk HO.out HAA.out (by decide))
      obtain ⟨A1, c1, rfl⟩ := ho1.slice
      have B1 : Hid (Below w.heap.size w w1) := (BW.out.alloc hsz _).grown hg1 (by simp; omega) (fun k e => (World.ownsRow.lt HO.out k e).1)
      have p0 := blk_cell hgb 0; have p1 := blk_cell hgb 1; have q0 := blk_free hgb 0
      simp only [List.getElem?_toArray, List.getElem?_cons_zero, List.getElem?_cons_succ] at p0 p1
      have HG1 := Lib.hid hgb
      have HG0 := Lib.hid hga
      have HS1 := Lib.hid (OwnL.set (p := 0) (u := .slice A1 (List.replicate k true ++ [true]).length c1) ho1 hgb (by decide))
      rw [show List.replicate k true ++ [true] = List.replicate (k + 1) true from (List.replicate_succ' ..).symm, List.length_replicate] at *
      clear hgb hga ho1 hg1
      go_wp2
      go_roundw
      case rel =>
        refine ⟨k + 1, _, hlt, by go_num, ?_, ?_, HS1, B1.out.setCell (p := ⟨w.heap.size + 1, 0, none⟩) (by simp) _⟩
        · exact (blk_set_ne (p := ⟨w.heap.size + 1, 0, none⟩) (by simp) _).trans HG0.out
        · unfold Hid
          rw [blk_set HG1.out 0 _]
          rfl
      case measure => simp [intOf]; omega
    · obtain rfl : k = n := by omega
      go_wp2
      refine bodyPost_ret (ret_ra1 rfl _ rfl (set2_blk HA.out)) rfl ?_
      refine ⟨_, rfl, ?_, (BW.out.setCell (p := ⟨w.heap.size, 0, none⟩) (Nat.le_refl _) _).setCell (p := ⟨w.heap.size, 1, none⟩) (Nat.le_refl _) _⟩
      exact OwnL.set (p := 1) (OwnL.set (p := 0) HS.out HA.out (by decide)) (blk_set HA.out 0 _) (by decide)
end Go.Proofs.Ythloinmnojlleaa
