/- CmA: a page's bytes: append of bytes, of a text, of noughts onto a row of bytes that is owned; shelf.bytes. -/
import Derived.Test.YtoolkamajlgcbaaMr26
import Derived.Lib.AppendStr
import Derived.Lib.AppendZerosOnto
set_option linter.unusedVariables false
set_option linter.unusedSimpArgs false
namespace Go.Proofs.Ytoolkamajlgcbaa
open Go.RowKit

theorem uvs_append (a b : List UInt8) : uvs (a ++ b) = uvs a ++ uvs b := List.map_append ..
/-- A row of bytes of the call's own. -/
def OwnU (w : World) (B : Nat) (v : Value) (L : List UInt8) : Prop := w.ownsRow B 5 1 v L.length (uvs L)
theorem OwnU.below {w w' : World} {b : Nat} {v : Value} {L : List UInt8} (h : OwnU w b v L) (hb : Below w.heap.size w w') : OwnU w' b v L :=
  own_touch h (Touch.of_below hb : Touch (fun _ => False) w w') (fun _ _ x => x)
theorem OwnU.ne {w : World} {B : Nat} {v : Value} {L : List UInt8} {p : Nat} {cs : Array Value} (h : OwnU w B v L) (hp : w.heap[p]? = some (.cells cs 47 (0, 0))) : v.ownBlock ≠ some p := fun e => by
  rcases h.2 with ⟨rfl, _⟩ | ⟨g, cap, cur, rfl, _, hg, _⟩
  · cases e
  · cases e
    rw [hp] at hg
    simp at hg
theorem OwnU.slice {w : World} {B : Nat} {v : Value} {L : List UInt8} (h : OwnU w B v L) : ∃ A c, v = .slice A L.length c := by
  rcases h.2 with ⟨rfl, h0⟩ | ⟨g, c, cur, rfl, _, _, hc, _⟩
  · exact ⟨none, 0, by rw [h0]⟩
  · exact ⟨_, c, rfl⟩
theorem strOfNums_u8s (l : List UInt8) : strOfNums (l.map (fun b => (b.toNat : Int))) = ⟨l.toArray⟩ := by
  simp [strOfNums, Function.comp_def]
/-- Such a row as a text. -/
theorem conv_own {w : World} {B : Nat} {v : Value} {L : List UInt8} (h : OwnU w B v L) : (convert 51 9 v).run Try.prog w = .ok (.string ⟨L.toArray⟩) w := by
  rw [← strOfNums_u8s]
  rcases h.2 with ⟨rfl, h0⟩ | ⟨g, c, cur, rfl, hx⟩
  · obtain rfl : L = [] := List.eq_nil_of_length_eq_zero h0
    exact run_convert_bytes_nil w 51 5 Try.underlying51 Try.underlying5 0 0 _ Try.underlying9
  · refine run_convert_bytes_arg w _ _ Try.underlying51 Try.underlying5 g 0 L.length c _ (by rw [List.length_map]) (fun i hi => ?_) _ Try.underlying9
    rw [Nat.zero_add]
    have := World.ownsRow.cells (g := g) h rfl i (.int .u8 (L[i].toNat : Int)) (by simp [uvs, hi])
    have e : ((⟨g, 0, none⟩ : Addr).add i) = ⟨g, i, none⟩ := by simp [Addr.add]; omega
    rw [e] at this
    rw [this]
    simp [List.getD_eq_getElem?_getD, hi]
/-- append of a text. -/
theorem wpList_app_text {w : World} {ops : Array Oper} {rest : List Oper} {o : Oper} {a : Act} {Q : Exit → Act → World → Prop} (hgd : o.guard = none) (s x : Operand) (t u : TypeId)
    (ho : o.op = .call { callee := .builtin .append, args := #[s, x], argTypes := #[t, u] }) (ht : Try.prog.underlying t = some (.slice 5)) (hu : Try.prog.underlying u = some .string) (B : Nat) (hB : B ≤ w.heap.size) (v : Value) (L : List UInt8) (hs : a.eval s = v)
    (h : OwnU w B v L) (tx : ByteArray) (hxv : a.eval x = .string tx) (hl : L.length + tx.size ≤ 1099511627776)
    (k : ∀ v' w', OwnU w' B v' (L ++ tx.data.toList) → w.grownBy w' v.ownBlock → wpList Try.prog ops Q rest (a.put o.dst v') w') : wpList Try.prog ops Q (o :: rest) a w := by
  obtain ⟨i0, hi, hz0, hz1, hz2⟩ := info_parts infoU
  refine Lib.wpList_append_own_string w hgd s x t u ho B 5 i0 ht hu hi hz0 hz1 hz2 v L.length (uvs L) hs h tx hxv (by unfold maxLen; omega) (by omega) hB ?_
  intro v' w' h1 h2 _
  refine k v' w' ?_ h2
  unfold OwnU
  rw [List.length_append, uvs_append, show tx.data.toList.length = tx.size from Array.length_toList]
  exact h1
/-- append of bytes that can be read. -/
theorem wpList_app_u8 {w : World} {ops : Array Oper} {rest : List Oper} {o : Oper} {a : Act} {Q : Exit → Act → World → Prop} (hgd : o.guard = none) (s x : Operand) (t : TypeId)
    (ho : o.op = .call { callee := .builtin .append, args := #[s, x], argTypes := #[t, t] }) (ht : Try.prog.underlying t = some (.slice 5)) (B : Nat) (hB : B ≤ w.heap.size) (v : Value) (L M : List UInt8) (hs : a.eval s = v)
    (h : OwnU w B v L) (ad : Addr) (c : Nat) (hxv : a.eval x = .slice (some ad) M.length c) (hx : ∀ j u, (uvs M)[j]? = some u → w.cell? (ad.add j) = some u) (hl : L.length + M.length ≤ 1099511627776)
    (k : ∀ v' w', OwnU w' B v' (L ++ M) → w.grownBy w' v.ownBlock → wpList Try.prog ops Q rest (a.put o.dst v') w') : wpList Try.prog ops Q (o :: rest) a w := by
  obtain ⟨i0, hi, hz0, hz1, hz2⟩ := info_parts infoU
  refine wpList_append_own_at _ hgd s x t ho B 5 i0 _ 1 1 ht hi hz0 hz1 hz2 rfl (by decide) v L.length (uvs L) hs h ad M.length c (uvs M) hxv (by rw [uvs_len]; omega) hx (uvs_one M) (by unfold maxLen; omega) (by omega) hB ?_
  intro v' w' h1 h2 _ _
  refine k v' w' ?_ h2
  unfold OwnU
  rw [List.length_append, uvs_append]
  exact h1
theorem zero_one (k : Nat) : Builtin.zeroCells (Value.int IntKind.u8 0).cells k = (List.replicate k (Value.int .u8 0)).toArray := by
  apply Array.ext
  · simp [Builtin.zeroCells, Value.cells]
  · intro i h1 h2
    simp [Builtin.zeroCells, Value.cells, Nat.mod_one]
theorem run_append_own_zeros {P : Program} (w : World) (base : Nat) (t tn ty e : TypeId) (i : TypeInfo) (ht : P.underlying t = some (.slice e)) (htn : P.underlying tn = some (.int .i64)) (hi : P.info? e = some i) (hz : i.zero = some (.int .u8 0)) (hsize : i.size = 1) (hby : i.bytes = 1)
    (v : Value) (n : Nat) (xs : List Value) (hown : w.ownsRow base e 1 v n xs) (hn : 0 < n) (k : Nat) (hb : n + k ≤ 1099511627776) (hbase : base ≤ w.heap.size) :
    ∃ v' w', (Builtin.append_ #[t, tn] ty #[v, .int .i64 k]).run P w = .ok v' w' ∧ w'.ownsRow base e 1 v' (n + k) (xs ++ List.replicate k (.int .u8 0)) ∧ w.grownBy w' v.ownBlock := by
  have hxl : xs.length = n := by simpa using hown.1
  have hlen : (xs ++ List.replicate k (Value.int .u8 0)).length = (n + k) * 1 := by rw [List.length_append, hxl, List.length_replicate, Nat.mul_one]
  rcases hown.2 with ⟨rfl, h0⟩ | ⟨g, cap, cur, rfl, hbg, hg, hnc, hcm, hcs, htake⟩
  · omega
  · by_cases hroom : n + k ≤ cap
    · have hcs' : cur.size = cap := by simpa using hcs
      have hw : IntKind.i64.wrap (k : Int) = k := by rw [IntKind.wrap_i64]; omega
      have hneg : ¬ ((k : Int) < 0) := by omega
      have h48 : ¬ (281474976710656 < (k : Int)) := by omega
      have hst := run_storeCells_at P g n e (List.replicate k (Value.int .u8 0)) 0 cur w hg (by simp; omega) (by intro u hu; rw [List.eq_of_mem_replicate hu]; rfl)
      simp only [Nat.add_zero, List.length_replicate] at hst
      have hr : (Builtin.append_ #[t, tn] ty #[.slice (some ⟨g, 0, none⟩) n cap, .int .i64 k]).run P w = .ok (.slice (some ⟨g, 0, none⟩) (n + k) cap) (w.setRow g (cur.toList.take n ++ List.replicate k (Value.int .u8 0) ++ cur.toList.drop (n + k)).toArray) := by
        by_cases hk0 : k = 0
        · subst hk0
          simp [Builtin.append_, run_underlying ht, run_underlying htn, sizeOf, typeInfo, hi, hsize, hby, zeroValue, hz, asInt, asIntOf, IntKind.wrap_i64, hroom, Addr.add_lit]
          simp only [List.replicate_zero, Nat.add_zero] at hst
          rw [if_pos hnc, hst]
          simp
        · simp [Builtin.append_, run_underlying ht, run_underlying htn, sizeOf, typeInfo, hi, hsize, hby, zeroValue, hz, asInt, asIntOf, hw, hneg, h48, hk0, hroom, Addr.add_lit, zero_one, hst]
      refine ⟨_, _, hr, ⟨hlen, .inr ⟨g, cap, _, rfl, hbg, setRow_heap w g cur _ e _ hg, hroom, hcm, ?_, ?_⟩⟩, ⟨rfl, rfl, rfl, by simp, fun k _ hk => setRow_other w g k _ (fun e => hk (by simp [Value.ownBlock, e]))⟩⟩
      · simp only [List.size_toArray, List.length_append, List.length_take, List.length_drop, Array.length_toList, List.length_replicate]
        omega
      · have ht' : cur.toList.take n = xs := by simpa using htake
        rw [ht', ← hlen]
        exact List.take_left
    · have holds : ∀ j u, xs[j]? = some u → w.cell? ((⟨g, 0, none⟩ : Addr).add j) = some u := hown.cells (g := g) rfl
      have hf := run_firstCells_some (P := P) w.drew i.size n ⟨g, 0, none⟩ n cap xs (by rw [hsize]; simpa using hxl) (by simpa using holds)
      have hr := Lib.run_append_grow_zeros (P := P) w t tn ty e i (.int .u8 0) .i64 .i64 ht htn hi hz (some ⟨g, 0, none⟩) n cap xs hf k (by omega) (by omega) (by omega) (by omega) (by rw [hby]; omega) (by rw [hby]; exact growslice_fits (by omega) (by omega))
      have hge := grownCap_ge w (n + k) cap e
      have hcm : grownCap w (n + k) cap e ≤ maxLen := grownCap_le_maxLen w (n + k) cap e (by unfold maxLen; omega)
      rw [zero_one, zero_one] at hr
      refine ⟨_, _, hr, ⟨hlen, .inr ⟨w.heap.size, _, _, rfl, hbase, heap_alloc_new w.drew _, hge, hcm, ?_, ?_⟩⟩, ⟨rfl, rfl, rfl, by simp, fun q hq _ => heap_alloc_old w.drew _ hq⟩⟩
      · simp only [Array.size_append, List.size_toArray, hxl, List.length_replicate]
        omega
      · simp only [Array.toList_append, List.append_assoc]
        rw [← List.append_assoc, ← hlen]
        exact List.take_left
/-- append of noughts. -/
theorem wpList_app_zeros {w : World} {ops : Array Oper} {rest : List Oper} {o : Oper} {a : Act} {Q : Exit → Act → World → Prop} (hgd : o.guard = none) (s x : Operand) (t tn : TypeId)
    (ho : o.op = .call { callee := .builtin .append, args := #[s, x], argTypes := #[t, tn] }) (ht : Try.prog.underlying t = some (.slice 5)) (htn : Try.prog.underlying tn = some (.int .i64)) (B : Nat) (hB : B ≤ w.heap.size) (v : Value) (L : List UInt8) (hs : a.eval s = v)
    (h : OwnU w B v L) (hp : 0 < L.length) (n : Nat) (hxv : a.eval x = .int .i64 (n : Int)) (hl : L.length + n ≤ 1099511627776)
    (k : ∀ v' w', OwnU w' B v' (L ++ List.replicate n 0) → w.grownBy w' v.ownBlock → wpList Try.prog ops Q rest (a.put o.dst v') w') : wpList Try.prog ops Q (o :: rest) a w := by
  obtain ⟨i0, hi, hz0, hz1, hz2⟩ := info_parts infoU
  obtain ⟨v', w', hrun, h2, h3⟩ := run_append_own_zeros (P := Try.prog) w B t tn o.type _ i0 ht htn hi hz0 hz1 hz2 v L.length (uvs L) h hp n hl hB
  refine Lib.wpList_append_run w hgd s x t tn ho v _ hs hxv v' w' hrun (k v' w' ?_ h3)
  unfold OwnU
  rw [List.length_append, List.length_replicate, uvs_append, show uvs (List.replicate n 0) = List.replicate n (Value.int .u8 0) by simp [uvs]]
  exact h2
end Go.Proofs.Ytoolkamajlgcbaa
