/- CmC: Commit of a shelf: which changes, and what the journal does of them. -/
import Derived.Test.YtoolkamajlgcbaaCmB
set_option linter.unusedVariables false
set_option linter.unusedSimpArgs false
namespace Go.Proofs.Ytoolkamajlgcbaa
open Go.RowKit

theorem pgL_len {n : Nat} {l : PL} (h : szL l ≤ 1020) : (pgL n l).length = 1024 := by
  unfold pgL
  rw [List.length_append, List.length_append, entsB_len, List.length_replicate]
  show 4 + szL l + (1020 - szL l) = 1024
  omega
theorem pgB_size {n : Nat} {l : PL} (h : szL l ≤ 1020) : (pgB n l).size = 1024 := pgL_len h
/-- Of which page which bytes there are to be. -/
def wrs (sh : List (Nat × PL)) : List (Nat × ByteArray) := List.zipWith (fun p n => (p.1, pgB n.1 p.2)) ((0, []) :: sh) (sh ++ [(0, [])])
/-- The changes that lead there. -/
def chS (pg : Nat → ByteArray) (l : List (Nat × ByteArray)) : List (Int × ByteArray) := (l.filter (fun c => !(c.2.toList == (pg c.1).toList))).map (fun c => ((c.1 : Int), c.2))
theorem wrs_len (sh : List (Nat × PL)) : (wrs sh).length = sh.length + 1 := by
  unfold wrs
  rw [List.length_zipWith, List.length_cons, List.length_append, List.length_singleton]
  omega
theorem wrs_get {sh : List (Nat × PL)} {k : Nat} (h : k < (wrs sh).length) : (wrs sh)[k] = ((((0, []) :: sh).getD k (0, [])).1, pgB ((sh ++ [(0, [])]).getD k (0, [])).1 (((0, []) :: sh).getD k (0, [])).2) := by
  have hl := h
  rw [wrs_len] at hl
  simp only [wrs, List.getElem_zipWith]
  rw [List.getD_eq_getElem?_getD, List.getElem?_eq_getElem (by simpa using hl), List.getD_eq_getElem?_getD, List.getElem?_eq_getElem (by simpa using hl)]
  rfl
theorem chS_snoc (pg : Nat → ByteArray) (l : List (Nat × ByteArray)) (c : Nat × ByteArray) : chS pg (l ++ [c]) = chS pg l ++ (if c.2.toList == (pg c.1).toList then [] else [((c.1 : Int), c.2)]) := by
  unfold chS
  rw [List.filter_append, List.map_append]
  congr 1
  cases h : (c.2.toList == (pg c.1).toList) <;> simp [h]
theorem chS_len (pg : Nat → ByteArray) (l : List (Nat × ByteArray)) : (chS pg l).length ≤ l.length := by
  unfold chS
  rw [List.length_map]
  exact List.length_filter_le _ _
theorem chS_mem {pg : Nat → ByteArray} {l : List (Nat × ByteArray)} {x : Int × ByteArray} (h : x ∈ chS pg l) : ∃ c ∈ l, x = ((c.1 : Int), c.2) := by
  unfold chS at h
  obtain ⟨c, hc, rfl⟩ := List.mem_map.1 h
  exact ⟨c, (List.mem_filter.1 hc).1, rfl⟩
/-- append of a leaf of nothing onto a row that is cut off at its end. -/
theorem wpList_app_leaf0 {w : World} {ops : Array Oper} {rest : List Oper} {o : Oper} {a : Act} {Q : Exit → Act → World → Prop} (hgd : o.guard = none) (s x : Operand) (t : TypeId)
    (ho : o.op = .call { callee := .builtin .append, args := #[s, x], argTypes := #[t, t] }) (ht : Try.prog.underlying t = some (.slice 82)) (A : Option Addr) (L : List Lf) (hs : a.eval s = .slice A L.length L.length) (hl : L.length ≤ 100000)
    (hA : A = none → L = []) (hc : ∀ b, A = some b → ∀ j u, (lvv L)[j]? = some u → w.cell? (b.add j) = some u)
    (ad : Addr) (hx : a.eval x = .slice (some ad) 1 1) (hn : ∀ j u, [Value.int .i64 0, .slice none 0 0][j]? = some u → w.cell? (ad.add j) = some u)
    (k : ∀ g c w', w.grownBy w' none → w'.ownsRow w.heap.size 82 2 (.slice (some ⟨g, 0, none⟩) (L.length + 1) c) (L.length + 1) (lvv L ++ [.int .i64 0, .slice none 0 0]) → wpList Try.prog ops Q rest (a.put o.dst (.slice (some ⟨g, 0, none⟩) (L.length + 1) c)) w') : wpList Try.prog ops Q (o :: rest) a w := by
  obtain ⟨i1, hi1, hy0, hy1, hy2⟩ := info_parts infoLf
  have fin : ∀ v' w', w.grownBy w' none → w'.ownsRow w.heap.size 82 2 v' (L.length + 1) (lvv L ++ [.int .i64 0, .slice none 0 0]) → wpList Try.prog ops Q rest (a.put o.dst v') w' := fun v' w' h1 h2 => by
    obtain ⟨h0, h3⟩ := id h2
    rcases h3 with ⟨_, e⟩ | ⟨g, c, cur, rfl, _⟩
    · omega
    · exact k g c w' h1 h2
  cases A with
  | none =>
    obtain rfl := hA rfl
    refine wpList_append_own_at _ hgd s x t ho w.heap.size 82 i1 _ 2 32 ht hi1 hy0 hy1 hy2 rfl (by decide) (.slice none 0 0) 0 [] hs (World.ownsRow_nil _ _ _ _) ad 1 1 [.int .i64 0, .slice none 0 0] hx rfl hn (by simp [Value.oneCell']) (by decide) (by decide) (Nat.le_refl _) ?_
    intro v' w' h1 h2 _ _
    exact fin v' w' h2 h1
  | some b =>
    have hcc := hc b rfl
    refine wpList_append_full _ hgd s x t ho 82 i1 _ 2 32 ht hi1 hy0 hy1 hy2 rfl (by decide) b L.length L.length (Nat.le_refl _) (lvv L) hs (lvv_len L) hcc ad 1 1 [.int .i64 0, .slice none 0 0] hx rfl hn (by unfold maxLen; omega) (by omega) (Nat.le_refl _) ?_
    intro v' w' h1 h2
    rcases h2 with ⟨h, _⟩ | ⟨_, h⟩
    · omega
    · exact fin v' w' h1 h
end Go.Proofs.Ytoolkamajlgcbaa
