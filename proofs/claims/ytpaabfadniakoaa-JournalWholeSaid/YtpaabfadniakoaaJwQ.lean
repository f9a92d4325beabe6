/- JwQ: a store that is opened behind a failure: what it has. In plain words. -/
import Derived.Test.YtpaabfadniakoaaJwP
import Derived.Test.YtpaabfadniakoaaJnU
set_option linter.unusedVariables false
set_option linter.unusedSimpArgs false
namespace Go.Proofs.Ytpaabfadniakoaa
open Go.RowKit

/-- A store whose power came back: nothing waits; its pages are X. -/
structure Back (P : Nat) (X : Nat → Nat → ByteArray) (d : Dk) : Prop where
  ok : d.Ok
  sz : Sz d
  len : d.l.length = 8 * P + 1
  waits : d.waits = []
  up : d.down = false
  val : VIs P X d.l
structure Home (P : Nat) (X : Nat → Nat → ByteArray) (d : Dk) : Prop where
  back : Back P X d
  none : ∀ i, i < P → told (sec d.l 0) i = false
theorem back_fuse {P : Nat} {X : Nat → Nat → ByteArray} {d : Dk} (h : Back P X d) (n : Int) (hn : n ≤ 9223372036854775807) : Back P X (d.setFuse n) ∧ (d.setFuse n).l = d.l := by
  have e : (d.setFuse n).l = d.l ∧ (d.setFuse n).waits = d.waits ∧ (d.setFuse n).down = d.down := by unfold Dk.setFuse; split <;> exact ⟨rfl, rfl, rfl⟩
  exact ⟨⟨h.ok.setFuse n hn, sz_fuse h.sz n, by rw [e.1]; exact h.len, by rw [e.2.1]; exact h.waits, by rw [e.2.2]; exact h.up, by rw [e.1]; exact h.val⟩, e.1⟩
theorem home_fuse {P : Nat} {X : Nat → Nat → ByteArray} {d : Dk} (h : Home P X d) (n : Int) (hn : n ≤ 9223372036854775807) : Home P X (d.setFuse n) := by
  obtain ⟨a, b⟩ := back_fuse h.back n hn
  exact ⟨a, by rw [b]; exact h.none⟩
theorem Back.sto {P : Nat} {X : Nat → Nat → ByteArray} {d : Dk} (h : Back P X d) : Sto P d := ⟨h.ok, h.sz, by rw [h.len]; exact Nat.le_refl _, h.up⟩
theorem read_sec {d : Dk} (hw : d.waits = []) (hu : d.down = false) {i : Nat} (hi : i < d.l.length) : d.read (i : Int) = (sec d.l i, 0) := by
  rw [read_up hu i hi, hw]
  rfl
theorem sizeB (s : ByteArray) : s.data.toList.length = s.size := Array.length_toList
theorem cut4_list (s : ByteArray) (j : Nat) : (cut4 s j).data.toList = (s.data.toList.drop (256 * j)).take 256 := by
  unfold cut4
  rw [ByteArray.data_extract, Array.toList_extract, List.extract_eq_take_drop, show 256 * j + 256 - 256 * j = 256 by omega]
theorem ba_eq {a b : ByteArray} (h : a.data.toList = b.data.toList) : a = b := by
  cases a; cases b
  exact congrArg _ (Array.toList_inj.1 h)
theorem cut4_inj {a b : ByteArray} (ha : a.size = 1024) (hb : b.size = 1024) (h : ∀ j, j < 4 → cut4 a j = cut4 b j) : a = b := by
  refine ba_eq (List.ext_getElem? fun i => ?_)
  have la := sizeB a
  have lb := sizeB b
  by_cases hi : i < 1024
  · have hj := congrArg (fun s => s.data.toList[i % 256]?) (h (i / 256) (by omega))
    simp only [cut4_list] at hj
    have hr : i % 256 < 256 := Nat.mod_lt _ (by decide)
    rw [List.getElem?_take_of_lt hr, List.getElem?_take_of_lt hr, List.getElem?_drop, List.getElem?_drop, show 256 * (i / 256) + i % 256 = i by omega] at hj
    exact hj
  · rw [List.getElem?_eq_none (by omega), List.getElem?_eq_none (by omega)]
theorem rdK_cut {d : Dk} {p : Int} (hs : ∀ j : Nat, j < 4 → (d.read (p + (j : Nat))).1.size = 256) {j : Nat} (hj : j < 4) : ∀ n : Nat, j < n → n ≤ 4 → ((rdK d p n).drop (256 * j)).take 256 = (d.read (p + (j : Nat))).1.data.toList
  | n + 1, h, h4 => by
    have hlen : ∀ m : Nat, m ≤ 4 → (rdK d p m).length = 256 * m := fun m => by
      induction m with
      | zero => intro _; rfl
      | succ m ih =>
        intro hm
        rw [rdK, List.length_append, ih (by omega), sizeB, hs m (by omega)]
        omega
    have hn := hlen n (by omega)
    rw [rdK]
    by_cases e : j = n
    · subst e
      rw [List.drop_append, List.drop_of_length_le (by omega), List.nil_append, hn, Nat.sub_self, List.drop_zero, List.take_of_length_le (by rw [sizeB, hs j hj]; exact Nat.le_refl _)]
    · rw [List.drop_append, List.take_append, rdK_cut hs hj n (by omega) (by omega), List.length_drop, hn, show 256 - (256 * n - 256 * j) = 0 by omega, List.take_zero, List.append_nil]
theorem cut_page {d : Dk} {p : Int} (hs : ∀ j : Nat, j < 4 → (d.read (p + (j : Nat))).1.size = 256) {j : Nat} (hj : j < 4) : cut4 (pageB d p) j = (d.read (p + (j : Nat))).1 := by
  refine ba_eq ?_
  rw [cut4_list]
  exact rdK_cut hs hj 4 hj (Nat.le_refl _)
theorem cut_at {d : Dk} (hz : Sz d) (hw : d.waits = []) (hu : d.down = false) {p j : Nat} (hj : j < 4) (hp : p + 4 ≤ d.l.length) : cut4 (pageB d (p : Int)) j = sec d.l (p + j) := by
  have e : ∀ k : Nat, k < 4 → d.read ((p : Int) + (k : Nat)) = (sec d.l (p + k), 0) := fun k hk => by
    rw [← Int.natCast_add, read_sec hw hu (by omega)]
  have hs : ∀ k : Nat, k < 4 → (d.read ((p : Int) + (k : Nat))).1.size = 256 := fun k hk => read_size hz (by unfold Dk.use; rw [if_neg (by rw [hu]; decide), if_neg (by omega)])
  rw [cut_page hs hj, e j hj]
theorem told_opL {P : Nat} (hP : P ≤ 128) {m : ByteArray} {i : Nat} (hi : i < P) (h : told m i = true) : i ∈ opL P m 128 := by
  unfold opL
  rw [List.mem_filter]
  exact ⟨List.mem_range.2 (by omega), by simp [hi, h]⟩
theorem back_fin {P : Nat} {X : Nat → Nat → ByteArray} {d : Dk} (hP : P ≤ 128) (h : Back P X d) : Fin' P d.l (opk P d (sec d.l 0) 128) := by
  have hl := h.len
  refine ⟨fun x hx => ?_, fun i j hi hj ht => ?_⟩
  · unfold opk at hx
    rw [List.mem_flatMap] at hx
    obtain ⟨i, hi, hx⟩ := hx
    obtain ⟨_, h2, h3⟩ := opL_mem hi
    obtain ⟨j, hj, rfl⟩ := layK_mem hx
    refine ⟨i, j, h2, hj, h3, ?_⟩
    rw [cut_at h.sz h.waits h.up hj (by omega), Int.natCast_add (1 + 4 * (P + i))]
  · refine ⟨((1 + 4 * (P + i) : Nat) + (j : Nat), cut4 (pageB d ((1 + 4 * i : Nat) : Int)) j), ?_, (Int.natCast_add _ _).symm⟩
    unfold opk
    rw [List.mem_flatMap]
    exact ⟨i, told_opL hP hi ht, mem_layK hj⟩
theorem fail_back {P : Nat} {X : Nat → Nat → ByteArray} {d : Dk} (hok : d.Ok) (hz : Sz d) (hl : d.l.length = 8 * P + 1) (p : List Bool) (hg : VIs P X (Dk.settle (fun i => p.getD i false) 0 d.waits d.l)) : Back P X (d.fail p).start ∧ (d.fail p).start.fuse = 0 := by
  have ok := (hok.fail p).start
  have sz := sz_start (sz_fail hz p)
  rw [(fail_start d p).2] at ok sz ⊢
  exact ⟨⟨ok, sz, by show (Dk.settle _ 0 d.waits d.l).length = _; rw [Dk.settle_length]; exact hl, rfl, rfl, hg⟩, rfl⟩
/-- What an opening leaves: the store is home, or the power is off and all is as it was. -/
theorem open_back {P : Nat} {X : Nat → Nat → ByteArray} {d : Dk} (hP : P ≤ 128) (h : Back P X d) :
    ((run d (openK P d (d.read 0).1)).2 = 0 ∧ Home P X (run d (openK P d (d.read 0).1)).1) ∨
    ((run d (openK P d (d.read 0).1)).2 = 10 ∧ (run d (openK P d (d.read 0).1)).1.down = true ∧ ∀ p, Back P X ((run d (openK P d (d.read 0).1)).1.fail p).start ∧ ((run d (openK P d (d.read 0).1)).1.fail p).start.fuse = 0) := by
  have hlen := h.len
  have hr0 : (d.read 0).1 = sec d.l 0 := by
    have := read_sec h.waits h.up (i := 0) (by omega)
    rw [show ((0 : Nat) : Int) = 0 from rfl] at this
    rw [this]
  rw [hr0]
  by_cases h0 : opL P (sec d.l 0) 128 = []
  · have e : openK P d (sec d.l 0) = [] := by unfold openK; rw [if_pos h0]
    rw [e]
    refine .inl ⟨rfl, h, fun i hi => ?_⟩
    show told (sec d.l 0) i = false
    by_cases ht : told (sec d.l 0) i = true
    · have := told_opL hP hi ht
      rw [h0] at this
      cases this
    · simpa using ht
  · have e : openK P d (sec d.l 0) = opk P d (sec d.l 0) 128 ++ [flushS] ++ ([(0, Dk.sector0)] ++ [flushS]) := by unfold openK; rw [if_neg h0]
    have hcan : ∀ x ∈ openK P d (sec d.l 0), Can d.l.length x := fun x hx => by
      rw [e] at hx
      simp only [List.mem_append, List.mem_singleton] at hx
      rcases hx with (hx | rfl) | (rfl | rfl)
      · exact (opk_mem h.sto hx).1
      · exact .inl (by decide)
      · exact .inr ⟨by simp only; omega, Dk.rep_size 256 0⟩
      · exact .inl (by decide)
    have hpre := fin_pre (by omega) h.val (back_fin hP h)
    rw [← e] at hpre
    obtain ⟨k, hk, he, hl, hs⟩ := run_shape (openK P d (sec d.l 0)) h.ok hcan
    have hok := run_ok (openK P d (sec d.l 0)) h.ok
    have hsz := sz_run (openK P d (sec d.l 0)) h.sz
    rw [h.waits] at he
    rw [hlen] at hl
    have hG := hpre k hk
    rw [← he] at hG
    rcases hs with ⟨s1, rfl⟩ | ⟨s1, s2, _⟩
    · have hup : (run d (openK P d (sec d.l 0))).1.down = false := by
        rw [e, ← List.append_assoc] at s1 ⊢
        exact run_up _ flushS h.ok (fun y hy => hcan y (by rw [e, ← List.append_assoc]; exact hy)) (by decide) s1
      have hend : ((run d (openK P d (sec d.l 0))).1.l, (run d (openK P d (sec d.l 0))).1.waits) = ((exs (d.l, []) (opk P d (sec d.l 0) 128 ++ [flushS])).1.set 0 Dk.sector0, []) := by
        rw [he, List.take_length, e, exs_append]
        have hw := exs_ends (d.l, []) (opk P d (sec d.l 0) 128)
        generalize exs (d.l, []) (opk P d (sec d.l 0) 128 ++ [flushS]) = t at hw
        obtain ⟨l', w'⟩ := t
        obtain rfl : w' = [] := hw
        exact exs_mark l' _
      injection hend with e1 e2
      have hv := hG (fun _ => true)
      simp only at hv
      rw [e2] at hv
      refine .inl ⟨s1, ⟨hok, hsz, hl, e2, hup, hv⟩, fun i hi => ?_⟩
      rw [e1] at hl ⊢
      rw [List.length_set] at hl
      rw [sec_set_self _ (by omega), told_zero]
    · exact .inr ⟨s1, s2, fun p => fail_back hok hsz hl p (hG _)⟩
theorem open_again {P : Nat} {X : Nat → Nat → ByteArray} {d : Dk} (hP : P ≤ 128) (h : Back P X d) (hf : d.fuse = 0) : (run d (openK P d (d.read 0).1)).2 = 0 ∧ Home P X (run d (openK P d (d.read 0).1)).1 := by
  rcases open_back hP h with r | ⟨r, _⟩
  · exact r
  · exfalso
    have hlen := h.len
    have hcan : ∀ x ∈ openK P d (d.read 0).1, Can d.l.length x := fun x hx => by
      unfold openK at hx
      split at hx
      · cases hx
      · simp only [List.mem_append, List.mem_singleton] at hx
        rcases hx with (hx | rfl) | (rfl | rfl)
        · exact (opk_mem h.sto hx).1
        · exact .inl (by decide)
        · exact .inr ⟨by simp only; omega, Dk.rep_size 256 0⟩
        · exact .inl (by decide)
    rw [(run_calm _ ⟨h.ok, hf, h.up⟩ hcan).1] at r
    exact absurd r (by decide)
/-- The pages that changes make of others, in the changes' order. -/
def setK (wl : List ByteArray) (l : List (Int × ByteArray)) : List ByteArray := l.foldl (fun a c => a.set c.1.toNat c.2) wl
theorem setK_len : ∀ (l : List (Int × ByteArray)) (wl : List ByteArray), (setK wl l).length = wl.length
  | [], wl => rfl
  | c :: l, wl => by
    show (setK (wl.set _ _) l).length = _
    rw [setK_len l, List.length_set]
theorem setK_take {l : List (Int × ByteArray)} {k : Nat} (hk : k < l.length) (wl : List ByteArray) : setK wl (l.take (k + 1)) = (setK wl (l.take k)).set l[k].1.toNat l[k].2 := by
  unfold setK
  rw [List.take_succ_eq_append_getElem hk, List.foldl_append]
  rfl
theorem setK_old {i : Nat} : ∀ (l : List (Int × ByteArray)) (wl : List ByteArray), (∀ c ∈ l, c.1.toNat ≠ i) → sec (setK wl l) i = sec wl i
  | [], wl, _ => rfl
  | c :: l, wl, h => by
    show sec (setK (wl.set _ _) l) i = _
    rw [setK_old l _ (fun x hx => h x (List.mem_cons_of_mem _ hx)), sec_set_ne _ (h c (List.mem_cons_self ..))]
theorem setK_new : ∀ (l : List (Int × ByteArray)) (wl : List ByteArray), l.Pairwise (fun a b => a.1 ≠ b.1) → (∀ c ∈ l, 0 ≤ c.1 ∧ c.1.toNat < wl.length) → ∀ c ∈ l, sec (setK wl l) c.1.toNat = c.2
  | [], wl, _, _, c, hc => by cases hc
  | x :: l, wl, hp, h, c, hc => by
    show sec (setK (wl.set _ _) l) _ = _
    rw [List.pairwise_cons] at hp
    rcases List.mem_cons.1 hc with rfl | hc
    · rw [setK_old l _ (fun y hy e => hp.1 y hy (by have := h y (List.mem_cons_of_mem _ hy); have := h c (List.mem_cons_self ..); omega)), sec_set_self _ (h c (List.mem_cons_self ..)).2]
    · exact setK_new l _ hp.2 (fun y hy => by rw [List.length_set]; exact h y (List.mem_cons_of_mem _ hy)) c hc
/-- The pages of a disk that is up, by their bytes. -/
def pgK' (d : Dk) (P : Nat) : List ByteArray := (List.range P).map (fun i => pageB d ((1 + 4 * (P + i) : Nat) : Int))
theorem pgK'_len (d : Dk) (P : Nat) : (pgK' d P).length = P := by unfold pgK'; rw [List.length_map, List.length_range]
theorem pgK'_sec {d : Dk} {P i : Nat} (hi : i < P) : sec (pgK' d P) i = pageB d ((1 + 4 * (P + i) : Nat) : Int) := by
  unfold sec pgK'
  rw [List.getD_eq_getElem?_getD, List.getElem?_map, List.getElem?_range hi]
  rfl
def qrt (wl : List ByteArray) (i j : Nat) : ByteArray := cut4 (sec wl i) j
theorem want_of {P : Nat} {ch : List (Int × ByteArray)} (hw : whyE P ch = 0) {wl : List ByteArray} (hl : wl.length = P) {M : List Chg} (hp : (M.map upc).Perm ch) : Wnt P M (qrt wl) (qrt (setK wl ch)) := by
  have he := why_each hw
  refine ⟨fun c hc j hj => ?_, fun i j hi hj hn => ?_⟩
  · have hm : upc c ∈ ch := hp.mem_iff.1 (List.mem_map_of_mem hc)
    have := setK_new ch wl (pages_pair (why_ok hw).2.1) (fun x hx => by have := he x hx; exact ⟨this.1, by omega⟩) (upc c) hm
    unfold upc at this
    simp only [Int.toNat_natCast] at this
    unfold qrt
    rw [this]
  · unfold qrt
    rw [setK_old ch wl (fun x hx e => ?_)]
    obtain ⟨c, hc, rfl⟩ := List.mem_map.1 (hp.mem_iff.2 hx)
    exact hn c hc (by unfold upc at e; simpa using e)
/-- A store at rest, by its pages. -/
theorem rest_val {P : Nat} {d : Dk} (h : Rest P d) : VIs P (qrt (pgK' d P)) d.l := fun i j hi hj => by
  have hl := h.len
  have hm : sec d.l 0 = Dk.sector0 := by unfold sec; rw [List.getD_eq_getElem?_getD, h.mark]; rfl
  unfold valP
  rw [hm, told_zero, if_neg (by decide)]
  unfold qrt
  rw [pgK'_sec hi, cut_at h.sz h.waits h.calm.up hj (by omega)]
/-- What is there behind a commit that the power failed amid. -/
theorem commit_back {P : Nat} (hP : P ≤ 128) {d : Dk} (h : Rest P d) {cut : Int} (hc : cut ≤ 9223372036854775807) {ch : List (Int × ByteArray)} (hw : whyE P ch = 0) {e : Int} {d2 : Dk} (hco : CoTo P (d.setFuse cut) ch e d2) (p : List Bool) :
    (Back P (qrt (setK (pgK' d P) ch)) (d2.fail p).start ∨ (e ≠ 0 ∧ Back P (qrt (pgK' d P)) (d2.fail p).start)) := by
  have hl := h.len
  have hb : Back P (qrt (pgK' d P)) d := ⟨h.calm.ok, h.sz, hl, h.waits, h.calm.up, rest_val h⟩
  obtain ⟨hb1, hl1⟩ := back_fuse hb cut hc
  have hm : sec (d.setFuse cut).l 0 = Dk.sector0 := by rw [hl1]; unfold sec; rw [List.getD_eq_getElem?_getD, h.mark]; rfl
  generalize d.setFuse cut = d1 at hco hb1 hm
  cases hco with
  | why h => exact absurd hw h
  | down h hd => rw [hb1.up] at hd; exact absurd hd (by decide)
  | none h hd hl =>
    subst hl
    exact .inl (fail_back hb1.ok hb1.sz hb1.len p (by rw [hb1.waits]; exact hb1.val)).1
  | run h hd hne M hM hp =>
    have hmem := commit_mem h hp
    have hdist : M.Pairwise (fun a b => a.1 ≠ b.1) := by
      have hs : ∀ {a b : Int × ByteArray}, a.1 ≠ b.1 → b.1 ≠ a.1 := fun h => h.symm
      have := (hp.symm.pairwise_iff hs).1 (pages_pair (why_ok hw).2.1)
      rw [List.pairwise_map] at this
      exact this.imp (fun h e => h (by unfold upc; simp only; omega))
    obtain ⟨q1, q2⟩ := commit_pre hP hmem hdist (want_of hw (pgK'_len d P) hp) (by rw [hb1.len]; exact Nat.le_refl _) hm hb1.val
    have hcan := commitK_can (P := P) hmem (Nat.le_of_eq hb1.len.symm)
    obtain ⟨k, hk, he, hl, hs⟩ := run_shape (commitK P M) hb1.ok hcan
    have hok := run_ok (commitK P M) hb1.ok
    have hsz := sz_run (commitK P M) hb1.sz
    rw [hb1.waits] at he
    rw [hb1.len] at hl
    rcases hs with ⟨s1, rfl⟩ | ⟨s1, s2, _⟩
    · rw [List.take_length] at he
      rw [← he] at q2
      exact .inl (fail_back hok hsz hl p (q2 _)).1
    · have hG := q1 k hk
      rw [← he] at hG
      rcases hG (fun i => p.getD i false) with hv | hv
      · exact .inr ⟨by rw [s1]; decide, (fail_back hok hsz hl p hv).1⟩
      · exact .inl (fail_back hok hsz hl p hv).1
theorem home_pages {P : Nat} {wl : List ByteArray} {d : Dk} (h : Home P (qrt wl) d) (hlen : wl.length = P) (hs : ∀ s ∈ wl, s.size = 1024) : pgK' d P = wl := by
  have hl := h.back.len
  refine List.ext_getElem (by rw [pgK'_len, hlen]) (fun i h1 h2 => ?_)
  have hi : i < P := by omega
  have e1 : sec (pgK' d P) i = (pgK' d P)[i] := by unfold sec; rw [List.getD_eq_getElem?_getD, List.getElem?_eq_getElem h1]; rfl
  have e2 : sec wl i = wl[i] := by unfold sec; rw [List.getD_eq_getElem?_getD, List.getElem?_eq_getElem h2]; rfl
  rw [← e1, ← e2, pgK'_sec hi]
  refine cut4_inj (h.back.sto.page _ (by omega)) (by rw [e2]; exact hs _ (List.getElem_mem _)) (fun j hj => ?_)
  rw [cut_at h.back.sz h.back.waits h.back.up hj (by omega)]
  have := h.back.val i j hi hj
  unfold valP at this
  rwa [h.none i hi, if_neg (by decide)] at this
theorem setK_size {P : Nat} {ch : List (Int × ByteArray)} (hw : whyE P ch = 0) : ∀ (wl : List ByteArray), (∀ s ∈ wl, s.size = 1024) → ∀ s ∈ setK wl ch, s.size = 1024 := by
  have he := why_each hw
  clear hw
  induction ch with
  | nil => exact fun wl h => h
  | cons c l ih =>
    intro wl h
    refine ih (fun x hx => he x (List.mem_cons_of_mem _ hx)) (wl.set _ _) (fun s hs => ?_)
    rcases List.mem_or_eq_of_mem_set hs with hs | rfl
    · exact h s hs
    · exact (he c (List.mem_cons_self ..)).2.2
theorem pgK'_size {P : Nat} {d : Dk} (h : Rest P d) : ∀ s ∈ pgK' d P, s.size = 1024 := fun s hs => by
  have hl := h.len
  obtain ⟨i, hi, rfl⟩ := List.getElem_of_mem hs
  rw [pgK'_len] at hi
  have e1 : sec (pgK' d P) i = (pgK' d P)[i] := by unfold sec; rw [List.getD_eq_getElem?_getD, List.getElem?_eq_getElem (by rw [pgK'_len]; exact hi)]; rfl
  rw [← e1, pgK'_sec hi]
  exact h.sto.page _ (by omega)
end Go.Proofs.Ytpaabfadniakoaa
