/- CmM: the law's put: a key gets a value, in the shelf and in the document's list. -/
import Derived.Test.YtoolkamajlgcbaaCmL
set_option linter.unusedVariables false
set_option linter.unusedSimpArgs false
namespace Go.Proofs.Ytoolkamajlgcbaa
open Go.RowKit

theorem small_flat {l : PL} (h : ∀ p ∈ l, EntOK p) (hn : l.length ≤ 100000) : Small l := ⟨by omega, fun p hp => by
  obtain ⟨_, h2, h3⟩ := h p hp
  omega⟩
theorem fits_any (w : World) (P : Nat) (hP1 : 2 ≤ P) (hP : P ≤ 128) (A : Option Addr) (c : Nat) (l : PL) (h : RdPr w A l) (hs : Small l) (hz : szL l ≤ 1000000000) :
    Calls Try.prog 59 #[.int .i64 (P : Int), .slice A l.length c] w fun e w' => e = .returned (.bool (decide (szL l ≤ 510 * (P - 2)))) ∧ Below w.heap.size w w' := by
  have SZ := Lib.hid (rsize_any w A c l h hs)
  obtain ⟨z, hzz⟩ : ∃ z, z = szL l := ⟨_, rfl⟩
  rw [← hzz] at SZ hz ⊢
  clear h hs hzz
  have w1 : IntKind.i64.wrap ((P : Int) - 2) = (P : Int) - 2 := by rw [IntKind.wrap_i64]; omega
  have w2 : IntKind.i64.wrap (510 * ((P : Int) - 2)) = 510 * ((P : Int) - 2) := by rw [IntKind.wrap_i64]; omega
  have E : Hid (decide ((z : Int) ≤ 510 * ((P : Int) - 2)) = decide (z ≤ 510 * (P - 2))) := by
    unfold Hid
    rw [decide_eq_decide]
    omega
  go_enter Try.func59, Try.ntmps59
  go_wp2_with fail
  refine SZ.out.mono ?_
  rintro e w2 ⟨rfl, q2⟩
  have Q2 := Lib.hid q2
  clear q2
  go_wp2
  go_ret
  refine ⟨?_, Q2.out⟩
  rw [← E.out]
  rfl
set_option maxHeartbeats 1600000 in
set_option maxRecDepth 100000 in
theorem lput_any {w : World} {lo gj g P n gs : Nat} {d : Dk} {sh gd : List (Nat × PL)} (h : Ply w lo gj g P n gs d sh gd) (hP1 : 2 ≤ P) (hP : P ≤ 12) (lv : Value) (hl : RdP w lv (flatS sh)) (a x : ByteArray) :
    Calls Try.prog 26 #[.pointer (some ⟨gs, 0, none⟩), .int .i64 (P : Int), lv, .string a, .string x] w fun e w' => ∃ sh' v', e = .returned (.tuple #[v', .bool true]) ∧ Ply w' lo gj g P n gs d sh' gd ∧ RdP w' v' (flatS sh') ∧ Tch w w' ∧ Below lo w w' := by
  by_cases hm : mayB a x = true
  rotate_left
  · have hm : mayB a x = false := by simpa using hm
    have PN := Lib.hid (put_no w gs a x hm)
    have MN := Lib.hid (rmay_any w a x)
    rw [hm] at MN
    have H := Lib.hid h; have HL := Lib.hid hl
    clear h hl hm
    go_enter Try.func26, Try.ntmps26
    go_wp2_with fail
    refine PN.out.mono ?_
    rintro e w2 ⟨rfl, rfl⟩
    go_wp2_with fail
    refine MN.out.mono ?_
    rintro e w2 ⟨rfl, rfl⟩
    go_wp2
    go_ret2
    exact ⟨sh, lv, rfl, H.out, HL.out, Tch.of_below (Below.refl _ _), Below.refl _ _⟩
  have hok : EntOK (a, x) := mayB_iff.1 hm
  have PP := Lib.hid (ply_put h hP1 (by omega) hok)
  have pi := put_inv h.wf.good h.two hP1 (by omega) hok
  have pf := put_flat (P := P) (a := a) (x := x) h.wf.srt (full_good h.wf.good)
  have ps := put_size h.wf.srt h.wf.good a x
  have hsz := (ply_stt h hP1 (by omega)).2.2
  have hzs : (zs sh).sum ≤ 200000 := by
    have := zs_le h.wf.good
    have := (ply_stt h hP1 (by omega)).1
    omega
  have hpz := hok.sz
  have entok : ∀ p ∈ putF (flatS sh) a x, EntOK p := fun p hp => by
    unfold putF at hp
    have hfl : ∀ q ∈ flatS sh, EntOK q := fun q hq => by
      obtain ⟨y, hy, hq⟩ := List.mem_flatMap.1 hq
      exact (h.wf.good y hy).2.2.1 q hq
    rcases List.mem_append.1 hp with hp | hp
    · exact hfl p (List.mem_filter.1 hp).1
    · rcases List.mem_cons.1 hp with rfl | hp
      · exact hok
      · exact hfl p (List.mem_filter.1 hp).1
  have plen : (putF (flatS sh) a x).length ≤ 100000 := by
    unfold putF
    rw [List.length_append, List.length_cons]
    have h1 := List.length_filter_le (fun (p : ByteArray × ByteArray) => ltB p.1 a) (flatS sh)
    have h2 := List.length_filter_le (fun (p : ByteArray × ByteArray) => ltB a p.1) (flatS sh)
    omega
  have MY := fun W => Lib.hid (rmay_any W a x)
  rw [hm] at MY
  have RP := fun (W : World) (hW : RdP W lv (flatS sh)) => rput_any W lv (flatS sh) hW (by omega) a x
  rw [putI_eq h.wf.srt] at RP
  have HRP := Lib.hid RP
  have HL := Lib.hid hl
  obtain ⟨m, hmm⟩ : ∃ m, m = putF (flatS sh) a x := ⟨_, rfl⟩
  rw [← hmm] at pf ps entok plen HRP
  have SM := Lib.hid (small_flat entok plen)
  obtain ⟨ct, hct⟩ : ∃ q, q = (putA sh P a x).1 := ⟨_, rfl⟩
  obtain ⟨sh', hsh'⟩ : ∃ q, q = (putA sh P a x).2 := ⟨_, rfl⟩
  rw [← hct, ← hsh'] at PP
  rw [← hct, ← hsh'] at pi pf
  obtain ⟨_, _, pi⟩ := pi
  obtain ⟨v, L0, _, _⟩ := h.sho
  clear hm hok h hl hmm hct hsh' RP entok
  rcases pi with ⟨c0, _⟩ | ⟨c5, e5, room⟩
  · subst c0
    rw [if_pos rfl] at pf
    have PF := Lib.hid pf
    clear pf ps
    go_enter Try.func26, Try.ntmps26
    go_wp2_with fail
    refine PP.out.mono ?_
    rintro e w2 ⟨rfl, p2, t2, b2⟩
    have H2 := Lib.hid p2; have T2 := Lib.hid t2; have B2 := Lib.hid b2
    clear p2 t2 b2
    go_wp2_with fail
    refine (MY _).out.mono ?_
    rintro e w' ⟨rfl, rfl⟩
    go_wp2_with fail
    refine (HRP.out w2 (HL.out.tch T2.out)).mono ?_
    rintro e w3 ⟨v3, rfl, o3, q3⟩
    have O3 := Lib.hid o3; have Q3 := Lib.hid q3
    clear o3 q3
    go_wp2
    go_ret2
    exact ⟨sh', v3, rfl, H2.out.below Q3.out, by rw [PF.out]; exact rdP_own O3.out, T2.out.trans (Tch.of_below Q3.out), B2.out.trans (Q3.out.mono (by have := H2.out.los; omega))⟩
  · subst c5 e5
    have nf : ¬ szL m ≤ 510 * (P - 2) := by omega
    have nfd : decide (szL m ≤ 510 * (P - 2)) = false := decide_eq_false nf
    have mz : szL m ≤ 1000000000 := by omega
    have MZ := Lib.hid mz
    have NF := Lib.hid nfd
    clear pf ps nf nfd mz room
    go_enter Try.func26, Try.ntmps26
    go_wp2_with fail
    refine PP.out.mono ?_
    rintro e w2 ⟨rfl, p2, t2, b2⟩
    have H2 := Lib.hid p2; have T2 := Lib.hid t2; have B2 := Lib.hid b2
    clear p2 t2 b2
    go_wp2_with fail
    refine (MY _).out.mono ?_
    rintro e w' ⟨rfl, rfl⟩
    go_wp2_with fail
    refine (HRP.out w2 (HL.out.tch T2.out)).mono ?_
    rintro e w3 ⟨v3, rfl, o3, q3⟩
    obtain ⟨A3, c3, rfl⟩ := own_slice o3
    obtain ⟨A', c', e', rd3⟩ := (rdP_own o3).rd
    cases e'
    have FT := Lib.hid (fits_any w3 P hP1 (by omega) A3 c3 m rd3 SM.out MZ.out)
    rw [NF.out] at FT
    have Q3 := Lib.hid q3
    clear o3 q3 rd3
    go_wp2_with fail
    refine FT.out.mono ?_
    rintro e w4 ⟨rfl, q4⟩
    have Q4 := Lib.hid (Q3.out.trans (q4.mono Q3.out.size))
    clear q4
    go_wp2
    go_ret2
    exact ⟨_, lv, rfl, H2.out.below Q4.out, (HL.out.tch T2.out).below Q4.out, T2.out.trans (Tch.of_below Q4.out), B2.out.trans (Q4.out.mono (by have := H2.out.los; omega))⟩
end Go.Proofs.Ytoolkamajlgcbaa
