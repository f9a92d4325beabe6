/- LawB: disks as callers hold them; the walk of strongroomlaw06.lives. -/
import Derived.Test.YtfkonndbgmmckaaLawA
set_option linter.unusedVariables false
set_option linter.unusedSimpArgs false
namespace Go.Proofs.Ytfkonndbgmmckaa
open Go.RowKit

def HasDisk (w : World) (F : Nat → Prop) (g : Nat) (d : Dk) : Prop := ∃ vl vw, IsDisk w F g d vl vw
def Disj (F G : Nat → Prop) : Prop := ∀ k, F k → ¬ G k
/-- What was done to a disk. -/
structure DTo (w : World) (F : Nat → Prop) (g : Nat) (d' : Dk) (w' : World) (F' : Nat → Prop) : Prop where
  has : HasDisk w' F' g d'
  new : ∀ k, F' k → F k ∨ w.heap.size ≤ k
  touch : Touch F w w'
theorem DiskTo.open {w w' : World} {F : Nat → Prop} {g : Nat} {d' : Dk} (h : DiskTo w F g d' w') : ∃ F', DTo w F g d' w' F' := by
  obtain ⟨F', vl, vw, h1, h2, h3⟩ := h
  exact ⟨F', ⟨vl, vw, h1⟩, h2, h3⟩
theorem HasDisk.keep {w w' : World} {S F : Nat → Prop} {g : Nat} {d : Dk} (h : HasDisk w F g d) (ht : Touch S w w') (hS : Disj F S) : HasDisk w' F g d := by
  obtain ⟨vl, vw, h⟩ := h
  exact ⟨vl, vw, h.keep ht hS⟩
theorem HasDisk.below {w w' : World} {F : Nat → Prop} {g : Nat} {d : Dk} (h : HasDisk w F g d) (ht : Below w.heap.size w w') : HasDisk w' F g d :=
  h.keep (S := fun _ => False) (Touch.of_below ht) (fun _ _ x => x)
theorem HasDisk.drew {w : World} {F : Nat → Prop} {g : Nat} {d : Dk} (h : HasDisk w F g d) : HasDisk w.drew F g d :=
  h.keep (S := fun _ => False) (Touch.refl _ w).drew (fun _ _ x => x)
theorem HasDisk.lt {w : World} {F : Nat → Prop} {g : Nat} {d : Dk} (h : HasDisk w F g d) (k : Nat) (hk : F k) : k < w.heap.size := by
  obtain ⟨vl, vw, h⟩ := h
  exact h.lt k hk
theorem HasDisk.ok {w : World} {F : Nat → Prop} {g : Nat} {d : Dk} (h : HasDisk w F g d) : d.Ok := by
  obtain ⟨vl, vw, h⟩ := h
  exact h.ok
theorem Disj.symm {F G : Nat → Prop} (h : Disj F G) : Disj G F := fun k hg hf => h k hf hg
theorem DTo.disj {w w' : World} {F F' G : Nat → Prop} {g g2 : Nat} {d' d2 : Dk} (h : DTo w F g d' w' F') (hd : Disj F G) (h2 : HasDisk w G g2 d2) : Disj F' G := by
  intro k hk hG
  rcases h.new k hk with hk | hk
  · exact hd k hk hG
  · have := h2.lt k hG; omega
theorem disj_new {w : World} {F G : Nat → Prop} {g : Nat} {d : Dk} (h : HasDisk w F g d) (hG : ∀ k, G k → w.heap.size ≤ k) : Disj F G := fun k hk hg => by
  have := h.lt k hk
  have := hG k hg
  omega
theorem DTo.above {w w' : World} {F F' : Nat → Prop} {g B : Nat} {d' : Dk} (h : DTo w F g d' w' F') (hF : ∀ k, F k → B ≤ k) (hB : B ≤ w.heap.size) : ∀ k, F' k → B ≤ k := fun k hk => by
  rcases h.new k hk with hk | hk
  · exact hF k hk
  · omega
theorem DTo.bel {w0 w w' : World} {F F' : Nat → Prop} {g B : Nat} {d' : Dk} (h : DTo w F g d' w' F') (hb : Below B w0 w) (hB : B ≤ w.heap.size) (hF : ∀ k, F k → B ≤ k) : Below B w0 w' :=
  hb.trans (h.touch.below hB hF)

theorem write_h {w : World} {F : Nat → Prop} {g : Nat} {d : Dk} (h : HasDisk w F g d) (i : Int) (s : ByteArray) (hs : s.size ≤ 9223372036854775807) (hm : d.waits.length + 1 ≤ 5864062014805) (hm2 : d.writes < 9223372036854775807) :
    Calls Try.prog 17 #[.pointer (some ⟨g, 0, none⟩), .int .i64 i, .string s] w fun e w' => e = .returned (.int .i64 (d.writeE i s)) ∧ ∃ F', DTo w F g (d.write i s) w' F' := by
  obtain ⟨vl, vw, h⟩ := h
  exact (write_any w F g d vl vw h i s hs hm hm2).mono fun e w' ⟨a, b⟩ => ⟨a, b.open⟩
theorem fuse_h {w : World} {F : Nat → Prop} {g : Nat} {d : Dk} (h : HasDisk w F g d) (n : Int) (hn : n ≤ 9223372036854775807) :
    Calls Try.prog 20 #[.pointer (some ⟨g, 0, none⟩), .int .i64 n] w fun e w' => e = .returned (.int .i64 (d.setFuseE n)) ∧ ∃ F', DTo w F g (d.setFuse n) w' F' := by
  obtain ⟨vl, vw, h⟩ := h
  exact (fuse_any w F g d vl vw h n hn).mono fun e w' ⟨a, b⟩ => ⟨a, b.open⟩
theorem start_h {w : World} {F : Nat → Prop} {g : Nat} {d : Dk} (h : HasDisk w F g d) :
    Calls Try.prog 14 #[.pointer (some ⟨g, 0, none⟩)] w fun e w' => e = .returned (.int .i64 d.startE) ∧ ∃ F', DTo w F g d.start w' F' := by
  obtain ⟨vl, vw, h⟩ := h
  exact (start_any w F g d vl vw h).mono fun e w' ⟨a, b⟩ => ⟨a, b.open⟩
theorem flush_h {w : World} {F : Nat → Prop} {g : Nat} {d : Dk} (h : HasDisk w F g d) (hm : d.waits.length < 9223372036854775807) :
    Calls Try.prog 16 #[.pointer (some ⟨g, 0, none⟩)] w fun e w' => e = .returned (.int .i64 (d.use 0)) ∧ ∃ F', DTo w F g d.flush w' F' := by
  obtain ⟨vl, vw, h⟩ := h
  exact (flush_any w F g d vl vw h hm).mono fun e w' ⟨a, b⟩ => ⟨a, b.open⟩
theorem fail_h {w : World} {F : Nat → Prop} {g : Nat} {d : Dk} (h : HasDisk w F g d) (hm : d.waits.length < 9223372036854775807) (pv : Value) (picks : List Bool) (hr : RdB w pv picks) (hpv : 0 < picks.length → ∀ k, pv.ownBlock = some k → ¬ F k) :
    Calls Try.prog 11 #[.pointer (some ⟨g, 0, none⟩), pv] w fun e w' => e = .returned (.tuple #[]) ∧ ∃ F', DTo w F g (d.fail picks) w' F' := by
  obtain ⟨vl, vw, h⟩ := h
  exact (fail_any w F g d vl vw h hm pv picks hr hpv).mono fun e w' ⟨a, b⟩ => ⟨a, b.open⟩
theorem read_h {w : World} {F : Nat → Prop} {g : Nat} {d : Dk} (h : HasDisk w F g d) (i : Int) (hm : d.waits.length < 9223372036854775807) :
    Calls Try.prog 22 #[.pointer (some ⟨g, 0, none⟩), .int .i64 i] w fun e w' => e = .returned (.tuple #[.string (d.read i).1, .int .i64 (d.read i).2]) ∧ Below w.heap.size w w' := by
  obtain ⟨vl, vw, h⟩ := h
  exact read_any w F g d vl vw h i hm
theorem clone_h {w : World} {F : Nat → Prop} {g : Nat} {d : Dk} (h : HasDisk w F g d) (hm : d.waits.length ≤ 5864062014805) :
    Calls Try.prog 10 #[.pointer (some ⟨g, 0, none⟩)] w fun e w' => ∃ g2 F2, e = .returned (.pointer (some ⟨g2, 0, none⟩)) ∧ HasDisk w' F2 g2 d ∧ (∀ k, F2 k → w.heap.size ≤ k) ∧ Below w.heap.size w w' := by
  obtain ⟨vl, vw, h⟩ := h
  exact (clone_any w F g d vl vw h hm).mono fun e w' ⟨g2, F2, a, b, c, d, e, f⟩ => ⟨g2, F2, c, ⟨a, b, d⟩, e, f⟩
theorem new_h (w : World) (n : Nat) (h1 : 1 ≤ n) (h2 : n ≤ 2048) :
    Calls Try.prog 19 #[.int .i64 n] w fun e w' => ∃ g F, e = .returned (.tuple #[.pointer (some ⟨g, 0, none⟩), .int .i64 0]) ∧ HasDisk w' F g (Dk.new n) ∧ (∀ k, F k → w.heap.size ≤ k) ∧ Below w.heap.size w w' :=
  (new_yes w n h1 h2).mono fun e w' ⟨g, F, vl, vw, a, b, c, d⟩ => ⟨g, F, a, ⟨vl, vw, b⟩, c, d⟩
theorem size_h {w : World} {F : Nat → Prop} {g : Nat} {d : Dk} (h : HasDisk w F g d) : Calls Try.prog 23 #[.pointer (some ⟨g, 0, none⟩)] w fun e w' => e = .returned (.int .i64 (d.l.length : Int)) ∧ w = w' := by
  obtain ⟨vl, vw, h⟩ := h
  exact size_any w F g d vl vw h
theorem waits_h {w : World} {F : Nat → Prop} {g : Nat} {d : Dk} (h : HasDisk w F g d) : Calls Try.prog 13 #[.pointer (some ⟨g, 0, none⟩)] w fun e w' => e = .returned (.int .i64 (d.waits.length : Int)) ∧ w = w' := by
  obtain ⟨vl, vw, h⟩ := h
  exact waits_any w F g d vl vw h
theorem writes_h {w : World} {F : Nat → Prop} {g : Nat} {d : Dk} (h : HasDisk w F g d) : Calls Try.prog 21 #[.pointer (some ⟨g, 0, none⟩)] w fun e w' => e = .returned (.int .i64 d.writes) ∧ w = w' := by
  obtain ⟨vl, vw, h⟩ := h
  exact writes_any w F g d vl vw h
theorem up_h {w : World} {F : Nat → Prop} {g : Nat} {d : Dk} (h : HasDisk w F g d) : Calls Try.prog 18 #[.pointer (some ⟨g, 0, none⟩)] w fun e w' => e = .returned (.bool (!d.down)) ∧ w = w' := by
  obtain ⟨vl, vw, h⟩ := h
  exact up_any w F g d vl vw h

/-! ### lives -/
theorem l_D1 : (Dk.new 2).write 0 (Dk.rep 256 7) = ⟨[Dk.sector0, Dk.sector0], [(0, Dk.rep 256 7)], 0, 1, false⟩ := by
  have : (Dk.new 2).writeE 0 (Dk.rep 256 7) = 0 := by simp [Dk.writeE, Dk.use, Dk.new, Dk.rep_size]
  unfold Dk.write; rw [if_pos this]; simp [Dk.wrote, Dk.new, List.replicate]
theorem l_E1 : (Dk.new 2).writeE 0 (Dk.rep 256 7) = 0 := by simp [Dk.writeE, Dk.use, Dk.new, Dk.rep_size]
def lD1 : Dk := ⟨[Dk.sector0, Dk.sector0], [(0, Dk.rep 256 7)], 0, 1, false⟩
def lD2 : Dk := ⟨[Dk.sector0, Dk.sector0], [], 0, 1, true⟩
def lC2 : Dk := ⟨[Dk.rep 256 7, Dk.sector0], [], 0, 1, true⟩
def lD3 : Dk := ⟨[Dk.sector0, Dk.sector0], [], 0, 1, false⟩
def lC3 : Dk := ⟨[Dk.rep 256 7, Dk.sector0], [], 0, 1, false⟩
theorem l_D2 : lD1.fail [] = lD2 := rfl
theorem l_C2 : lD1.fail [true] = lC2 := rfl
theorem l_D3 : lD2.start = lD3 := rfl
theorem l_C3 : lC2.start = lC3 := rfl
theorem l_Ds : lD2.startE = 0 := rfl
theorem l_Cs : lC2.startE = 0 := rfl
theorem l_Dr : lD3.read 0 = (Dk.sector0, 0) := rfl
theorem l_Cr : lC3.read 0 = (Dk.rep 256 7, 0) := rfl

theorem nilB (w : World) : RdB w (.slice none 0 0) [] := ⟨rfl, none, 0, rfl, Nat.le_refl _, by decide, fun h => by simp at h⟩
theorem oneB (w : World) (b : Bool) : RdB (w.alloc (.cells #[.bool b] 4)) (.slice (some ⟨w.heap.size, 0, none⟩) 1 1) [b] :=
  ⟨rfl, _, 1, rfl, Nat.le_refl _, by simp, fun _ => ⟨_, rfl, fun j u hj => by
    match j, hj with
    | 0, hj => simp at hj; subst hj; simp [Addr.add]⟩⟩

set_option maxHeartbeats 1600000 in
set_option maxRecDepth 100000 in
theorem lives6 (w : World) : Calls Try.prog 9 #[] w fun e w' => e = .returned (.bool true) ∧ Below w.heap.size w w' := by
  go_enter Try.func9, Try.ntmps9
  go_wp2_with fail
  refine (new_h w 2 (by decide) (by decide)).mono ?_
  rintro e w1 ⟨g1, F1, rfl, hd1, hF1, b1⟩
  have HD := Lib.hid hd1; have HF := Lib.hid hF1; clear hd1 hF1
  go_wp2_with fail
  refine (filled_any _ 0 0 0 7 none 0 0).mono ?_
  rintro e w2 ⟨rfl, b2⟩
  have hd2 := HD.out.below b2
  have E1 : Hid ((Dk.new 2).writeE 0 (Dk.rep (filledN 0) 7) = 0) := l_E1
  have D1 : Hid ((Dk.new 2).write 0 (Dk.rep (filledN 0) 7) = lD1) := l_D1
  have HD := Lib.hid hd2; clear hd2
  go_wp2_with fail
  refine (write_h HD.out 0 _ (by rw [Dk.rep_size]; decide) (by decide) (by decide)).mono ?_
  rintro e w3 ⟨rfl, F3, hd3⟩
  rw [E1.out]
  rw [D1.out] at hd3
  have HT := Lib.hid hd3; clear hd3
  go_wp2_with fail
  refine (clone_h HT.out.has (by decide)).mono ?_
  rintro e w4 ⟨g2, F2, rfl, hc4, hF4, b4⟩
  have HDJ : Hid (Disj F3 F2) := disj_new HT.out.has hF4
  have HD := Lib.hid (HT.out.has.below b4)
  have HC := Lib.hid hc4
  have HB : Hid (Below w.heap.size w w4) := (((b1.trans (b2.mono b1.size)).trans (HT.out.touch.below (Nat.le_trans b1.size b2.size) HF.out)).trans (b4.mono (Nat.le_trans (Nat.le_trans b1.size b2.size) HT.out.touch.size)))
  have HF3 : Hid (∀ k, F3 k → w.heap.size ≤ k) := HT.out.above HF.out (Nat.le_trans b1.size b2.size)
  have HF2 : Hid (∀ k, F2 k → w.heap.size ≤ k) := fun k hk => Nat.le_trans (Nat.le_trans (Nat.le_trans b1.size b2.size) HT.out.touch.size) (hF4 k hk)
  clear HF HT b1 b2 b4 hc4 hF4 E1 D1
  go_wp2_with fail
  refine (fail_h HD.out (by decide) _ [] (nilB _) (fun hp => by simp at hp)).mono ?_
  rintro e w5 ⟨rfl, F5, hd5⟩
  rw [l_D2] at hd5
  have HT := Lib.hid hd5; clear hd5
  have HDJ5 : Hid (Disj F5 F2) := HT.out.disj HDJ.out HC.out
  have HC5 := Lib.hid (HC.out.keep HT.out.touch HDJ.out.symm)
  have HB5 : Hid (Below w.heap.size w w5) := HT.out.bel HB.out HB.out.size HF3.out
  have HF5 : Hid (∀ k, F5 k → w.heap.size ≤ k) := HT.out.above HF3.out HB.out.size
  clear HC HD HB HF3 HDJ
  go_wp2_with fail
  have hal : Below w5.heap.size w5 (w5.alloc (.cells #[.bool true] 4)) := (Below.refl _ w5).alloc (Nat.le_refl _) _
  refine (fail_h (HC5.out.below hal) (by decide) _ [true] (oneB _ true) (fun _ k hk => by simp [Value.ownBlock] at hk; subst hk; exact fun hF => Nat.lt_irrefl _ (HC5.out.lt _ hF))).mono ?_
  rintro e w6 ⟨rfl, F6, hd6⟩
  rw [l_C2] at hd6
  have HT6 := Lib.hid hd6; clear hd6
  have HDJ6 : Hid (Disj F6 F5) := HT6.out.disj HDJ5.out.symm (HT.out.has.below hal)
  have HD6 := Lib.hid ((HT.out.has.below hal).keep HT6.out.touch HDJ5.out)
  have HB6 : Hid (Below w.heap.size w w6) := HT6.out.bel (HB5.out.trans (hal.mono HB5.out.size)) (Nat.le_trans HB5.out.size hal.size) HF2.out
  have HF6 : Hid (∀ k, F6 k → w.heap.size ≤ k) := HT6.out.above HF2.out (Nat.le_trans HB5.out.size hal.size)
  clear HT HC5 HDJ5 HB5 hal HF2
  go_wp2_with fail
  refine (start_h HD6.out).mono ?_
  rintro e w7 ⟨rfl, F7, hd7⟩
  rw [l_D3] at hd7
  rw [l_Ds]
  have HT7 := Lib.hid hd7; clear hd7
  have HDJ7 : Hid (Disj F7 F6) := HT7.out.disj HDJ6.out.symm HT6.out.has
  have HC7 := Lib.hid (HT6.out.has.keep HT7.out.touch HDJ6.out)
  have HB7 : Hid (Below w.heap.size w w7) := HT7.out.bel HB6.out HB6.out.size HF5.out
  clear HT6 HD6 HDJ6 HF5 HB6
  go_wp2_with fail
  refine (start_h HC7.out).mono ?_
  rintro e w8 ⟨rfl, F8, hd8⟩
  rw [l_C3] at hd8
  rw [l_Cs]
  have HT8 := Lib.hid hd8; clear hd8
  have HD8 := Lib.hid (HT7.out.has.keep HT8.out.touch HDJ7.out)
  have HB8 : Hid (Below w.heap.size w w8) := HT8.out.bel HB7.out HB7.out.size HF6.out
  clear HC7 HT7 HDJ7 HB7 HF6
  go_wp2_with fail
  refine (read_h HD8.out 0 (by decide)).mono ?_
  rintro e w9 ⟨rfl, b9⟩
  rw [l_Dr]
  have HC9 := Lib.hid (HT8.out.has.below b9)
  have HB9 : Hid (Below w.heap.size w w9) := HB8.out.trans (b9.mono HB8.out.size)
  clear HT8 HD8 HB8 b9
  go_wp2_with fail
  refine (read_h HC9.out 0 (by decide)).mono ?_
  rintro e w10 ⟨rfl, b10⟩
  rw [l_Cr]
  have HB10 : Hid (Below w.heap.size w w10) := HB9.out.trans (b10.mono HB9.out.size)
  clear HB9 b10 HC9
  obtain ⟨x, hx⟩ : ∃ x, x = Dk.sector0 := ⟨_, rfl⟩
  obtain ⟨y, hy⟩ : ∃ y, y = Dk.rep 256 7 := ⟨_, rfl⟩
  rw [← hx, ← hy]
  have x1 : ((x.size : Int) == 256) = true := by rw [hx]; rfl
  have y1 : ((y.size : Int) == 256) = true := by rw [hy, Dk.rep_size]; rfl
  have x2 : x.size = 256 := by rw [hx]; exact Dk.rep_size _ _
  have y2 : y.size = 256 := by rw [hy]; exact Dk.rep_size _ _
  have X2 := Lib.hid x2; have Y2 := Lib.hid y2
  have x3 : 0 < x.size := by omega
  have y3 : 255 < y.size := by omega
  have x4 : x[0].toNat = 0 := by subst hx; rfl
  have y4 : y[255].toNat = 7 := by subst hy; rfl
  clear hx hy x2 y2
  go_wp2
  go_ret
  exact ⟨rfl, HB10.out⟩
end Go.Proofs.Ytfkonndbgmmckaa
