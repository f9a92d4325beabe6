/- JdB: contracts of the disk (written by gen_jn.py) -/
import Derived.Test.YtoolkamajlgcbaaDisk6
import Derived.Test.YtoolkamajlgcbaaReg
set_option linter.unusedVariables false
set_option linter.unusedSimpArgs false
namespace Go.Proofs.Ytoolkamajlgcbaa
open Go.RowKit


def HasDisk (w : World) (F : Nat → Prop) (g : Nat) (d : Dk) : Prop := ∃ vl vw, IsDisk w F g d vl vw
def Disj (F G : Nat → Prop) : Prop := ∀ k, F k → ¬ G k
/-- What was done to a disk. -/
structure DTo (w : World) (F : Nat → Prop) (g : Nat) (d' : Dk) (w' : World) (F' : Nat → Prop) : Prop where
  has : HasDisk w' F' g d'
  new : ∀ k, F' k → F k ∨ w.heap.size ≤ k
  touch : Touch F w w'
theorem DiskTo.open {w w' : World} {F : Nat → Prop} {g : Nat} {d' : Dk} (h : DiskTo w F g d' w') : ∃ F', DTo w F g d' w' F' := by
  obtain ⟨F', vl, vw, h1, h2, h3⟩ := h
  exact ⟨F', ⟨vl, vw, h1⟩, h2, h3⟩
theorem HasDisk.keep {w w' : World} {S F : Nat → Prop} {g : Nat} {d : Dk} (h : HasDisk w F g d) (ht : Touch S w w') (hS : Disj F S) : HasDisk w' F g d := by
  obtain ⟨vl, vw, h⟩ := h
  exact ⟨vl, vw, h.keep ht hS⟩
theorem HasDisk.below {w w' : World} {F : Nat → Prop} {g : Nat} {d : Dk} (h : HasDisk w F g d) (ht : Below w.heap.size w w') : HasDisk w' F g d :=
  h.keep (S := fun _ => False) (Touch.of_below ht) (fun _ _ x => x)
theorem HasDisk.drew {w : World} {F : Nat → Prop} {g : Nat} {d : Dk} (h : HasDisk w F g d) : HasDisk w.drew F g d :=
  h.keep (S := fun _ => False) (Touch.refl _ w).drew (fun _ _ x => x)
theorem HasDisk.lt {w : World} {F : Nat → Prop} {g : Nat} {d : Dk} (h : HasDisk w F g d) (k : Nat) (hk : F k) : k < w.heap.size := by
  obtain ⟨vl, vw, h⟩ := h
  exact h.lt k hk
theorem HasDisk.ok {w : World} {F : Nat → Prop} {g : Nat} {d : Dk} (h : HasDisk w F g d) : d.Ok := by
  obtain ⟨vl, vw, h⟩ := h
  exact h.ok
theorem Disj.symm {F G : Nat → Prop} (h : Disj F G) : Disj G F := fun k hg hf => h k hf hg
theorem DTo.disj {w w' : World} {F F' G : Nat → Prop} {g g2 : Nat} {d' d2 : Dk} (h : DTo w F g d' w' F') (hd : Disj F G) (h2 : HasDisk w G g2 d2) : Disj F' G := by
  intro k hk hG
  rcases h.new k hk with hk | hk
  · exact hd k hk hG
  · have := h2.lt k hG; omega
theorem disj_new {w : World} {F G : Nat → Prop} {g : Nat} {d : Dk} (h : HasDisk w F g d) (hG : ∀ k, G k → w.heap.size ≤ k) : Disj F G := fun k hk hg => by
  have := h.lt k hk
  have := hG k hg
  omega
theorem DTo.above {w w' : World} {F F' : Nat → Prop} {g B : Nat} {d' : Dk} (h : DTo w F g d' w' F') (hF : ∀ k, F k → B ≤ k) (hB : B ≤ w.heap.size) : ∀ k, F' k → B ≤ k := fun k hk => by
  rcases h.new k hk with hk | hk
  · exact hF k hk
  · omega
theorem DTo.bel {w0 w w' : World} {F F' : Nat → Prop} {g B : Nat} {d' : Dk} (h : DTo w F g d' w' F') (hb : Below B w0 w) (hB : B ≤ w.heap.size) (hF : ∀ k, F k → B ≤ k) : Below B w0 w' :=
  hb.trans (h.touch.below hB hF)
theorem write_h {w : World} {F : Nat → Prop} {g : Nat} {d : Dk} (h : HasDisk w F g d) (i : Int) (s : ByteArray) (hs : s.size ≤ 9223372036854775807) (hm : d.waits.length + 1 ≤ 5864062014805) (hm2 : d.writes < 9223372036854775807) :
    Calls Try.prog 52 #[.pointer (some ⟨g, 0, none⟩), .int .i64 i, .string s] w fun e w' => e = .returned (.int .i64 (d.writeE i s)) ∧ ∃ F', DTo w F g (d.write i s) w' F' := by
  obtain ⟨vl, vw, h⟩ := h
  exact (write_any w F g d vl vw h i s hs hm hm2).mono fun e w' ⟨a, b⟩ => ⟨a, b.open⟩
theorem fuse_h {w : World} {F : Nat → Prop} {g : Nat} {d : Dk} (h : HasDisk w F g d) (n : Int) (hn : n ≤ 9223372036854775807) :
    Calls Try.prog 35 #[.pointer (some ⟨g, 0, none⟩), .int .i64 n] w fun e w' => e = .returned (.int .i64 (d.setFuseE n)) ∧ ∃ F', DTo w F g (d.setFuse n) w' F' := by
  obtain ⟨vl, vw, h⟩ := h
  exact (fuse_any w F g d vl vw h n hn).mono fun e w' ⟨a, b⟩ => ⟨a, b.open⟩
theorem start_h {w : World} {F : Nat → Prop} {g : Nat} {d : Dk} (h : HasDisk w F g d) :
    Calls Try.prog 36 #[.pointer (some ⟨g, 0, none⟩)] w fun e w' => e = .returned (.int .i64 d.startE) ∧ ∃ F', DTo w F g d.start w' F' := by
  obtain ⟨vl, vw, h⟩ := h
  exact (start_any w F g d vl vw h).mono fun e w' ⟨a, b⟩ => ⟨a, b.open⟩
theorem flush_h {w : World} {F : Nat → Prop} {g : Nat} {d : Dk} (h : HasDisk w F g d) (hm : d.waits.length < 9223372036854775807) :
    Calls Try.prog 76 #[.pointer (some ⟨g, 0, none⟩)] w fun e w' => e = .returned (.int .i64 (d.use 0)) ∧ ∃ F', DTo w F g d.flush w' F' := by
  obtain ⟨vl, vw, h⟩ := h
  exact (flush_any w F g d vl vw h hm).mono fun e w' ⟨a, b⟩ => ⟨a, b.open⟩
theorem fail_h {w : World} {F : Nat → Prop} {g : Nat} {d : Dk} (h : HasDisk w F g d) (hm : d.waits.length < 9223372036854775807) (pv : Value) (picks : List Bool) (hr : RdB w pv picks) (hpv : 0 < picks.length → ∀ k, pv.ownBlock = some k → ¬ F k) :
    Calls Try.prog 24 #[.pointer (some ⟨g, 0, none⟩), pv] w fun e w' => e = .returned (.tuple #[]) ∧ ∃ F', DTo w F g (d.fail picks) w' F' := by
  obtain ⟨vl, vw, h⟩ := h
  exact (fail_any w F g d vl vw h hm pv picks hr hpv).mono fun e w' ⟨a, b⟩ => ⟨a, b.open⟩
theorem read_h {w : World} {F : Nat → Prop} {g : Nat} {d : Dk} (h : HasDisk w F g d) (i : Int) (hm : d.waits.length < 9223372036854775807) :
    Calls Try.prog 65 #[.pointer (some ⟨g, 0, none⟩), .int .i64 i] w fun e w' => e = .returned (.tuple #[.string (d.read i).1, .int .i64 (d.read i).2]) ∧ Below w.heap.size w w' := by
  obtain ⟨vl, vw, h⟩ := h
  exact read_any w F g d vl vw h i hm
theorem new_h (w : World) (n : Nat) (h1 : 1 ≤ n) (h2 : n ≤ 2048) :
    Calls Try.prog 33 #[.int .i64 n] w fun e w' => ∃ g F, e = .returned (.tuple #[.pointer (some ⟨g, 0, none⟩), .int .i64 0]) ∧ HasDisk w' F g (Dk.new n) ∧ (∀ k, F k → w.heap.size ≤ k) ∧ Below w.heap.size w w' :=
  (new_yes w n h1 h2).mono fun e w' ⟨g, F, vl, vw, a, b, c, d⟩ => ⟨g, F, a, ⟨vl, vw, b⟩, c, d⟩
theorem size_h {w : World} {F : Nat → Prop} {g : Nat} {d : Dk} (h : HasDisk w F g d) : Calls Try.prog 64 #[.pointer (some ⟨g, 0, none⟩)] w fun e w' => e = .returned (.int .i64 (d.l.length : Int)) ∧ w = w' := by
  obtain ⟨vl, vw, h⟩ := h
  exact size_any w F g d vl vw h
theorem up_h {w : World} {F : Nat → Prop} {g : Nat} {d : Dk} (h : HasDisk w F g d) : Calls Try.prog 45 #[.pointer (some ⟨g, 0, none⟩)] w fun e w' => e = .returned (.bool (!d.down)) ∧ w = w' := by
  obtain ⟨vl, vw, h⟩ := h
  exact up_any w F g d vl vw h

/-! ### lives -/
theorem nilB (w : World) : RdB w (.slice none 0 0) [] := ⟨rfl, none, 0, rfl, Nat.le_refl _, by decide, fun h => by simp at h⟩
theorem oneB (w : World) (b : Bool) : RdB (w.alloc (.cells #[.bool b] 4)) (.slice (some ⟨w.heap.size, 0, none⟩) 1 1) [b] :=
  ⟨rfl, _, 1, rfl, Nat.le_refl _, by simp, fun _ => ⟨_, rfl, fun j u hj => by
    match j, hj with
    | 0, hj => simp at hj; subst hj; simp [Addr.add]⟩⟩
theorem RdB.lt {w : World} {A : Option Addr} {n c : Nat} {l : List Bool} (h : RdB w (.slice A n c) l) (hp : 0 < l.length) : ∀ k, (Value.slice A n c).ownBlock = some k → k < w.heap.size := by
  intro k hk
  obtain ⟨_, A', c', e, _, _, h3⟩ := h
  injection e with e1 e2 e3
  subst e1
  obtain ⟨ad, rfl, hc⟩ := h3 (by omega)
  have := World.block_lt_of_cell? _ _ (hc 0 (.bool (l[0])) (by simp [List.getElem?_eq_getElem hp]))
  simp [Value.ownBlock] at hk
  subst hk
  have e : (ad.add 0).block = ad.block := by unfold Addr.add; split <;> rfl
  rw [e] at this
  exact this
theorem RdB.far {w : World} {A : Option Addr} {n c : Nat} {l : List Bool} {F : Nat → Prop} {B : Nat} (h : RdB w (.slice A n c) l) (hB : w.heap.size ≤ B) (hF : ∀ k, F k → B ≤ k) : 0 < l.length → ∀ k, (Value.slice A n c).ownBlock = some k → ¬ F k :=
  fun hp k hk hf => by have := h.lt hp k hk; have := hF k hf; omega
end Go.Proofs.Ytoolkamajlgcbaa
