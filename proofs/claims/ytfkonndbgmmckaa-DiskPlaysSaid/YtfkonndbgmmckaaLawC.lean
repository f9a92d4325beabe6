/- LawC: steps that are read; the walks of light, all and made. -/
import Derived.Test.YtfkonndbgmmckaaLawB
import Derived.Test.YtfkonndbgmmckaaReg
set_option linter.unusedVariables false
set_option linter.unusedSimpArgs false
namespace Go.Proofs.Ytfkonndbgmmckaa
open Go.RowKit

/-- A step: its numbers, its byte, its picks, and where these lie. -/
structure OpV where
  kind : Int
  at_ : Int
  long : Int
  fill : UInt8
  pA : Option Addr
  pc : Nat
  picks : List Bool
def OpV.pv (o : OpV) : Value := .slice o.pA o.picks.length o.pc
/-- The steps l lie at b, from off on; their picks are read. -/
def OpsAt (w : World) (b off : Nat) (l : List OpV) : Prop :=
  ∀ i (h : i < l.length), w.cell? ⟨b, off + i * 5, none⟩ = some (.int .i64 l[i].kind) ∧ w.cell? ⟨b, off + i * 5 + 1, none⟩ = some (.int .i64 l[i].at_) ∧ w.cell? ⟨b, off + i * 5 + 2, none⟩ = some (.int .i64 l[i].long) ∧
    w.cell? ⟨b, off + i * 5 + 3, none⟩ = some (.int .u8 (l[i].fill.toNat : Int)) ∧ w.cell? ⟨b, off + i * 5 + 4, none⟩ = some l[i].pv ∧ RdB w l[i].pv l[i].picks
def RdOps (w : World) (v : Value) (l : List OpV) : Prop :=
  ∃ A c, v = .slice A l.length c ∧ l.length ≤ c ∧ c ≤ 9223372036854775807 ∧ (0 < l.length → ∃ b off, A = some ⟨b, off, none⟩ ∧ OpsAt w b off l)
theorem OpsAt.below {w w' : World} {b off : Nat} {l : List OpV} (h : OpsAt w b off l) (hb : Below w.heap.size w w') : OpsAt w' b off l := fun i hi => by
  obtain ⟨a, b, c, d, e, f⟩ := h i hi
  exact ⟨cell_below hb a, cell_below hb b, cell_below hb c, cell_below hb d, cell_below hb e, Rd.below f hb⟩
theorem RdOps.below {w w' : World} {v : Value} {l : List OpV} (h : RdOps w v l) (hb : Below w.heap.size w w') : RdOps w' v l := by
  obtain ⟨A, c, rfl, h1, h2, h3⟩ := h
  exact ⟨A, c, rfl, h1, h2, fun hp => by obtain ⟨b, off, e, ho⟩ := h3 hp; exact ⟨b, off, e, ho.below hb⟩⟩
theorem RdB.lt {w : World} {A : Option Addr} {n c : Nat} {l : List Bool} (h : RdB w (.slice A n c) l) (hp : 0 < l.length) : ∀ k, (Value.slice A n c).ownBlock = some k → k < w.heap.size := by
  intro k hk
  obtain ⟨_, A', c', e, _, _, h3⟩ := h
  injection e with e1 e2 e3
  subst e1
  obtain ⟨ad, rfl, hc⟩ := h3 (by omega)
  have := World.block_lt_of_cell? _ _ (hc 0 (.bool (l[0])) (by simp [List.getElem?_eq_getElem hp]))
  simp [Value.ownBlock] at hk
  subst hk
  have e : (ad.add 0).block = ad.block := by unfold Addr.add; split <;> rfl
  rw [e] at this
  exact this
theorem RdB.far {w : World} {A : Option Addr} {n c : Nat} {l : List Bool} {F : Nat → Prop} {B : Nat} (h : RdB w (.slice A n c) l) (hB : w.heap.size ≤ B) (hF : ∀ k, F k → B ≤ k) : 0 < l.length → ∀ k, (Value.slice A n c).ownBlock = some k → ¬ F k :=
  fun hp k hk hf => by have := h.lt hp k hk; have := hF k hf; omega

theorem light_any (w : World) (o : OpV) : Calls Try.prog 25 #[.agg #[.int .i64 o.kind, .int .i64 o.at_, .int .i64 o.long, .int .u8 o.fill.toNat, .slice o.pA o.picks.length o.pc]] w fun e w' => e = .returned (.bool (decide (o.picks.length ≤ 300))) ∧ Below w.heap.size w w' := by
  go_enter Try.func25, Try.ntmps25
  go_wp2
  go_ret
  have e : decide ((o.picks.length : Int) ≤ 300) = decide (o.picks.length ≤ 300) := by congr 1; simp; omega
  exact ⟨by first | rfl | (rw [← e]; rfl), (Below.refl _ w).alloc (Nat.le_refl _) _⟩

theorem light_all (w : World) (k a l : Int) (f : UInt8) (A : Option Addr) (pn pc : Nat) : Calls Try.prog 25 #[.agg #[.int .i64 k, .int .i64 a, .int .i64 l, .int .u8 f.toNat, .slice A pn pc]] w fun e w' => e = .returned (.bool (decide (pn ≤ 300))) ∧ Below w.heap.size w w' := by
  go_enter Try.func25, Try.ntmps25
  go_wp2
  go_ret
  have e : decide ((pn : Int) ≤ 300) = decide (pn ≤ 300) := by congr 1; simp; omega
  exact ⟨by first | rfl | (rw [← e]; rfl), (Below.refl _ w).alloc (Nat.le_refl _) _⟩

/-- What each sector has. -/
def Dk.all (d : Dk) : List ByteArray := (List.range d.l.length).map fun (i : Nat) => (d.read (i : Int)).1
theorem all_snoc (d : Dk) (k : Nat) : (List.range (k + 1)).map (fun (i : Nat) => (d.read (i : Int)).1) = (List.range k).map (fun (i : Nat) => (d.read (i : Int)).1) ++ [(d.read (k : Int)).1] := by
  rw [List.range_succ, List.map_append]; rfl

set_option maxHeartbeats 800000 in
set_option maxRecDepth 100000 in
theorem all_any {w : World} {F : Nat → Prop} {g : Nat} {d : Dk} (h : HasDisk w F g d) (hm : d.waits.length < 9223372036854775807) :
    Calls Try.prog 12 #[.pointer (some ⟨g, 0, none⟩)] w fun e w' => ∃ v, e = .returned v ∧ w'.ownsRow w.heap.size 9 1 v d.l.length (strs d.all) ∧ Below w.heap.size w w' := by
  obtain ⟨i0, hi, hz0, hz1, hz2⟩ := info_parts infoS
  have hlen := h.ok.most
  have H := Lib.hid h
  clear h
  go_enter Try.func12, Try.ntmps12
  go_wp2_with fail
  go_loopw [3, 4, 7] (fun v i i2 wr => ∃ k : Nat, k ≤ d.l.length ∧ i = .int .i64 k ∧ Hid (wr.ownsRow w.heap.size 9 1 v k (strs ((List.range k).map fun (i : Nat) => (d.read (i : Int)).1))) ∧ Hid (Below w.heap.size w wr)) (fun _ i _ _ => d.l.length - (intOf i).toNat)
  case atStart => exact ⟨0, Nat.zero_le _, rfl, World.ownsRow_nil _ _ _ _, Below.refl _ _⟩
  case round =>
    obtain ⟨k, hk, rfl, ho, hb⟩ := hrel
    have HD : Hid (HasDisk wr F g d) := H.out.keep (S := fun k => w.heap.size ≤ k) (Below.touch hb.out (fun k a _ => a)) (fun k hf hs => by have := H.out.lt k hf; omega)
    by_cases hlt : k < d.l.length
    · go_wp2_with fail
      refine (size_h HD.out).mono ?_
      rintro e w' ⟨rfl, rfl⟩
      go_wp2_with fail
      refine (read_h HD.out k hm).mono ?_
      rintro e w1 ⟨rfl, b1⟩
      have hb1 : Hid (Below w.heap.size w w1) := hb.out.trans (b1.mono hb.out.size)
      have ho1 := ho.out.kept (w' := w1) (row := none) ⟨b1.os, b1.tape, b1.output, b1.size, fun j hj _ => b1.block j hj⟩ (by
        cases hv : u3.ownBlock with
        | none => exact .inl rfl
        | some k => exact .inr (by simp))
      have hsz : w.heap.size ≤ w1.heap.size := hb1.out.size
      obtain ⟨z, hz⟩ : ∃ z, z = (d.read (k : Int)).1 := ⟨_, rfl⟩
      rw [← hz]
      have HZ := Lib.hid hz
      have hl : (List.map (fun (i : Nat) => (d.read (i : Int)).1) (List.range k)).length = k := by simp
      clear b1 hz
      go_wp2_with (at_builtin; refine wpList_append_own_at _ rfl (.tmp 19) (.tmp 21) 29 rfl w.heap.size 9 i0 _ 1 16 Try.underlying29 hi hz0 hz1 hz2 rfl (by decide) u3 k _ rfl (ho1.alloc _) ⟨w1.heap.size, 0, none⟩ 1 1 [.string z] rfl rfl ?c1 ?c2 (by unfold maxLen; omega) (by omega) (by simp; omega) ?_)
      case c1 =>
        intro j u hj
        match j, hj with
        | 0, hj => simp at hj; subst hj; simp [Addr.add]
      case c2 => intro u hu; simp at hu; subst hu; rfl
      intro v2 w2 ho2 hg2 _ _
      have hb2 : Hid (Below w.heap.size w w2) := (hb1.out.alloc (by omega) _).grown hg2 (by simp; omega) (fun j hj => (ho1.lt j hj).1)
      have HO2 := Lib.hid ho2
      clear ho2 hg2 ho1
      go_wp2
      go_roundw
      case rel =>
        refine ⟨k + 1, by omega, by go_num, ?_, hb2⟩
        have e : strs ((List.range (k + 1)).map fun (i : Nat) => (d.read (i : Int)).1) = strs ((List.range k).map fun (i : Nat) => (d.read (i : Int)).1) ++ [.string z] := by rw [all_snoc, HZ.out]; simp [strs]
        rw [e]
        exact HO2
      case measure => simp [intOf]; omega
    · obtain rfl : k = d.l.length := by omega
      go_wp2_with fail
      refine (size_h HD.out).mono ?_
      rintro e w' ⟨rfl, rfl⟩
      go_wp2
      go_ret
      exact ⟨_, rfl, ho.out, hb.out⟩
end Go.Proofs.Ytfkonndbgmmckaa
