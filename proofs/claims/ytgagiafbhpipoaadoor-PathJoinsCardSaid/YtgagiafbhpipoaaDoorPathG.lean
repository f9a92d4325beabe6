/- The walk of PathAbove (written by gen_path.py). -/
import Derived.Test.YtgagiafbhpipoaaDoorPathF
set_option linter.unusedVariables false
set_option linter.unusedSimpArgs false
namespace Go.Proofs.YtgagiafbhpipoaaDoor
open Go.RowKit

theorem rds3 (w : World) (a b c : ByteArray) : RdS (w.alloc (.cells #[.string a, .string b, .string c] 9)) (.slice (some ⟨w.heap.size, 0, none⟩) 3 3) [a, b, c] :=
  ⟨some ⟨w.heap.size, 0, none⟩, 3, rfl, by simp, by decide, fun _ => ⟨_, _, rfl, fun j h => by
    rw [World.cell?_alloc_new]
    match j, h with
    | 0, _ => rfl
    | 1, _ => rfl
    | 2, _ => rfl⟩⟩
theorem rds2 (w : World) (a b : ByteArray) : RdS (w.alloc (.cells #[.string a, .string b] 9)) (.slice (some ⟨w.heap.size, 0, none⟩) 2 2) [a, b] :=
  ⟨some ⟨w.heap.size, 0, none⟩, 2, rfl, by simp, by decide, fun _ => ⟨_, _, rfl, fun j h => by
    rw [World.cell?_alloc_new]
    match j, h with
    | 0, _ => rfl
    | 1, _ => rfl⟩⟩
theorem rds1 (w : World) (a : ByteArray) : RdS (w.alloc (.cells #[.string a] 9)) (.slice (some ⟨w.heap.size, 0, none⟩) 1 1) [a] :=
  ⟨some ⟨w.heap.size, 0, none⟩, 1, rfl, by simp, by decide, fun _ => ⟨_, _, rfl, fun j h => by
    rw [World.cell?_alloc_new]
    match j, h with
    | 0, _ => rfl⟩⟩
theorem covers_selfB (a : ByteArray) : coversB (dat a) (dat a) = placeB (dat a) := covers_self _
theorem covers_nilB (a : ByteArray) : coversB (dat ⟨#[]⟩) (dat a) = placeB (dat a) := covers_nil _

set_option maxHeartbeats 3200000 in
theorem pathAbove_walk (w : World) (a : ByteArray) (_ha : a.size ≤ 140737488351232) (b : ByteArray) (_hb : b.size ≤ 140737488351232) (c : ByteArray) (_hc : c.size ≤ 140737488351232) :
    Calls Tryd.prog 5 #[.string a, .string b, .string c] w fun e w' => e = .returned (.bool true) ∧ Below w.heap.size w w' := by
  have B0 : Hid (Below w.heap.size w (w.alloc (.cells #[.string a, .string b, .string c] 9))) := (Below.refl _ w).alloc (Nat.le_refl _) _
  go_enter Tryd.func5, Tryd.ntmps5
  go_wp2_with fail
  refine (short_any _ _ _ (rds3 _ a b c) (by simp)).mono ?_
  rintro e w0 ⟨b0, rfl, _, rfl⟩
  cases b0 with
  | false =>
    go_wp2_with fail
    refine (lives5 _).mono ?_
    rintro e w1 ⟨rfl, b1⟩
    have B1 : Hid (Below w.heap.size w w1) := B0.out.trans (b1.mono B0.out.size)
    clear b1
    go_wp2
    go_ret
    exact ⟨rfl, B1.out⟩
  | true =>
    go_wp2_with fail
    refine (covers_any _ _ _).mono ?_
    rintro e w2 ⟨rfl, b2⟩
    have B2 : Hid (Below w.heap.size w w2) := B0.out.trans (b2.mono B0.out.size)
    clear b2
    cases h1 : coversB (dat a) (dat b) with
    | false =>
      have H1 := Lib.hid h1
      clear h1
      go_wp2_with fail
      refine (covers_any _ _ _).mono ?_
      rintro e w3 ⟨rfl, b3⟩
      have B3 : Hid (Below w.heap.size w w3) := B2.out.trans (b3.mono B2.out.size)
      clear b3
      rw [show coversB (dat a) (dat b) = false from H1.out]
      go_wp2_with fail
      refine (covers_any _ _ _).mono ?_
      rintro e w4 ⟨rfl, b4⟩
      have B4 : Hid (Below w.heap.size w w4) := B3.out.trans (b4.mono B3.out.size)
      clear b4
      rw [covers_nilB]
      cases h2 : placeB (dat a) with
      | false =>
        have H2 := Lib.hid h2
        clear h2
        go_wp2_with fail
        refine (place_any _ _).mono ?_
        rintro e w5 ⟨rfl, b5⟩
        have B5 : Hid (Below w.heap.size w w5) := B4.out.trans (b5.mono B4.out.size)
        clear b5
        rw [show placeB (dat a) = false from H2.out]
        go_wp2_with fail
        refine (covers_any _ _ _).mono ?_
        rintro e w6 ⟨rfl, b6⟩
        have B6 : Hid (Below w.heap.size w w6) := B5.out.trans (b6.mono B5.out.size)
        clear b6
        rw [covers_selfB]
        rw [show placeB (dat a) = false from H2.out]
        go_wp2_with fail
        refine (place_any _ _).mono ?_
        rintro e w7 ⟨rfl, b7⟩
        have B7 : Hid (Below w.heap.size w w7) := B6.out.trans (b7.mono B6.out.size)
        clear b7
        rw [show placeB (dat a) = false from H2.out]
        go_wp2_with fail
        refine (lives5 _).mono ?_
        rintro e w8 ⟨rfl, b8⟩
        have B8 : Hid (Below w.heap.size w w8) := B7.out.trans (b8.mono B7.out.size)
        clear b8
        go_wp2
        go_ret
        exact ⟨rfl, B8.out⟩
      | true =>
        have H2 := Lib.hid h2
        clear h2
        go_wp2_with fail
        refine (place_any _ _).mono ?_
        rintro e w9 ⟨rfl, b9⟩
        have B9 : Hid (Below w.heap.size w w9) := B4.out.trans (b9.mono B4.out.size)
        clear b9
        rw [show placeB (dat a) = true from H2.out]
        go_wp2_with fail
        refine (covers_any _ _ _).mono ?_
        rintro e w10 ⟨rfl, b10⟩
        have B10 : Hid (Below w.heap.size w w10) := B9.out.trans (b10.mono B9.out.size)
        clear b10
        rw [covers_selfB]
        rw [show placeB (dat a) = true from H2.out]
        go_wp2_with fail
        refine (place_any _ _).mono ?_
        rintro e w11 ⟨rfl, b11⟩
        have B11 : Hid (Below w.heap.size w w11) := B10.out.trans (b11.mono B10.out.size)
        clear b11
        rw [show placeB (dat a) = true from H2.out]
        go_wp2_with fail
        refine (lives5 _).mono ?_
        rintro e w12 ⟨rfl, b12⟩
        have B12 : Hid (Below w.heap.size w w12) := B11.out.trans (b12.mono B11.out.size)
        clear b12
        go_wp2
        go_ret
        exact ⟨rfl, B12.out⟩
    | true =>
      have H1 := Lib.hid h1
      clear h1
      go_wp2_with fail
      refine (covers_any _ _ _).mono ?_
      rintro e w13 ⟨rfl, b13⟩
      have B13 : Hid (Below w.heap.size w w13) := B2.out.trans (b13.mono B2.out.size)
      clear b13
      cases h3 : coversB (dat b) (dat c) with
      | false =>
        have H3 := Lib.hid h3
        clear h3
        go_wp2_with fail
        refine (covers_any _ _ _).mono ?_
        rintro e w14 ⟨rfl, b14⟩
        have B14 : Hid (Below w.heap.size w w14) := B13.out.trans (b14.mono B13.out.size)
        clear b14
        rw [show coversB (dat a) (dat b) = true from H1.out]
        go_wp2_with fail
        refine (covers_any _ _ _).mono ?_
        rintro e w15 ⟨rfl, b15⟩
        have B15 : Hid (Below w.heap.size w w15) := B14.out.trans (b15.mono B14.out.size)
        clear b15
        cases h4 : coversB (dat b) (dat a) with
        | false =>
          have H4 := Lib.hid h4
          clear h4
          go_wp2_with fail
          refine (covers_any _ _ _).mono ?_
          rintro e w16 ⟨rfl, b16⟩
          have B16 : Hid (Below w.heap.size w w16) := B15.out.trans (b16.mono B15.out.size)
          clear b16
          rw [covers_nilB]
          cases h5 : placeB (dat a) with
          | false =>
            have H5 := Lib.hid h5
            clear h5
            go_wp2_with fail
            refine (place_any _ _).mono ?_
            rintro e w17 ⟨rfl, b17⟩
            have B17 : Hid (Below w.heap.size w w17) := B16.out.trans (b17.mono B16.out.size)
            clear b17
            rw [show placeB (dat a) = false from H5.out]
            go_wp2_with fail
            refine (covers_any _ _ _).mono ?_
            rintro e w18 ⟨rfl, b18⟩
            have B18 : Hid (Below w.heap.size w w18) := B17.out.trans (b18.mono B17.out.size)
            clear b18
            rw [covers_selfB]
            rw [show placeB (dat a) = false from H5.out]
            go_wp2_with fail
            refine (place_any _ _).mono ?_
            rintro e w19 ⟨rfl, b19⟩
            have B19 : Hid (Below w.heap.size w w19) := B18.out.trans (b19.mono B18.out.size)
            clear b19
            rw [show placeB (dat a) = false from H5.out]
            go_wp2_with fail
            refine (lives5 _).mono ?_
            rintro e w20 ⟨rfl, b20⟩
            have B20 : Hid (Below w.heap.size w w20) := B19.out.trans (b20.mono B19.out.size)
            clear b20
            go_wp2
            go_ret
            exact ⟨rfl, B20.out⟩
          | true =>
            have H5 := Lib.hid h5
            clear h5
            go_wp2_with fail
            refine (place_any _ _).mono ?_
            rintro e w21 ⟨rfl, b21⟩
            have B21 : Hid (Below w.heap.size w w21) := B16.out.trans (b21.mono B16.out.size)
            clear b21
            rw [show placeB (dat a) = true from H5.out]
            go_wp2_with fail
            refine (covers_any _ _ _).mono ?_
            rintro e w22 ⟨rfl, b22⟩
            have B22 : Hid (Below w.heap.size w w22) := B21.out.trans (b22.mono B21.out.size)
            clear b22
            rw [covers_selfB]
            rw [show placeB (dat a) = true from H5.out]
            go_wp2_with fail
            refine (place_any _ _).mono ?_
            rintro e w23 ⟨rfl, b23⟩
            have B23 : Hid (Below w.heap.size w w23) := B22.out.trans (b23.mono B22.out.size)
            clear b23
            rw [show placeB (dat a) = true from H5.out]
            go_wp2_with fail
            refine (lives5 _).mono ?_
            rintro e w24 ⟨rfl, b24⟩
            have B24 : Hid (Below w.heap.size w w24) := B23.out.trans (b24.mono B23.out.size)
            clear b24
            go_wp2
            go_ret
            exact ⟨rfl, B24.out⟩
        | true =>
          have H4 := Lib.hid h4
          clear h4
          have hab : a = b := dat_inj (covers_anti H1.out H4.out)
          subst hab
          go_wp2_with fail
          refine (covers_any _ _ _).mono ?_
          rintro e w25 ⟨rfl, b25⟩
          have B25 : Hid (Below w.heap.size w w25) := B15.out.trans (b25.mono B15.out.size)
          clear b25
          rw [covers_nilB]
          cases h6 : placeB (dat a) with
          | false =>
            have H6 := Lib.hid h6
            clear h6
            go_wp2_with fail
            refine (place_any _ _).mono ?_
            rintro e w26 ⟨rfl, b26⟩
            have B26 : Hid (Below w.heap.size w w26) := B25.out.trans (b26.mono B25.out.size)
            clear b26
            rw [show placeB (dat a) = false from H6.out]
            go_wp2_with fail
            refine (covers_any _ _ _).mono ?_
            rintro e w27 ⟨rfl, b27⟩
            have B27 : Hid (Below w.heap.size w w27) := B26.out.trans (b27.mono B26.out.size)
            clear b27
            rw [covers_selfB]
            rw [show placeB (dat a) = false from H6.out]
            go_wp2_with fail
            refine (place_any _ _).mono ?_
            rintro e w28 ⟨rfl, b28⟩
            have B28 : Hid (Below w.heap.size w w28) := B27.out.trans (b28.mono B27.out.size)
            clear b28
            rw [show placeB (dat a) = false from H6.out]
            go_wp2_with fail
            refine (lives5 _).mono ?_
            rintro e w29 ⟨rfl, b29⟩
            have B29 : Hid (Below w.heap.size w w29) := B28.out.trans (b29.mono B28.out.size)
            clear b29
            go_wp2
            go_ret
            exact ⟨rfl, B29.out⟩
          | true =>
            have H6 := Lib.hid h6
            clear h6
            go_wp2_with fail
            refine (place_any _ _).mono ?_
            rintro e w30 ⟨rfl, b30⟩
            have B30 : Hid (Below w.heap.size w w30) := B25.out.trans (b30.mono B25.out.size)
            clear b30
            rw [show placeB (dat a) = true from H6.out]
            go_wp2_with fail
            refine (covers_any _ _ _).mono ?_
            rintro e w31 ⟨rfl, b31⟩
            have B31 : Hid (Below w.heap.size w w31) := B30.out.trans (b31.mono B30.out.size)
            clear b31
            rw [covers_selfB]
            rw [show placeB (dat a) = true from H6.out]
            go_wp2_with fail
            refine (place_any _ _).mono ?_
            rintro e w32 ⟨rfl, b32⟩
            have B32 : Hid (Below w.heap.size w w32) := B31.out.trans (b32.mono B31.out.size)
            clear b32
            rw [show placeB (dat a) = true from H6.out]
            go_wp2_with fail
            refine (lives5 _).mono ?_
            rintro e w33 ⟨rfl, b33⟩
            have B33 : Hid (Below w.heap.size w w33) := B32.out.trans (b33.mono B32.out.size)
            clear b33
            go_wp2
            go_ret
            exact ⟨rfl, B33.out⟩
      | true =>
        have H3 := Lib.hid h3
        clear h3
        have H7 : Hid (coversB (dat a) (dat c) = true) := covers_trans H1.out H3.out
        go_wp2_with fail
        refine (covers_any _ _ _).mono ?_
        rintro e w34 ⟨rfl, b34⟩
        have B34 : Hid (Below w.heap.size w w34) := B13.out.trans (b34.mono B13.out.size)
        clear b34
        rw [show coversB (dat a) (dat c) = true from H7.out]
        go_wp2_with fail
        refine (covers_any _ _ _).mono ?_
        rintro e w35 ⟨rfl, b35⟩
        have B35 : Hid (Below w.heap.size w w35) := B34.out.trans (b35.mono B34.out.size)
        clear b35
        rw [show coversB (dat a) (dat b) = true from H1.out]
        go_wp2_with fail
        refine (covers_any _ _ _).mono ?_
        rintro e w36 ⟨rfl, b36⟩
        have B36 : Hid (Below w.heap.size w w36) := B35.out.trans (b36.mono B35.out.size)
        clear b36
        cases h8 : coversB (dat b) (dat a) with
        | false =>
          have H8 := Lib.hid h8
          clear h8
          go_wp2_with fail
          refine (covers_any _ _ _).mono ?_
          rintro e w37 ⟨rfl, b37⟩
          have B37 : Hid (Below w.heap.size w w37) := B36.out.trans (b37.mono B36.out.size)
          clear b37
          rw [covers_nilB]
          cases h9 : placeB (dat a) with
          | false =>
            have H9 := Lib.hid h9
            clear h9
            go_wp2_with fail
            refine (place_any _ _).mono ?_
            rintro e w38 ⟨rfl, b38⟩
            have B38 : Hid (Below w.heap.size w w38) := B37.out.trans (b38.mono B37.out.size)
            clear b38
            rw [show placeB (dat a) = false from H9.out]
            go_wp2_with fail
            refine (covers_any _ _ _).mono ?_
            rintro e w39 ⟨rfl, b39⟩
            have B39 : Hid (Below w.heap.size w w39) := B38.out.trans (b39.mono B38.out.size)
            clear b39
            rw [covers_selfB]
            rw [show placeB (dat a) = false from H9.out]
            go_wp2_with fail
            refine (place_any _ _).mono ?_
            rintro e w40 ⟨rfl, b40⟩
            have B40 : Hid (Below w.heap.size w w40) := B39.out.trans (b40.mono B39.out.size)
            clear b40
            rw [show placeB (dat a) = false from H9.out]
            go_wp2_with fail
            refine (lives5 _).mono ?_
            rintro e w41 ⟨rfl, b41⟩
            have B41 : Hid (Below w.heap.size w w41) := B40.out.trans (b41.mono B40.out.size)
            clear b41
            go_wp2
            go_ret
            exact ⟨rfl, B41.out⟩
          | true =>
            have H9 := Lib.hid h9
            clear h9
            go_wp2_with fail
            refine (place_any _ _).mono ?_
            rintro e w42 ⟨rfl, b42⟩
            have B42 : Hid (Below w.heap.size w w42) := B37.out.trans (b42.mono B37.out.size)
            clear b42
            rw [show placeB (dat a) = true from H9.out]
            go_wp2_with fail
            refine (covers_any _ _ _).mono ?_
            rintro e w43 ⟨rfl, b43⟩
            have B43 : Hid (Below w.heap.size w w43) := B42.out.trans (b43.mono B42.out.size)
            clear b43
            rw [covers_selfB]
            rw [show placeB (dat a) = true from H9.out]
            go_wp2_with fail
            refine (place_any _ _).mono ?_
            rintro e w44 ⟨rfl, b44⟩
            have B44 : Hid (Below w.heap.size w w44) := B43.out.trans (b44.mono B43.out.size)
            clear b44
            rw [show placeB (dat a) = true from H9.out]
            go_wp2_with fail
            refine (lives5 _).mono ?_
            rintro e w45 ⟨rfl, b45⟩
            have B45 : Hid (Below w.heap.size w w45) := B44.out.trans (b45.mono B44.out.size)
            clear b45
            go_wp2
            go_ret
            exact ⟨rfl, B45.out⟩
        | true =>
          have H8 := Lib.hid h8
          clear h8
          have hab : a = b := dat_inj (covers_anti H1.out H8.out)
          subst hab
          go_wp2_with fail
          refine (covers_any _ _ _).mono ?_
          rintro e w46 ⟨rfl, b46⟩
          have B46 : Hid (Below w.heap.size w w46) := B36.out.trans (b46.mono B36.out.size)
          clear b46
          rw [covers_nilB]
          cases h10 : placeB (dat a) with
          | false =>
            have H10 := Lib.hid h10
            clear h10
            go_wp2_with fail
            refine (place_any _ _).mono ?_
            rintro e w47 ⟨rfl, b47⟩
            have B47 : Hid (Below w.heap.size w w47) := B46.out.trans (b47.mono B46.out.size)
            clear b47
            rw [show placeB (dat a) = false from H10.out]
            go_wp2_with fail
            refine (covers_any _ _ _).mono ?_
            rintro e w48 ⟨rfl, b48⟩
            have B48 : Hid (Below w.heap.size w w48) := B47.out.trans (b48.mono B47.out.size)
            clear b48
            rw [covers_selfB]
            rw [show placeB (dat a) = false from H10.out]
            go_wp2_with fail
            refine (place_any _ _).mono ?_
            rintro e w49 ⟨rfl, b49⟩
            have B49 : Hid (Below w.heap.size w w49) := B48.out.trans (b49.mono B48.out.size)
            clear b49
            rw [show placeB (dat a) = false from H10.out]
            go_wp2_with fail
            refine (lives5 _).mono ?_
            rintro e w50 ⟨rfl, b50⟩
            have B50 : Hid (Below w.heap.size w w50) := B49.out.trans (b50.mono B49.out.size)
            clear b50
            go_wp2
            go_ret
            exact ⟨rfl, B50.out⟩
          | true =>
            have H10 := Lib.hid h10
            clear h10
            go_wp2_with fail
            refine (place_any _ _).mono ?_
            rintro e w51 ⟨rfl, b51⟩
            have B51 : Hid (Below w.heap.size w w51) := B46.out.trans (b51.mono B46.out.size)
            clear b51
            rw [show placeB (dat a) = true from H10.out]
            go_wp2_with fail
            refine (covers_any _ _ _).mono ?_
            rintro e w52 ⟨rfl, b52⟩
            have B52 : Hid (Below w.heap.size w w52) := B51.out.trans (b52.mono B51.out.size)
            clear b52
            rw [covers_selfB]
            rw [show placeB (dat a) = true from H10.out]
            go_wp2_with fail
            refine (place_any _ _).mono ?_
            rintro e w53 ⟨rfl, b53⟩
            have B53 : Hid (Below w.heap.size w w53) := B52.out.trans (b53.mono B52.out.size)
            clear b53
            rw [show placeB (dat a) = true from H10.out]
            go_wp2_with fail
            refine (lives5 _).mono ?_
            rintro e w54 ⟨rfl, b54⟩
            have B54 : Hid (Below w.heap.size w w54) := B53.out.trans (b54.mono B53.out.size)
            clear b54
            go_wp2
            go_ret
            exact ⟨rfl, B54.out⟩
end Go.Proofs.YtgagiafbhpipoaaDoor
