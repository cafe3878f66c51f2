/-
  The exact law of CutBoth: its walk.
-/
import Derived.Test.YtopmifidhabobaaCut8
import Derived.Outline
namespace Go.Proofs.Ytopmifidhabobaa
open Go.RowKit
set_option linter.unusedVariables false
set_option linter.unusedSimpArgs false

theorem CO_len (us bs : List Int) : (CO us bs).length ≤ 100 := by
  unfold CO
  split
  · next h =>
    have h1 := CB_len h
    have h2 := (pk_bounds (okP_iff.1 h).1).1
    have h3 := (pk_bounds (okP_iff.1 h).2.1).1
    omega
  · simp
set_option maxRecDepth 8000 in
set_option maxHeartbeats 6400000 in
theorem walkExactCutBoth (P0 : Option Addr) (p0 q0 : Nat) (us : List Int) (P1 : Option Addr) (p1 q1 : Nat) (bs : List Int) (w : World) (hr0 : Rd w w.heap.size P0 p0 q0 (us.map I)) (hr1 : Rd w w.heap.size P1 p1 q1 (bs.map I)) :
    Calls Try.prog 11 #[.slice P0 p0 q0, .slice P1 p1 q1] w (RetVal w (.bool true)) := by
  by_cases hbig : 1048576 < p0
  · go_enter Try.func11, Try.ntmps11
    go_wp2_with fail
    go_ret
    exact ⟨rfl, Below.refl _ _⟩
  have hp0 : p0 ≤ 1048576 := by omega
  clear hbig
  by_cases hbig : 1048576 < p1
  · go_enter Try.func11, Try.ntmps11
    go_wp2_with fail
    go_ret
    exact ⟨rfl, Below.refl _ _⟩
  have hp1 : p1 ≤ 1048576 := by omega
  clear hbig
  have hD0 : (CO us bs).length ≤ 100 := by exact CO_len us bs
  obtain ⟨R0, hR0⟩ : ∃ R, R = CO us bs := ⟨_, rfl⟩
  rw [← hR0] at hD0
  have Hzp0 := Lib.hid hr0.ilen
  have Hzp1 := Lib.hid hr1.ilen
  have HR0 := Lib.hid hR0
  clear hR0
  have B0 := Below.refl w.heap.size w
  go_enter Try.func11, Try.ntmps11
  go_wp2_with fail
  refine (toIntS_any P0 p0 q0 us w hr0 hp0).mono ?_
  rintro e w1 ⟨A1, n1, c1, rfl, ho1, hb1⟩
  have s1 := hb1.size
  have B1 := B0.trans (hb1.mono (by omega))
  have o1 := ho1.win
  have hn1 : n1 ≤ 1048576 := by have h := ho1.rd.ilen; have h2 := Hzp0.out; omega
  clear ho1
  clear B0 hb1
  go_wp2_with fail
  refine (toIntS_any P1 p1 q1 bs w1 ((hr1.below B1).more (by omega)) hp1).mono ?_
  rintro e w2 ⟨A2, n2, c2, rfl, ho2, hb2⟩
  have s2 := hb2.size
  have B2 := B1.trans (hb2.mono (by omega))
  have o1 := o1.below hb2 (by omega)
  have o2 := ho2.win
  have hn2 : n2 ≤ 1048576 := by have h := ho2.rd.ilen; have h2 := Hzp1.out; omega
  clear ho2
  clear B1 hb2
  go_wp2_with fail
  refine (specCutBoth_any A1 n1 c1 us A2 n2 c2 bs w2 (o1.rd' (by omega)) (o2.rd' (by omega))).mono ?_
  rintro e w3 ⟨A3r0, n3r0, c3r0, rfl, ho3r0, hb3⟩
  have s3 := hb3.size
  have B3 := B2.trans (hb3.mono (by omega))
  have o1 := o1.below hb3 (by omega)
  have o2 := o2.below hb3 (by omega)
  rw [← HR0.out] at ho3r0
  have o3r0 := ho3r0.win
  have hn3r0 : n3r0 ≤ 100 := by have h := ho3r0.rd.ilen; omega
  clear ho3r0
  clear B2 hb3
  clear o1
  clear o2
  go_wp2_with fail
  refine (toIntS_any P0 p0 q0 us w3 ((hr0.below B3).more (by omega)) hp0).mono ?_
  rintro e w4 ⟨A4, n4, c4, rfl, ho4, hb4⟩
  have s4 := hb4.size
  have B4 := B3.trans (hb4.mono (by omega))
  have o3r0 := o3r0.below hb4 (by omega)
  have o4 := ho4.win
  have hn4 : n4 ≤ 1048576 := by have h := ho4.rd.ilen; have h2 := Hzp0.out; omega
  clear ho4
  clear B3 hb4
  go_wp2_with fail
  refine (toIntS_any P1 p1 q1 bs w4 ((hr1.below B4).more (by omega)) hp1).mono ?_
  rintro e w5 ⟨A5, n5, c5, rfl, ho5, hb5⟩
  have s5 := hb5.size
  have B5 := B4.trans (hb5.mono (by omega))
  have o3r0 := o3r0.below hb5 (by omega)
  have o4 := o4.below hb5 (by omega)
  have o5 := ho5.win
  have hn5 : n5 ≤ 1048576 := by have h := ho5.rd.ilen; have h2 := Hzp1.out; omega
  clear ho5
  clear B4 hb5
  go_wp2_with fail
  refine (implCutBothTop_any A4 n4 c4 us A5 n5 c5 bs w5 (o4.rd' (by omega)) (o5.rd' (by omega))).mono ?_
  rintro e w6 ⟨A6r0, n6r0, c6r0, rfl, ho6r0, hb6⟩
  have s6 := hb6.size
  have B6 := B5.trans (hb6.mono (by omega))
  have o3r0 := o3r0.below hb6 (by omega)
  have o4 := o4.below hb6 (by omega)
  have o5 := o5.below hb6 (by omega)
  rw [← HR0.out] at ho6r0
  have o6r0 := ho6r0.win
  have hn6r0 : n6r0 ≤ 100 := by have h := ho6r0.rd.ilen; omega
  clear ho6r0
  clear B5 hb6
  go_wp2_with fail
  refine (eqIntS_same A6r0 n6r0 c6r0 R0 A3r0 n3r0 c3r0 w6 _ _ o6r0.rd o3r0.rd).mono ?_
  rintro e w7 ⟨rfl, hq7⟩
  have hb7 := hq7.bel w6.heap.size
  have s7 := hb7.size
  have B7 := B6.trans (hb7.mono (by omega))
  have o3r0 := o3r0.below hb7 (by omega)
  have o4 := o4.below hb7 (by omega)
  have o5 := o5.below hb7 (by omega)
  have o6r0 := o6r0.below hb7 (by omega)
  clear B6 hb7 hq7
  go_wp2_with fail
  refine (toIntS_any P0 p0 q0 us w7 ((hr0.below B7).more (by omega)) hp0).mono ?_
  rintro e w8 ⟨A8, n8, c8, rfl, ho8, hb8⟩
  have s8 := hb8.size
  have B8 := B7.trans (hb8.mono (by omega))
  have o3r0 := o3r0.below hb8 (by omega)
  have o4 := o4.below hb8 (by omega)
  have o5 := o5.below hb8 (by omega)
  have o6r0 := o6r0.below hb8 (by omega)
  have o8 := ho8.win
  have hn8 : n8 ≤ 1048576 := by have h := ho8.rd.ilen; have h2 := Hzp0.out; omega
  clear ho8
  clear B7 hb8
  go_wp2_with fail
  refine (eqIntS_same A4 n4 c4 us A8 n8 c8 w8 _ _ o4.rd o8.rd).mono ?_
  rintro e w9 ⟨rfl, hq9⟩
  have hb9 := hq9.bel w8.heap.size
  have s9 := hb9.size
  have B9 := B8.trans (hb9.mono (by omega))
  have o3r0 := o3r0.below hb9 (by omega)
  have o4 := o4.below hb9 (by omega)
  have o5 := o5.below hb9 (by omega)
  have o6r0 := o6r0.below hb9 (by omega)
  have o8 := o8.below hb9 (by omega)
  clear B8 hb9 hq9
  clear o8
  go_wp2_with fail
  refine (toIntS_any P1 p1 q1 bs w9 ((hr1.below B9).more (by omega)) hp1).mono ?_
  rintro e w10 ⟨A10, n10, c10, rfl, ho10, hb10⟩
  have s10 := hb10.size
  have B10 := B9.trans (hb10.mono (by omega))
  have o3r0 := o3r0.below hb10 (by omega)
  have o4 := o4.below hb10 (by omega)
  have o5 := o5.below hb10 (by omega)
  have o6r0 := o6r0.below hb10 (by omega)
  have o10 := ho10.win
  have hn10 : n10 ≤ 1048576 := by have h := ho10.rd.ilen; have h2 := Hzp1.out; omega
  clear ho10
  clear B9 hb10
  go_wp2_with fail
  refine (eqIntS_same A5 n5 c5 bs A10 n10 c10 w10 _ _ o5.rd o10.rd).mono ?_
  rintro e w11 ⟨rfl, hq11⟩
  have hb11 := hq11.bel w10.heap.size
  have s11 := hb11.size
  have B11 := B10.trans (hb11.mono (by omega))
  have o3r0 := o3r0.below hb11 (by omega)
  have o4 := o4.below hb11 (by omega)
  have o5 := o5.below hb11 (by omega)
  have o6r0 := o6r0.below hb11 (by omega)
  have o10 := o10.below hb11 (by omega)
  clear B10 hb11 hq11
  clear o10
  go_wp2_with fail
  refine (markIntS_any A4 n4 c4 us 1 w11 _ _ o4 (by omega) (by omega)).mono ?_
  rintro e w12 ⟨rfl, om12, ht12⟩
  have s12 := ht12.size
  have B12 := B11.trans (ht12.bel (B := w.heap.size) (by omega) (by omega))
  have o3r0 := o3r0.turn ht12 (by omega)
  have o5 := o5.turn ht12 (by omega)
  have o6r0 := o6r0.turn ht12 (by omega)
  have o4 := om12
  clear om12
  clear B11 ht12
  go_wp2_with fail
  refine (markIntS_any A5 n5 c5 bs (1 + (n4 : Int)) w12 _ _ o5 (by omega) (by omega)).mono ?_
  rintro e w13 ⟨rfl, om13, ht13⟩
  have s13 := ht13.size
  have B13 := B12.trans (ht13.bel (B := w.heap.size) (by omega) (by omega))
  have o3r0 := o3r0.turn ht13 (by omega)
  have o4 := o4.turn ht13 (by omega)
  have o6r0 := o6r0.turn ht13 (by omega)
  have o5 := om13
  clear om13
  clear B12 ht13
  clear o4
  clear o5
  have k0 : ¬ (1 + (n4 : Int) + (n5 : Int) < 0) := by omega
  go_wp2_with fail
  refine (eqIntS_same A6r0 n6r0 c6r0 R0 A3r0 n3r0 c3r0 w13 _ _ o6r0.rd o3r0.rd).mono ?_
  rintro e w14 ⟨rfl, hq14⟩
  have hb14 := hq14.bel w13.heap.size
  have s14 := hb14.size
  have B14 := B13.trans (hb14.mono (by omega))
  have o3r0 := o3r0.below hb14 (by omega)
  have o6r0 := o6r0.below hb14 (by omega)
  clear B13 hb14 hq14
  go_wp2_with fail
  refine (markIntS_any A6r0 n6r0 c6r0 R0 1 w14 _ _ o6r0 (by omega) (by omega)).mono ?_
  rintro e w15 ⟨rfl, om15, ht15⟩
  have s15 := ht15.size
  have B15 := B14.trans (ht15.bel (B := w.heap.size) (by omega) (by omega))
  have o3r0 := o3r0.turn ht15 (by omega)
  have o6r0 := om15
  clear om15
  clear B14 ht15
  have k2 : ((1 + (n6r0 : Int)) != (1 + (n6r0 : Int))) = false := by simp
  go_wp2_with fail
  refine (heldIntS_any A6r0 n6r0 c6r0 1 w15 _ o6r0.rd (by omega) (by omega)).mono ?_
  rintro e w16 ⟨rfl, hq16⟩
  have hb16 := hq16.bel w15.heap.size
  have s16 := hb16.size
  have B16 := B15.trans (hb16.mono (by omega))
  have o3r0 := o3r0.below hb16 (by omega)
  have o6r0 := o6r0.below hb16 (by omega)
  clear B15 hb16 hq16
  have k6r016 : ¬ (1 + (n6r0 : Int) < 0) := by omega
  go_wp2_with fail
  refine (toIntS_any P0 p0 q0 us w16 ((hr0.below B16).more (by omega)) hp0).mono ?_
  rintro e w17 ⟨A17, n17, c17, rfl, ho17, hb17⟩
  have s17 := hb17.size
  have B17 := B16.trans (hb17.mono (by omega))
  have o3r0 := o3r0.below hb17 (by omega)
  have o6r0 := o6r0.below hb17 (by omega)
  have o17 := ho17.win
  have hn17 : n17 ≤ 1048576 := by have h := ho17.rd.ilen; have h2 := Hzp0.out; omega
  clear ho17
  clear B16 hb17
  go_wp2_with fail
  refine (toIntS_any P1 p1 q1 bs w17 ((hr1.below B17).more (by omega)) hp1).mono ?_
  rintro e w18 ⟨A18, n18, c18, rfl, ho18, hb18⟩
  have s18 := hb18.size
  have B18 := B17.trans (hb18.mono (by omega))
  have o3r0 := o3r0.below hb18 (by omega)
  have o6r0 := o6r0.below hb18 (by omega)
  have o17 := o17.below hb18 (by omega)
  have o18 := ho18.win
  have hn18 : n18 ≤ 1048576 := by have h := ho18.rd.ilen; have h2 := Hzp1.out; omega
  clear ho18
  clear B17 hb18
  go_wp2_with fail
  refine (implCutBothTop_any A17 n17 c17 us A18 n18 c18 bs w18 (o17.rd' (by omega)) (o18.rd' (by omega))).mono ?_
  rintro e w19 ⟨A19r0, n19r0, c19r0, rfl, ho19r0, hb19⟩
  have s19 := hb19.size
  have B19 := B18.trans (hb19.mono (by omega))
  have o3r0 := o3r0.below hb19 (by omega)
  have o6r0 := o6r0.below hb19 (by omega)
  have o17 := o17.below hb19 (by omega)
  have o18 := o18.below hb19 (by omega)
  rw [← HR0.out] at ho19r0
  have o19r0 := ho19r0.win
  have hn19r0 : n19r0 ≤ 100 := by have h := ho19r0.rd.ilen; omega
  clear ho19r0
  clear B18 hb19
  clear o17
  clear o18
  go_wp2_with fail
  refine (eqIntS_same A19r0 n19r0 c19r0 R0 A3r0 n3r0 c3r0 w19 _ _ o19r0.rd o3r0.rd).mono ?_
  rintro e w20 ⟨rfl, hq20⟩
  have hb20 := hq20.bel w19.heap.size
  have s20 := hb20.size
  have B20 := B19.trans (hb20.mono (by omega))
  have o3r0 := o3r0.below hb20 (by omega)
  have o6r0 := o6r0.below hb20 (by omega)
  have o19r0 := o19r0.below hb20 (by omega)
  clear B19 hb20 hq20
  clear o19r0
  clear o3r0
  go_wp2_with fail
  refine (heldIntS_any A6r0 n6r0 c6r0 1 w20 _ o6r0.rd (by omega) (by omega)).mono ?_
  rintro e w21 ⟨rfl, hq21⟩
  have hb21 := hq21.bel w20.heap.size
  have s21 := hb21.size
  have B21 := B20.trans (hb21.mono (by omega))
  have o6r0 := o6r0.below hb21 (by omega)
  clear B20 hb21 hq21
  have k6r021 : ¬ (1 + (n6r0 : Int) < 0) := by omega
  go_wp2_with fail
  go_ret
  exact ⟨rfl, B21⟩
end Go.Proofs.Ytopmifidhabobaa
