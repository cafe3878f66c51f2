/-
  The exact law of OrderBoth: its walk.
-/
import Derived.Test.YtopmifidhabobaaOB2
import Derived.Outline
namespace Go.Proofs.Ytopmifidhabobaa
open Go.RowKit
set_option linter.unusedVariables false
set_option linter.unusedSimpArgs false

theorem OB_len (us bs L : List Int) : (OB us bs L).1.length ≤ 100 ∧ (OB us bs L).2.1.length ≤ 100 := by
  unfold OB
  split
  · next hok =>
    have h1 := (pk_bounds (okP_iff.1 hok).1).1
    have h2 := (pk_bounds (okP_iff.1 hok).2.1).1
    split
    · next xy h =>
      unfold OBf at h
      rw [Option.bind_eq_some_iff] at h
      obtain ⟨x, hx, h⟩ := h
      rw [Option.map_eq_some_iff] at h
      obtain ⟨y, hy, rfl⟩ := h
      have hx2 := List.mem_of_find?_eq_some hx
      have hy2 := List.mem_of_find?_eq_some hy
      have p1 : x.Perm (srt us) := oS_perm (by rw [srt_len]; exact hx2)
      have p2 : y.Perm (srt bs) := oS_perm (by rw [srt_len]; exact hy2)
      have l1 := p1.length_eq
      have l2 := p2.length_eq
      rw [srt_len] at l1 l2
      dsimp only
      omega
    · simp
  · simp
set_option maxRecDepth 8000 in
set_option maxHeartbeats 6400000 in
theorem walkExactOrderBoth (P0 : Option Addr) (p0 q0 : Nat) (us : List Int) (P1 : Option Addr) (p1 q1 : Nat) (bs : List Int) (P2 : Option Addr) (p2 q2 : Nat) (L : List Int) (w : World) (hr0 : Rd w w.heap.size P0 p0 q0 (us.map I)) (hr1 : Rd w w.heap.size P1 p1 q1 (bs.map I)) (hr2 : Rd w w.heap.size P2 p2 q2 (L.map I)) :
    Calls Try.prog 13 #[.slice P0 p0 q0, .slice P1 p1 q1, .slice P2 p2 q2] w (RetVal w (.bool true)) := by
  by_cases hbig : 1048576 < p0
  · go_enter Try.func13, Try.ntmps13
    go_wp2_with fail
    go_ret
    exact ⟨rfl, Below.refl _ _⟩
  have hp0 : p0 ≤ 1048576 := by omega
  clear hbig
  by_cases hbig : 1048576 < p1
  · go_enter Try.func13, Try.ntmps13
    go_wp2_with fail
    go_ret
    exact ⟨rfl, Below.refl _ _⟩
  have hp1 : p1 ≤ 1048576 := by omega
  clear hbig
  by_cases hbig : 1048576 < p2
  · go_enter Try.func13, Try.ntmps13
    go_wp2_with fail
    go_ret
    exact ⟨rfl, Below.refl _ _⟩
  have hp2 : p2 ≤ 1048576 := by omega
  clear hbig
  have hD0 : ((OB us bs L).1).length ≤ 100 := by exact (OB_len us bs L).1
  obtain ⟨R0, hR0⟩ : ∃ R, R = (OB us bs L).1 := ⟨_, rfl⟩
  rw [← hR0] at hD0
  have hD1 : ((OB us bs L).2.1).length ≤ 100 := by exact (OB_len us bs L).2
  obtain ⟨R1, hR1⟩ : ∃ R, R = (OB us bs L).2.1 := ⟨_, rfl⟩
  rw [← hR1] at hD1
  obtain ⟨R2, hR2⟩ : ∃ R, R = (OB us bs L).2.2 := ⟨_, rfl⟩
  have hRR2 : (R2 != R2) = false := by simp
  have Hzp0 := Lib.hid hr0.ilen
  have Hzp1 := Lib.hid hr1.ilen
  have Hzp2 := Lib.hid hr2.ilen
  have HR0 := Lib.hid hR0
  have HR1 := Lib.hid hR1
  have HR2 := Lib.hid hR2
  clear hR0 hR1 hR2
  have B0 := Below.refl w.heap.size w
  go_enter Try.func13, Try.ntmps13
  go_wp2_with fail
  refine (toIntS_any P0 p0 q0 us w hr0 hp0).mono ?_
  rintro e w1 ⟨A1, n1, c1, rfl, ho1, hb1⟩
  have s1 := hb1.size
  have B1 := B0.trans (hb1.mono (by omega))
  have o1 := ho1.win
  have hn1 : n1 ≤ 1048576 := by have h := ho1.rd.ilen; have h2 := Hzp0.out; omega
  clear ho1
  clear B0 hb1
  go_wp2_with fail
  refine (toIntS_any P1 p1 q1 bs w1 ((hr1.below B1).more (by omega)) hp1).mono ?_
  rintro e w2 ⟨A2, n2, c2, rfl, ho2, hb2⟩
  have s2 := hb2.size
  have B2 := B1.trans (hb2.mono (by omega))
  have o1 := o1.below hb2 (by omega)
  have o2 := ho2.win
  have hn2 : n2 ≤ 1048576 := by have h := ho2.rd.ilen; have h2 := Hzp1.out; omega
  clear ho2
  clear B1 hb2
  go_wp2_with fail
  refine (toIntS_any P2 p2 q2 L w2 ((hr2.below B2).more (by omega)) hp2).mono ?_
  rintro e w3 ⟨A3, n3, c3, rfl, ho3, hb3⟩
  have s3 := hb3.size
  have B3 := B2.trans (hb3.mono (by omega))
  have o1 := o1.below hb3 (by omega)
  have o2 := o2.below hb3 (by omega)
  have o3 := ho3.win
  have hn3 : n3 ≤ 1048576 := by have h := ho3.rd.ilen; have h2 := Hzp2.out; omega
  clear ho3
  clear B2 hb3
  go_wp2_with fail
  refine (specOrderBoth_any A1 n1 c1 us A2 n2 c2 bs A3 n3 c3 L w3 (o1.rd' (by omega)) (o2.rd' (by omega)) (o3.rd' (by omega))).mono ?_
  rintro e w4 ⟨A4r0, n4r0, c4r0, A4r1, n4r1, c4r1, l4a, h4a, l4b, h4b, rfl, ho4r0, ho4r1, ⟨hw4a, hw4b, hw4c, hw4d, hw4e⟩, hb4⟩
  have s4 := hb4.size
  have B4 := B3.trans (hb4.mono (by omega))
  have o1 := o1.below hb4 (by omega)
  have o2 := o2.below hb4 (by omega)
  have o3 := o3.below hb4 (by omega)
  rw [← HR0.out] at ho4r0
  have o4r0 := ho4r0
  have hn4r0 : n4r0 ≤ 100 := by have h := ho4r0.rd.ilen; omega
  clear ho4r0
  rw [← HR1.out] at ho4r1
  have o4r1 := ho4r1
  have hn4r1 : n4r1 ≤ 100 := by have h := ho4r1.rd.ilen; omega
  clear ho4r1
  rw [← HR2.out]
  clear B3 hb4
  clear o1
  clear o2
  clear o3
  go_wp2_with fail
  refine (toIntS_any P0 p0 q0 us w4 ((hr0.below B4).more (by omega)) hp0).mono ?_
  rintro e w5 ⟨A5, n5, c5, rfl, ho5, hb5⟩
  have s5 := hb5.size
  have B5 := B4.trans (hb5.mono (by omega))
  have o4r0 := o4r0.below hb5 (by omega)
  have o4r1 := o4r1.below hb5 (by omega)
  have o5 := ho5.win
  have hn5 : n5 ≤ 1048576 := by have h := ho5.rd.ilen; have h2 := Hzp0.out; omega
  clear ho5
  clear B4 hb5
  go_wp2_with fail
  refine (toIntS_any P1 p1 q1 bs w5 ((hr1.below B5).more (by omega)) hp1).mono ?_
  rintro e w6 ⟨A6, n6, c6, rfl, ho6, hb6⟩
  have s6 := hb6.size
  have B6 := B5.trans (hb6.mono (by omega))
  have o4r0 := o4r0.below hb6 (by omega)
  have o4r1 := o4r1.below hb6 (by omega)
  have o5 := o5.below hb6 (by omega)
  have o6 := ho6.win
  have hn6 : n6 ≤ 1048576 := by have h := ho6.rd.ilen; have h2 := Hzp1.out; omega
  clear ho6
  clear B5 hb6
  go_wp2_with fail
  refine (toIntS_any P2 p2 q2 L w6 ((hr2.below B6).more (by omega)) hp2).mono ?_
  rintro e w7 ⟨A7, n7, c7, rfl, ho7, hb7⟩
  have s7 := hb7.size
  have B7 := B6.trans (hb7.mono (by omega))
  have o4r0 := o4r0.below hb7 (by omega)
  have o4r1 := o4r1.below hb7 (by omega)
  have o5 := o5.below hb7 (by omega)
  have o6 := o6.below hb7 (by omega)
  have o7 := ho7.win
  have hn7 : n7 ≤ 1048576 := by have h := ho7.rd.ilen; have h2 := Hzp2.out; omega
  clear ho7
  clear B6 hb7
  go_wp2_with fail
  refine (OrderBoth_any A5 n5 c5 us A6 n6 c6 bs A7 n7 c7 L w7 (o5.rd' (by omega)) (o6.rd' (by omega)) (o7.rd' (by omega))).mono ?_
  rintro e w8 ⟨A8r0, n8r0, c8r0, A8r1, n8r1, c8r1, l8a, h8a, l8b, h8b, rfl, ho8r0, ho8r1, ⟨hw8a, hw8b, hw8c, hw8d, hw8e⟩, hb8⟩
  have s8 := hb8.size
  have B8 := B7.trans (hb8.mono (by omega))
  have o4r0 := o4r0.below hb8 (by omega)
  have o4r1 := o4r1.below hb8 (by omega)
  have o5 := o5.below hb8 (by omega)
  have o6 := o6.below hb8 (by omega)
  have o7 := o7.below hb8 (by omega)
  rw [← HR0.out] at ho8r0
  have o8r0 := ho8r0
  have hn8r0 : n8r0 ≤ 100 := by have h := ho8r0.rd.ilen; omega
  clear ho8r0
  rw [← HR1.out] at ho8r1
  have o8r1 := ho8r1
  have hn8r1 : n8r1 ≤ 100 := by have h := ho8r1.rd.ilen; omega
  clear ho8r1
  rw [← HR2.out]
  clear B7 hb8
  go_wp2_with fail
  refine (eqIntS_same A8r0 n8r0 c8r0 R0 A4r0 n4r0 c4r0 w8 _ _ o8r0.rd o4r0.rd).mono ?_
  rintro e w9 ⟨rfl, hq9⟩
  have hb9 := hq9.bel w8.heap.size
  have s9 := hb9.size
  have B9 := B8.trans (hb9.mono (by omega))
  have o4r0 := o4r0.below hb9 (by omega)
  have o4r1 := o4r1.below hb9 (by omega)
  have o5 := o5.below hb9 (by omega)
  have o6 := o6.below hb9 (by omega)
  have o7 := o7.below hb9 (by omega)
  have o8r0 := o8r0.below hb9 (by omega)
  have o8r1 := o8r1.below hb9 (by omega)
  clear B8 hb9 hq9
  go_wp2_with fail
  refine (eqIntS_same A8r1 n8r1 c8r1 R1 A4r1 n4r1 c4r1 w9 _ _ o8r1.rd o4r1.rd).mono ?_
  rintro e w10 ⟨rfl, hq10⟩
  have hb10 := hq10.bel w9.heap.size
  have s10 := hb10.size
  have B10 := B9.trans (hb10.mono (by omega))
  have o4r0 := o4r0.below hb10 (by omega)
  have o4r1 := o4r1.below hb10 (by omega)
  have o5 := o5.below hb10 (by omega)
  have o6 := o6.below hb10 (by omega)
  have o7 := o7.below hb10 (by omega)
  have o8r0 := o8r0.below hb10 (by omega)
  have o8r1 := o8r1.below hb10 (by omega)
  clear B9 hb10 hq10
  go_wp2_with fail
  refine (toIntS_any P0 p0 q0 us w10 ((hr0.below B10).more (by omega)) hp0).mono ?_
  rintro e w11 ⟨A11, n11, c11, rfl, ho11, hb11⟩
  have s11 := hb11.size
  have B11 := B10.trans (hb11.mono (by omega))
  have o4r0 := o4r0.below hb11 (by omega)
  have o4r1 := o4r1.below hb11 (by omega)
  have o5 := o5.below hb11 (by omega)
  have o6 := o6.below hb11 (by omega)
  have o7 := o7.below hb11 (by omega)
  have o8r0 := o8r0.below hb11 (by omega)
  have o8r1 := o8r1.below hb11 (by omega)
  have o11 := ho11.win
  have hn11 : n11 ≤ 1048576 := by have h := ho11.rd.ilen; have h2 := Hzp0.out; omega
  clear ho11
  clear B10 hb11
  go_wp2_with fail
  refine (eqIntS_same A5 n5 c5 us A11 n11 c11 w11 _ _ o5.rd o11.rd).mono ?_
  rintro e w12 ⟨rfl, hq12⟩
  have hb12 := hq12.bel w11.heap.size
  have s12 := hb12.size
  have B12 := B11.trans (hb12.mono (by omega))
  have o4r0 := o4r0.below hb12 (by omega)
  have o4r1 := o4r1.below hb12 (by omega)
  have o5 := o5.below hb12 (by omega)
  have o6 := o6.below hb12 (by omega)
  have o7 := o7.below hb12 (by omega)
  have o8r0 := o8r0.below hb12 (by omega)
  have o8r1 := o8r1.below hb12 (by omega)
  have o11 := o11.below hb12 (by omega)
  clear B11 hb12 hq12
  clear o11
  go_wp2_with fail
  refine (toIntS_any P1 p1 q1 bs w12 ((hr1.below B12).more (by omega)) hp1).mono ?_
  rintro e w13 ⟨A13, n13, c13, rfl, ho13, hb13⟩
  have s13 := hb13.size
  have B13 := B12.trans (hb13.mono (by omega))
  have o4r0 := o4r0.below hb13 (by omega)
  have o4r1 := o4r1.below hb13 (by omega)
  have o5 := o5.below hb13 (by omega)
  have o6 := o6.below hb13 (by omega)
  have o7 := o7.below hb13 (by omega)
  have o8r0 := o8r0.below hb13 (by omega)
  have o8r1 := o8r1.below hb13 (by omega)
  have o13 := ho13.win
  have hn13 : n13 ≤ 1048576 := by have h := ho13.rd.ilen; have h2 := Hzp1.out; omega
  clear ho13
  clear B12 hb13
  go_wp2_with fail
  refine (eqIntS_same A6 n6 c6 bs A13 n13 c13 w13 _ _ o6.rd o13.rd).mono ?_
  rintro e w14 ⟨rfl, hq14⟩
  have hb14 := hq14.bel w13.heap.size
  have s14 := hb14.size
  have B14 := B13.trans (hb14.mono (by omega))
  have o4r0 := o4r0.below hb14 (by omega)
  have o4r1 := o4r1.below hb14 (by omega)
  have o5 := o5.below hb14 (by omega)
  have o6 := o6.below hb14 (by omega)
  have o7 := o7.below hb14 (by omega)
  have o8r0 := o8r0.below hb14 (by omega)
  have o8r1 := o8r1.below hb14 (by omega)
  have o13 := o13.below hb14 (by omega)
  clear B13 hb14 hq14
  clear o13
  go_wp2_with fail
  refine (toIntS_any P2 p2 q2 L w14 ((hr2.below B14).more (by omega)) hp2).mono ?_
  rintro e w15 ⟨A15, n15, c15, rfl, ho15, hb15⟩
  have s15 := hb15.size
  have B15 := B14.trans (hb15.mono (by omega))
  have o4r0 := o4r0.below hb15 (by omega)
  have o4r1 := o4r1.below hb15 (by omega)
  have o5 := o5.below hb15 (by omega)
  have o6 := o6.below hb15 (by omega)
  have o7 := o7.below hb15 (by omega)
  have o8r0 := o8r0.below hb15 (by omega)
  have o8r1 := o8r1.below hb15 (by omega)
  have o15 := ho15.win
  have hn15 : n15 ≤ 1048576 := by have h := ho15.rd.ilen; have h2 := Hzp2.out; omega
  clear ho15
  clear B14 hb15
  go_wp2_with fail
  refine (eqIntS_same A7 n7 c7 L A15 n15 c15 w15 _ _ o7.rd o15.rd).mono ?_
  rintro e w16 ⟨rfl, hq16⟩
  have hb16 := hq16.bel w15.heap.size
  have s16 := hb16.size
  have B16 := B15.trans (hb16.mono (by omega))
  have o4r0 := o4r0.below hb16 (by omega)
  have o4r1 := o4r1.below hb16 (by omega)
  have o5 := o5.below hb16 (by omega)
  have o6 := o6.below hb16 (by omega)
  have o7 := o7.below hb16 (by omega)
  have o8r0 := o8r0.below hb16 (by omega)
  have o8r1 := o8r1.below hb16 (by omega)
  have o15 := o15.below hb16 (by omega)
  clear B15 hb16 hq16
  clear o15
  go_wp2_with fail
  refine (markIntS_any A5 n5 c5 us 1 w16 _ _ o5 (by omega) (by omega)).mono ?_
  rintro e w17 ⟨rfl, om17, ht17⟩
  have s17 := ht17.size
  have B17 := B16.trans (ht17.bel (B := w.heap.size) (by omega) (by omega))
  have o4r0 := o4r0.turn ht17 (by omega)
  have o4r1 := o4r1.turn ht17 (by omega)
  have o6 := o6.turn ht17 (by omega)
  have o7 := o7.turn ht17 (by omega)
  have o8r0 := o8r0.turn ht17 (by omega)
  have o8r1 := o8r1.turn ht17 (by omega)
  have o5 := om17
  clear om17
  clear B16 ht17
  go_wp2_with fail
  refine (markIntS_any A6 n6 c6 bs (1 + (n5 : Int)) w17 _ _ o6 (by omega) (by omega)).mono ?_
  rintro e w18 ⟨rfl, om18, ht18⟩
  have s18 := ht18.size
  have B18 := B17.trans (ht18.bel (B := w.heap.size) (by omega) (by omega))
  have o4r0 := o4r0.turn ht18 (by omega)
  have o4r1 := o4r1.turn ht18 (by omega)
  have o5 := o5.turn ht18 (by omega)
  have o7 := o7.turn ht18 (by omega)
  have o8r0 := o8r0.turn ht18 (by omega)
  have o8r1 := o8r1.turn ht18 (by omega)
  have o6 := om18
  clear om18
  clear B17 ht18
  go_wp2_with fail
  refine (markIntS_any A7 n7 c7 L (1 + (n5 : Int) + (n6 : Int)) w18 _ _ o7 (by omega) (by omega)).mono ?_
  rintro e w19 ⟨rfl, om19, ht19⟩
  have s19 := ht19.size
  have B19 := B18.trans (ht19.bel (B := w.heap.size) (by omega) (by omega))
  have o4r0 := o4r0.turn ht19 (by omega)
  have o4r1 := o4r1.turn ht19 (by omega)
  have o5 := o5.turn ht19 (by omega)
  have o6 := o6.turn ht19 (by omega)
  have o8r0 := o8r0.turn ht19 (by omega)
  have o8r1 := o8r1.turn ht19 (by omega)
  have o7 := om19
  clear om19
  clear B18 ht19
  clear o5
  clear o6
  clear o7
  have k0 : ¬ (1 + (n5 : Int) + (n6 : Int) + (n7 : Int) < 0) := by omega
  go_wp2_with fail
  refine (eqIntS_same A8r0 n8r0 c8r0 R0 A4r0 n4r0 c4r0 w19 _ _ o8r0.rd o4r0.rd).mono ?_
  rintro e w20 ⟨rfl, hq20⟩
  have hb20 := hq20.bel w19.heap.size
  have s20 := hb20.size
  have B20 := B19.trans (hb20.mono (by omega))
  have o4r0 := o4r0.below hb20 (by omega)
  have o4r1 := o4r1.below hb20 (by omega)
  have o8r0 := o8r0.below hb20 (by omega)
  have o8r1 := o8r1.below hb20 (by omega)
  clear B19 hb20 hq20
  go_wp2_with fail
  refine (eqIntS_same A8r1 n8r1 c8r1 R1 A4r1 n4r1 c4r1 w20 _ _ o8r1.rd o4r1.rd).mono ?_
  rintro e w21 ⟨rfl, hq21⟩
  have hb21 := hq21.bel w20.heap.size
  have s21 := hb21.size
  have B21 := B20.trans (hb21.mono (by omega))
  have o4r0 := o4r0.below hb21 (by omega)
  have o4r1 := o4r1.below hb21 (by omega)
  have o8r0 := o8r0.below hb21 (by omega)
  have o8r1 := o8r1.below hb21 (by omega)
  clear B20 hb21 hq21
  go_wp2_with fail
  refine (markIntS_any A8r0 n8r0 c8r0 R0 1 w21 _ _ o8r0 (by omega) (by omega)).mono ?_
  rintro e w22 ⟨rfl, om22, ht22⟩
  have s22 := ht22.size
  have B22 := B21.trans (ht22.bel (B := w.heap.size) (by omega) (by omega))
  have o4r0 := o4r0.turn ht22 (by omega)
  have o4r1 := o4r1.turn ht22 (by omega)
  have o8r1 := o8r1.turn ht22 (by omega)
  have o8r0 := om22
  clear om22
  clear B21 ht22
  go_wp2_with fail
  refine (markIntS_any A8r1 n8r1 c8r1 R1 (1 + (n8r0 : Int)) w22 _ _ o8r1 (by omega) (by omega)).mono ?_
  rintro e w23 ⟨rfl, om23, ht23⟩
  have s23 := ht23.size
  have B23 := B22.trans (ht23.bel (B := w.heap.size) (by omega) (by omega))
  have o4r0 := o4r0.turn ht23 (by omega)
  have o4r1 := o4r1.turn ht23 (by omega)
  have o8r0 := o8r0.turn ht23 (by omega)
  have o8r1 := om23
  clear om23
  clear B22 ht23
  have k2 : ((1 + (n8r0 : Int) + (n8r1 : Int)) != (1 + (n8r0 : Int) + (n8r1 : Int))) = false := by simp
  go_wp2_with fail
  refine (heldIntS_any A8r0 n8r0 c8r0 1 w23 _ o8r0.rd (by omega) (by omega)).mono ?_
  rintro e w24 ⟨rfl, hq24⟩
  have hb24 := hq24.bel w23.heap.size
  have s24 := hb24.size
  have B24 := B23.trans (hb24.mono (by omega))
  have o4r0 := o4r0.below hb24 (by omega)
  have o4r1 := o4r1.below hb24 (by omega)
  have o8r0 := o8r0.below hb24 (by omega)
  have o8r1 := o8r1.below hb24 (by omega)
  clear B23 hb24 hq24
  have k8r024 : ¬ (1 + (n8r0 : Int) < 0) := by omega
  go_wp2_with fail
  refine (heldIntS_any A8r1 n8r1 c8r1 (1 + (n8r0 : Int)) w24 _ o8r1.rd (by omega) (by omega)).mono ?_
  rintro e w25 ⟨rfl, hq25⟩
  have hb25 := hq25.bel w24.heap.size
  have s25 := hb25.size
  have B25 := B24.trans (hb25.mono (by omega))
  have o4r0 := o4r0.below hb25 (by omega)
  have o4r1 := o4r1.below hb25 (by omega)
  have o8r0 := o8r0.below hb25 (by omega)
  have o8r1 := o8r1.below hb25 (by omega)
  clear B24 hb25 hq25
  have k8r125 : ¬ (1 + (n8r0 : Int) + (n8r1 : Int) < 0) := by omega
  go_wp2_with fail
  refine (toIntS_any P0 p0 q0 us w25 ((hr0.below B25).more (by omega)) hp0).mono ?_
  rintro e w26 ⟨A26, n26, c26, rfl, ho26, hb26⟩
  have s26 := hb26.size
  have B26 := B25.trans (hb26.mono (by omega))
  have o4r0 := o4r0.below hb26 (by omega)
  have o4r1 := o4r1.below hb26 (by omega)
  have o8r0 := o8r0.below hb26 (by omega)
  have o8r1 := o8r1.below hb26 (by omega)
  have o26 := ho26.win
  have hn26 : n26 ≤ 1048576 := by have h := ho26.rd.ilen; have h2 := Hzp0.out; omega
  clear ho26
  clear B25 hb26
  go_wp2_with fail
  refine (toIntS_any P1 p1 q1 bs w26 ((hr1.below B26).more (by omega)) hp1).mono ?_
  rintro e w27 ⟨A27, n27, c27, rfl, ho27, hb27⟩
  have s27 := hb27.size
  have B27 := B26.trans (hb27.mono (by omega))
  have o4r0 := o4r0.below hb27 (by omega)
  have o4r1 := o4r1.below hb27 (by omega)
  have o8r0 := o8r0.below hb27 (by omega)
  have o8r1 := o8r1.below hb27 (by omega)
  have o26 := o26.below hb27 (by omega)
  have o27 := ho27.win
  have hn27 : n27 ≤ 1048576 := by have h := ho27.rd.ilen; have h2 := Hzp1.out; omega
  clear ho27
  clear B26 hb27
  go_wp2_with fail
  refine (toIntS_any P2 p2 q2 L w27 ((hr2.below B27).more (by omega)) hp2).mono ?_
  rintro e w28 ⟨A28, n28, c28, rfl, ho28, hb28⟩
  have s28 := hb28.size
  have B28 := B27.trans (hb28.mono (by omega))
  have o4r0 := o4r0.below hb28 (by omega)
  have o4r1 := o4r1.below hb28 (by omega)
  have o8r0 := o8r0.below hb28 (by omega)
  have o8r1 := o8r1.below hb28 (by omega)
  have o26 := o26.below hb28 (by omega)
  have o27 := o27.below hb28 (by omega)
  have o28 := ho28.win
  have hn28 : n28 ≤ 1048576 := by have h := ho28.rd.ilen; have h2 := Hzp2.out; omega
  clear ho28
  clear B27 hb28
  go_wp2_with fail
  refine (OrderBoth_any A26 n26 c26 us A27 n27 c27 bs A28 n28 c28 L w28 (o26.rd' (by omega)) (o27.rd' (by omega)) (o28.rd' (by omega))).mono ?_
  rintro e w29 ⟨A29r0, n29r0, c29r0, A29r1, n29r1, c29r1, l29a, h29a, l29b, h29b, rfl, ho29r0, ho29r1, ⟨hw29a, hw29b, hw29c, hw29d, hw29e⟩, hb29⟩
  have s29 := hb29.size
  have B29 := B28.trans (hb29.mono (by omega))
  have o4r0 := o4r0.below hb29 (by omega)
  have o4r1 := o4r1.below hb29 (by omega)
  have o8r0 := o8r0.below hb29 (by omega)
  have o8r1 := o8r1.below hb29 (by omega)
  have o26 := o26.below hb29 (by omega)
  have o27 := o27.below hb29 (by omega)
  have o28 := o28.below hb29 (by omega)
  rw [← HR0.out] at ho29r0
  have o29r0 := ho29r0
  have hn29r0 : n29r0 ≤ 100 := by have h := ho29r0.rd.ilen; omega
  clear ho29r0
  rw [← HR1.out] at ho29r1
  have o29r1 := ho29r1
  have hn29r1 : n29r1 ≤ 100 := by have h := ho29r1.rd.ilen; omega
  clear ho29r1
  rw [← HR2.out]
  clear B28 hb29
  clear o26
  clear o27
  clear o28
  go_wp2_with fail
  refine (eqIntS_same A29r0 n29r0 c29r0 R0 A4r0 n4r0 c4r0 w29 _ _ o29r0.rd o4r0.rd).mono ?_
  rintro e w30 ⟨rfl, hq30⟩
  have hb30 := hq30.bel w29.heap.size
  have s30 := hb30.size
  have B30 := B29.trans (hb30.mono (by omega))
  have o4r0 := o4r0.below hb30 (by omega)
  have o4r1 := o4r1.below hb30 (by omega)
  have o8r0 := o8r0.below hb30 (by omega)
  have o8r1 := o8r1.below hb30 (by omega)
  have o29r0 := o29r0.below hb30 (by omega)
  have o29r1 := o29r1.below hb30 (by omega)
  clear B29 hb30 hq30
  go_wp2_with fail
  refine (eqIntS_same A29r1 n29r1 c29r1 R1 A4r1 n4r1 c4r1 w30 _ _ o29r1.rd o4r1.rd).mono ?_
  rintro e w31 ⟨rfl, hq31⟩
  have hb31 := hq31.bel w30.heap.size
  have s31 := hb31.size
  have B31 := B30.trans (hb31.mono (by omega))
  have o4r0 := o4r0.below hb31 (by omega)
  have o4r1 := o4r1.below hb31 (by omega)
  have o8r0 := o8r0.below hb31 (by omega)
  have o8r1 := o8r1.below hb31 (by omega)
  have o29r0 := o29r0.below hb31 (by omega)
  have o29r1 := o29r1.below hb31 (by omega)
  clear B30 hb31 hq31
  clear o29r0
  clear o29r1
  clear o4r0
  clear o4r1
  go_wp2_with fail
  refine (heldIntS_any A8r0 n8r0 c8r0 1 w31 _ o8r0.rd (by omega) (by omega)).mono ?_
  rintro e w32 ⟨rfl, hq32⟩
  have hb32 := hq32.bel w31.heap.size
  have s32 := hb32.size
  have B32 := B31.trans (hb32.mono (by omega))
  have o8r0 := o8r0.below hb32 (by omega)
  have o8r1 := o8r1.below hb32 (by omega)
  clear B31 hb32 hq32
  have k8r032 : ¬ (1 + (n8r0 : Int) < 0) := by omega
  go_wp2_with fail
  refine (heldIntS_any A8r1 n8r1 c8r1 (1 + (n8r0 : Int)) w32 _ o8r1.rd (by omega) (by omega)).mono ?_
  rintro e w33 ⟨rfl, hq33⟩
  have hb33 := hq33.bel w32.heap.size
  have s33 := hb33.size
  have B33 := B32.trans (hb33.mono (by omega))
  have o8r0 := o8r0.below hb33 (by omega)
  have o8r1 := o8r1.below hb33 (by omega)
  clear B32 hb33 hq33
  have k8r133 : ¬ (1 + (n8r0 : Int) + (n8r1 : Int) < 0) := by omega
  go_wp2_with fail
  go_ret
  exact ⟨rfl, B33⟩
end Go.Proofs.Ytopmifidhabobaa
