/-
  The exact law of StretchesOf: its walk.
-/
import Derived.Test.YtfbmcfdmffpfmaaMark
import Derived.Test.YtfbmcfdmffpfmaaStrI
namespace Go.Proofs.Ytfbmcfdmffpfmaa
open Go.RowKit
set_option linter.unusedVariables false
set_option linter.unusedSimpArgs false

theorem eqStringS_sameP (A : Option Addr) (n c : Nat) (us : List (List UInt8)) (A2 : Option Addr) (n2 c2 : Nat) (w : World) (B B2 : Nat) (hr : Rd w B A n c (us.map S)) (hr2 : Rd w B2 A2 n2 c2 (us.map S)) :
    Calls Try.prog 24 #[.slice A n c, .slice A2 n2 c2] w fun e w' => e = .returned (.bool true) ∧ Quiet w w' :=
  (eqStringS_any A n c us A2 n2 c2 us w B B2 hr hr2).mono fun _ _ ⟨h1, h2⟩ => ⟨h1.trans (ret_bool (by simp)), h2⟩
set_option maxRecDepth 8000 in
set_option maxHeartbeats 6400000 in
theorem walkExactStretchesOf (A : Option Addr) (n c : Nat) (ws : List (List UInt8)) (w : World) (hr : Rd w w.heap.size A n c (ws.map S)) (hl : ∀ x ∈ ws, x.length ≤ 9223372036854775807) (hvr : Vr w) :
    Calls Try.prog 13 #[.slice A n c] w (RetVal w (.bool true)) := by
  have hZ := szStringS_any A n c ws w _ hr hl
  go_enter Try.func13, Try.ntmps13
  go_wp2_with fail
  refine hZ.mono ?_
  rintro e w' ⟨r, rfl, hsm, rfl⟩
  clear hZ
  by_cases hr0 : r < 0
  · go_wp2_with fail
    go_ret
    exact ⟨rfl, Below.refl _ _⟩
  obtain ⟨hn, hx⟩ := hsm (by omega)
  have hl47 : Len47 ws := fun x hxm => by have := hx x hxm; omega
  clear hsm hl hx
  have hR : (SO ws).length ≤ 100000 := by exact SO_len ws
  obtain ⟨R, hRe⟩ : ∃ R, R = SO ws := ⟨_, rfl⟩
  have HR := Lib.hid hRe
  rw [← hRe] at hR
  clear hRe
  have Hz := Lib.hid hr.slen
  have B0 := Below.refl w.heap.size w
  go_wp2_with fail
  refine (toStringS_any A n c ws w hr hn).mono ?_
  rintro e w1 ⟨A1, n1, c1, rfl, ho1, hb1⟩
  have s1 := hb1.size
  have B1 := B0.trans (hb1.mono (by omega))
  have o1 := ho1.win
  have l1 : n1 ≤ 1048576 := by have h := o1.rd.slen; have h2 := Hz.out; omega
  clear ho1 hb1 B0
  have H2 := Lib.hid (specStretchesOf_any A1 n1 c1 ws w1 (o1.rd' (by omega)) hl47)
  rw [← HR.out] at H2
  go_wp2_with fail
  refine H2.out.mono ?_
  rintro e w2 ⟨A2, n2, c2, rfl, ho2, hb2⟩
  have s2 := hb2.size
  have B2 := B1.trans (hb2.mono (by omega))
  have o2 := ho2.win
  have l2 : n2 ≤ 100000 := by have h := o2.rd.slen; omega
  have o1 := o1.below hb2 (by omega)
  clear H2 ho2 hb2 B1
  clear o1
  go_wp2_with fail
  refine (toStringS_any A n c ws w2 ((hr.below B2).more (by omega)) hn).mono ?_
  rintro e w3 ⟨A3, n3, c3, rfl, ho3, hb3⟩
  have s3 := hb3.size
  have B3 := B2.trans (hb3.mono (by omega))
  have o3 := ho3.win
  have l3 : n3 ≤ 1048576 := by have h := o3.rd.slen; have h2 := Hz.out; omega
  have o2 := o2.below hb3 (by omega)
  clear ho3 hb3 B2
  have H4 := Lib.hid (StretchesOf_any A3 n3 c3 ws w3 (o3.rd' (by omega)) hl47)
  rw [← HR.out] at H4
  go_wp2_with fail
  refine H4.out.mono ?_
  rintro e w4 ⟨A4, n4, c4, rfl, ho4, hb4⟩
  have s4 := hb4.size
  have B4 := B3.trans (hb4.mono (by omega))
  have o4 := ho4.win
  have l4 : n4 ≤ 100000 := by have h := o4.rd.slen; omega
  have o2 := o2.below hb4 (by omega)
  have o3 := o3.below hb4 (by omega)
  clear H4 ho4 hb4 B3
  go_wp2_with fail
  refine (eqStringS_sameP A4 n4 c4 R A2 n2 c2 w4 _ _ o4.rd o2.rd).mono ?_
  rintro e w5 ⟨rfl, hq5⟩
  have hb5 := hq5.bel w4.heap.size
  have s5 := hb5.size
  have B5 := B4.trans (hb5.mono (by omega))
  have o2 := o2.below hb5 (by omega)
  have o3 := o3.below hb5 (by omega)
  have o4 := o4.below hb5 (by omega)
  clear hq5 hb5 B4
  go_wp2_with fail
  refine (toStringS_any A n c ws w5 ((hr.below B5).more (by omega)) hn).mono ?_
  rintro e w6 ⟨A6, n6, c6, rfl, ho6, hb6⟩
  have s6 := hb6.size
  have B6 := B5.trans (hb6.mono (by omega))
  have o6 := ho6.win
  have l6 : n6 ≤ 1048576 := by have h := o6.rd.slen; have h2 := Hz.out; omega
  have o2 := o2.below hb6 (by omega)
  have o3 := o3.below hb6 (by omega)
  have o4 := o4.below hb6 (by omega)
  clear ho6 hb6 B5
  go_wp2_with fail
  refine (eqStringS_sameP A3 n3 c3 ws A6 n6 c6 w6 _ _ o3.rd o6.rd).mono ?_
  rintro e w7 ⟨rfl, hq7⟩
  have hb7 := hq7.bel w6.heap.size
  have s7 := hb7.size
  have B7 := B6.trans (hb7.mono (by omega))
  have o2 := o2.below hb7 (by omega)
  have o3 := o3.below hb7 (by omega)
  have o4 := o4.below hb7 (by omega)
  have o6 := o6.below hb7 (by omega)
  clear hq7 hb7 B6
  clear o6
  have kx : ¬ ((1 : Int) + (n3 : Int) < 0) := by omega
  have kw : ((1 : Nat) : Int) = 1 := rfl
  go_wp2_with fail
  refine (markStringS_any A3 n3 c3 ws 1 w7 _ _ o3 (by omega) (by omega) (by omega)).mono ?_
  rintro e w8 ⟨rfl, om8, ht8⟩
  have s8 := ht8.size
  have B8 := B7.trans (ht8.bel (B := w.heap.size) (by omega) (by omega))
  have o2 := o2.turn ht8 (by omega)
  have o4 := o4.turn ht8 (by omega)
  clear o3
  have o3 := om8
  clear om8 ht8 B7
  clear o3
  go_wp2_with fail
  refine (eqStringS_sameP A4 n4 c4 R A2 n2 c2 w8 _ _ o4.rd o2.rd).mono ?_
  rintro e w9 ⟨rfl, hq9⟩
  have hb9 := hq9.bel w8.heap.size
  have s9 := hb9.size
  have B9 := B8.trans (hb9.mono (by omega))
  have o2 := o2.below hb9 (by omega)
  have o4 := o4.below hb9 (by omega)
  clear hq9 hb9 B8
  go_wp2_with fail
  refine (markStringS_any A4 n4 c4 R 1 w9 _ _ o4 (by omega) (by omega) (by omega)).mono ?_
  rintro e w10 ⟨rfl, om10, ht10⟩
  have s10 := ht10.size
  have B10 := B9.trans (ht10.bel (B := w.heap.size) (by omega) (by omega))
  have o2 := o2.turn ht10 (by omega)
  clear o4
  have o4 := om10
  clear om10 ht10 B9
  have k0 : ¬ ((1 : Int) + (n4 : Int) < 0) := by omega
  have k1 : (((1 : Int) + (n4 : Int)) != ((1 : Int) + (n4 : Int))) = false := by simp
  go_wp2_with fail
  refine (heldStringS_any A4 n4 c4 1 w10 (o4.rd' (by omega)) (by omega) (by omega)).mono ?_
  rintro e w11 ⟨rfl, hb11⟩
  have s11 := hb11.size
  have B11 := B10.trans (hb11.mono (by omega))
  have o2 := o2.below hb11 (by omega)
  have o4 := o4.below hb11 (by omega)
  clear hb11 B10
  go_wp2_with fail
  refine (toStringS_any A n c ws w11 ((hr.below B11).more (by omega)) hn).mono ?_
  rintro e w12 ⟨A12, n12, c12, rfl, ho12, hb12⟩
  have s12 := hb12.size
  have B12 := B11.trans (hb12.mono (by omega))
  have o12 := ho12.win
  have l12 : n12 ≤ 1048576 := by have h := o12.rd.slen; have h2 := Hz.out; omega
  have o2 := o2.below hb12 (by omega)
  have o4 := o4.below hb12 (by omega)
  clear ho12 hb12 B11
  have H13 := Lib.hid (StretchesOf_any A12 n12 c12 ws w12 (o12.rd' (by omega)) hl47)
  rw [← HR.out] at H13
  go_wp2_with fail
  refine H13.out.mono ?_
  rintro e w13 ⟨A13, n13, c13, rfl, ho13, hb13⟩
  have s13 := hb13.size
  have B13 := B12.trans (hb13.mono (by omega))
  have o13 := ho13.win
  have l13 : n13 ≤ 100000 := by have h := o13.rd.slen; omega
  have o2 := o2.below hb13 (by omega)
  have o4 := o4.below hb13 (by omega)
  have o12 := o12.below hb13 (by omega)
  clear H13 ho13 hb13 B12
  clear o12
  go_wp2_with fail
  refine (eqStringS_sameP A13 n13 c13 R A2 n2 c2 w13 _ _ o13.rd o2.rd).mono ?_
  rintro e w14 ⟨rfl, hq14⟩
  have hb14 := hq14.bel w13.heap.size
  have s14 := hb14.size
  have B14 := B13.trans (hb14.mono (by omega))
  have o2 := o2.below hb14 (by omega)
  have o4 := o4.below hb14 (by omega)
  have o13 := o13.below hb14 (by omega)
  clear hq14 hb14 B13
  clear o13
  clear o2
  go_wp2_with fail
  refine (heldStringS_any A4 n4 c4 1 w14 (o4.rd' (by omega)) (by omega) (by omega)).mono ?_
  rintro e w15 ⟨rfl, hb15⟩
  have s15 := hb15.size
  have B15 := B14.trans (hb15.mono (by omega))
  have o4 := o4.below hb15 (by omega)
  clear hb15 B14
  go_wp2_with fail
  go_ret
  exact ⟨rfl, B15⟩
end Go.Proofs.Ytfbmcfdmffpfmaa
