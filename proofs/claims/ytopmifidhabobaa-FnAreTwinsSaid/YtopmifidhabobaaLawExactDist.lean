/-
  The exact law of DistancesOf: its walk.
-/
import Derived.Test.YtopmifidhabobaaDist3
import Derived.Outline
namespace Go.Proofs.Ytopmifidhabobaa
open Go.RowKit
set_option linter.unusedVariables false
set_option linter.unusedSimpArgs false

theorem DO_len (zs : List Int) : (DO zs).length ≤ 36 := by
  unfold DO
  split
  · next h =>
    have h1 := vp_len h
    have h2 := dTo_len_le zs zs.length (Nat.le_refl _)
    have h3 : zs.length * zs.length ≤ 36 := Nat.mul_le_mul h1 h1
    unfold dsr dst
    rw [srt_len]
    omega
  · simp
set_option maxRecDepth 8000 in
set_option maxHeartbeats 3200000 in
theorem walkExactDistancesOf (A : Option Addr) (n c : Nat) (zs : List Int) (w : World) (hr : Rd w w.heap.size A n c (zs.map I)) :
    Calls Try.prog 6 #[.slice A n c] w (RetVal w (.bool true)) := by
  by_cases hbig : 1048576 < n
  · go_enter Try.func6, Try.ntmps6
    go_wp2_with fail
    go_ret
    exact ⟨rfl, Below.refl _ _⟩
  · have hn : n ≤ 1048576 := by omega
    have hD : ((DO zs)).length ≤ 36 := DO_len zs
    have Hnz := Lib.hid hr.ilen
    go_enter Try.func6, Try.ntmps6
    go_wp2_with fail
    refine (toIntS_any A n c zs w hr hn).mono ?_
    rintro e w1 ⟨A1, n1, c1, rfl, ho1, hb1⟩
    go_wp2_with fail
    refine (specDistancesOf_any A1 n1 c1 zs w1 ho1.rd).mono ?_
    rintro e w2 ⟨A2, n2, c2, rfl, ho2, hb2⟩
    have B2 : Below w.heap.size w w2 := hb1.trans (hb2.mono hb1.size)
    have s2 := B2.size
    have s21 := hb2.size
    have s1 := hb1.size
    have o2 := ho2.win
    clear ho1 ho2 hb1 hb2
    go_wp2_with fail
    refine (toIntS_any A n c zs w2 ((hr.below B2).more s2) hn).mono ?_
    rintro e w3 ⟨A3, n3, c3, rfl, ho3, hb3⟩
    have B3 := B2.trans (hb3.mono s2)
    have s3 := hb3.size
    have o3 := ho3.win
    have o2 := o2.below hb3 (Nat.le_refl _)
    obtain rfl : n = n3 := by have := ho3.rd.ilen; have := Hnz.out; omega
    go_wp2_with fail
    refine (DistancesOf_any A3 n c3 zs w3 ho3.rd).mono ?_
    rintro e w4 ⟨A4, n4, c4, rfl, ho4, hb4⟩
    have s4 := hb4.size
    have B4 := B3.trans (hb4.mono (by omega))
    have o4 := ho4.win
    have o3 := o3.below hb4 (Nat.le_refl _)
    have o2 := o2.below hb4 (by omega)
    have hn4 : n4 ≤ 36 := by have := ho4.rd.ilen; omega
    clear ho3 ho4 B2 B3 hb3 hb4
    go_wp2_with fail
    refine (eqIntS_same A4 n4 c4 (DO zs) A2 n2 c2 w4 _ _ o4.rd o2.rd).mono ?_
    rintro e w5 ⟨rfl, hq5⟩
    have hb5 := hq5.bel w4.heap.size
    have s5 := hb5.size
    have B5 := B4.trans (hb5.mono (by omega))
    have o4 := o4.below hb5 (Nat.le_refl _)
    have o3 := o3.below hb5 (by omega)
    have o2 := o2.below hb5 (by omega)
    clear hq5 hb5 B4
    go_wp2_with fail
    refine (toIntS_any A n c zs w5 ((hr.below B5).more (by omega)) hn).mono ?_
    rintro e w6 ⟨A6, n6, c6, rfl, ho6, hb6⟩
    have s6 := hb6.size
    have B6 := B5.trans (hb6.mono (by omega))
    have o4 := o4.below hb6 (by omega)
    have o3 := o3.below hb6 (by omega)
    have o2 := o2.below hb6 (by omega)
    go_wp2_with fail
    refine (eqIntS_same A3 n c3 zs A6 n6 c6 w6 _ _ o3.rd ho6.rd).mono ?_
    rintro e w7 ⟨rfl, hq7⟩
    have hb7 := hq7.bel w6.heap.size
    have s7 := hb7.size
    have B7 := B6.trans (hb7.mono (by omega))
    have o4 := o4.below hb7 (by omega)
    have o3 := o3.below hb7 (by omega)
    have o2 := o2.below hb7 (by omega)
    clear ho6 hb6 hq7 hb7 B5 B6
    go_wp2_with fail
    refine (markIntS_any A3 n c3 zs 1 w7 _ _ o3 (by omega) (by omega)).mono ?_
    rintro e w8 ⟨rfl, _, ht8⟩
    have s8 := ht8.size
    have B8 := B7.trans (ht8.bel (B := w.heap.size) (by omega) (by omega))
    have o4 := o4.turn ht8 (.inr (by omega))
    have o2 := o2.turn ht8 (.inl (by omega))
    clear o3 ht8 B7
    have k0 : ¬ (1 + (n : Int) < 0) := by omega
    go_wp2_with fail
    refine (eqIntS_same A4 n4 c4 (DO zs) A2 n2 c2 w8 _ _ o4.rd o2.rd).mono ?_
    rintro e w9 ⟨rfl, hq9⟩
    have hb9 := hq9.bel w8.heap.size
    have s9 := hb9.size
    have B9 := B8.trans (hb9.mono (by omega))
    have o4 := o4.below hb9 (by omega)
    have o2 := o2.below hb9 (by omega)
    clear hq9 hb9 B8
    go_wp2_with fail
    refine (markIntS_any A4 n4 c4 (DO zs) 1 w9 _ _ o4 (by omega) (by omega)).mono ?_
    rintro e w10 ⟨rfl, o4m, ht10⟩
    have s10 := ht10.size
    have B10 := B9.trans (ht10.bel (B := w.heap.size) (by omega) (by omega))
    have o2 := o2.turn ht10 (.inl (by omega))
    clear o4 ht10 B9
    have k1 : ¬ (1 + (n4 : Int) < 0) := by omega
    have k2 : (1 + (n4 : Int) != 1 + (n4 : Int)) = false := by simp
    go_wp2_with fail
    refine (heldIntS_any A4 n4 c4 1 w10 _ o4m.rd (by omega) (by omega)).mono ?_
    rintro e w11 ⟨rfl, hq11⟩
    have hb11 := hq11.bel w10.heap.size
    have s11 := hb11.size
    have B11 := B10.trans (hb11.mono (by omega))
    have o4 := o4m.below hb11 (by omega)
    have o2 := o2.below hb11 (by omega)
    clear hq11 hb11 B10 o4m
    go_wp2_with fail
    refine (toIntS_any A n c zs w11 ((hr.below B11).more (by omega)) hn).mono ?_
    rintro e w12 ⟨A12, n12, c12, rfl, ho12, hb12⟩
    have s12 := hb12.size
    have B12 := B11.trans (hb12.mono (by omega))
    have o4 := o4.below hb12 (by omega)
    have o2 := o2.below hb12 (by omega)
    go_wp2_with fail
    refine (DistancesOf_any A12 n12 c12 zs w12 ho12.rd).mono ?_
    rintro e w13 ⟨A13, n13, c13, rfl, ho13, hb13⟩
    have s13 := hb13.size
    have B13 := B12.trans (hb13.mono (by omega))
    have o4 := o4.below hb13 (by omega)
    have o2 := o2.below hb13 (by omega)
    clear ho12 hb12 hb13 B11 B12
    go_wp2_with fail
    refine (eqIntS_same A13 n13 c13 (DO zs) A2 n2 c2 w13 _ _ ho13.rd o2.rd).mono ?_
    rintro e w14 ⟨rfl, hq14⟩
    have hb14 := hq14.bel w13.heap.size
    have s14 := hb14.size
    have B14 := B13.trans (hb14.mono (by omega))
    have o4 := o4.below hb14 (by omega)
    clear hq14 hb14 B13 ho13 o2
    go_wp2_with fail
    refine (heldIntS_any A4 n4 c4 1 w14 _ o4.rd (by omega) (by omega)).mono ?_
    rintro e w15 ⟨rfl, hq15⟩
    have hb15 := hq15.bel w14.heap.size
    have B15 := B14.trans (hb15.mono (by omega))
    go_wp2_with fail
    go_ret
    exact ⟨rfl, B15⟩
end Go.Proofs.Ytopmifidhabobaa
