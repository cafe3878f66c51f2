/-
  The exact laws of FactorsOf, MissingOf, LongestTwice: their walks.
-/
import Derived.Test.YtfbmcfdmffpfmaaMark
import Derived.Test.YtfbmcfdmffpfmaaMissP
namespace Go.Proofs.Ytfbmcfdmffpfmaa
open Go.RowKit
set_option linter.unusedVariables false
set_option linter.unusedSimpArgs false

theorem eqStringS_same (A : Option Addr) (n c : Nat) (us : List (List UInt8)) (A2 : Option Addr) (n2 c2 : Nat) (w : World) (B B2 : Nat) (hr : Rd w B A n c (us.map S)) (hr2 : Rd w B2 A2 n2 c2 (us.map S)) :
    Calls Try.prog 24 #[.slice A n c, .slice A2 n2 c2] w fun e w' => e = .returned (.bool true) ∧ Quiet w w' :=
  (eqStringS_any A n c us A2 n2 c2 us w B B2 hr hr2).mono fun _ _ ⟨h1, h2⟩ => ⟨h1.trans (ret_bool (by simp)), h2⟩
theorem FO_len {s : List UInt8} (k : Int) : (FO s k).length ≤ 100000 := by
  unfold FO
  split
  · next h =>
    have h1 := fac_len s k.toNat
    rw [Bool.and_eq_true] at h
    have h2 := vt_len h.1
    omega
  · simp
theorem missA_len (s : List UInt8) (m : Nat) (h : s.length ≤ 12) : (missA s m).length ≤ 64 * m := by
  induction m with
  | zero => simp [missA]
  | succ m ih =>
    rw [missA_succ, List.length_append]
    have h1 : ∀ l : List (List UInt8), (l.flatMap (miss1 s)).length ≤ l.length * 4 := by
      intro l
      induction l with
      | nil => simp
      | cons a l ihl =>
        rw [List.flatMap_cons, List.length_append, List.length_cons]
        have := miss1To_len s a 4
        rw [miss1To_all] at this
        omega
    have h2 := h1 (fac s m)
    have h3 := fac_len s m
    unfold missK
    omega
theorem MS_len (s : List UInt8) : (MS s).length ≤ 100000 := by
  unfold MS
  split
  · next h =>
    rw [Bool.and_eq_true] at h
    have h2 := of_decide_eq_true h.2
    have := missA_len s (s.length + 1) h2
    omega
  · simp
set_option maxRecDepth 8000 in
set_option maxHeartbeats 3200000 in
theorem walkExactFactorsOf (s : List UInt8) (k : Int) (w : World) (hs : s.length ≤ 9223372036854775807) (hk : -9223372036854775808 ≤ k ∧ k ≤ 9223372036854775807) (hvr : Vr w) :
    Calls Try.prog 5 #[.string ⟨s.toArray⟩, .int .i64 k] w (RetVal w (.bool true)) := by
  by_cases hbig : 1048576 < s.length
  · go_enter Try.func5, Try.ntmps5
    go_wp2_with fail
    go_ret
    exact ⟨rfl, Below.refl _ _⟩
  have hs20 : s.length ≤ 1048576 := by omega
  clear hbig
  have hR : (FO s k).length ≤ 100000 := by exact FO_len k
  obtain ⟨R, hRe⟩ : ∃ R, R = FO s k := ⟨_, rfl⟩
  have HR := Lib.hid hRe
  rw [← hRe] at hR
  clear hRe
  have B0 := Below.refl w.heap.size w
  go_enter Try.func5, Try.ntmps5
  have H1 := Lib.hid (specFactorsOf_any s k w hs20)
  rw [← HR.out] at H1
  go_wp2_with fail
  refine H1.out.mono ?_
  rintro e w1 ⟨A1, n1, c1, rfl, ho1, hb1⟩
  have s1 := hb1.size
  have B1 := B0.trans (hb1.mono (by omega))
  have o1 := ho1.win
  have l1 := o1.rd.slen
  rw [l1] at hR
  clear H1 ho1 hb1 B0
  have H2 := Lib.hid (FactorsOf_any s k w1 hs20)
  rw [← HR.out] at H2
  go_wp2_with fail
  refine H2.out.mono ?_
  rintro e w2 ⟨A2, n2, c2, rfl, ho2, hb2⟩
  have s2 := hb2.size
  have B2 := B1.trans (hb2.mono (by omega))
  have o2 := ho2.win
  have l2 : n2 ≤ 100000 := by have h := o2.rd.slen; have h2 := o1.rd.slen; omega
  have o1 := o1.below hb2 (by omega)
  clear H2 ho2 hb2 B1
  go_wp2_with fail
  refine (eqStringS_same A2 n2 c2 R A1 n1 c1 w2 _ _ o2.rd o1.rd).mono ?_
  rintro e w3 ⟨rfl, hq3⟩
  have hb3 := hq3.bel w2.heap.size
  have s3 := hb3.size
  have B3 := B2.trans (hb3.mono (by omega))
  have o1 := o1.below hb3 (by omega)
  have o2 := o2.below hb3 (by omega)
  clear hq3 hb3 B2
  go_wp2_with fail
  refine (markStringS_any A2 n2 c2 R 1 w3 _ _ o2 (by omega) (by omega) (by omega)).mono ?_
  rintro e w4 ⟨rfl, om4, ht4⟩
  have s4 := ht4.size
  have B4 := B3.trans (ht4.bel (B := w.heap.size) (by omega) (by omega))
  have o1 := o1.turn ht4 (by omega)
  clear o2
  have o2 := om4
  clear om4 ht4 B3
  have k0 : ¬ ((1 : Int) + (n2 : Int) < 0) := by omega
  have k1 : (((1 : Int) + (n2 : Int)) != ((1 : Int) + (n2 : Int))) = false := by simp
  have kw : ((1 : Nat) : Int) = 1 := rfl
  go_wp2_with fail
  refine (heldStringS_any A2 n2 c2 1 w4 (o2.rd' (by omega)) (by omega) (by omega)).mono ?_
  rintro e w5 ⟨rfl, hb5⟩
  have s5 := hb5.size
  have B5 := B4.trans (hb5.mono (by omega))
  have o1 := o1.below hb5 (by omega)
  have o2 := o2.below hb5 (by omega)
  clear hb5 B4
  have H6 := Lib.hid (FactorsOf_any s k w5 hs20)
  rw [← HR.out] at H6
  go_wp2_with fail
  refine H6.out.mono ?_
  rintro e w6 ⟨A6, n6, c6, rfl, ho6, hb6⟩
  have s6 := hb6.size
  have B6 := B5.trans (hb6.mono (by omega))
  have o6 := ho6.win
  have l6 : n6 ≤ 100000 := by have h := o6.rd.slen; have h2 := o1.rd.slen; omega
  have o1 := o1.below hb6 (by omega)
  have o2 := o2.below hb6 (by omega)
  clear H6 ho6 hb6 B5
  go_wp2_with fail
  refine (eqStringS_same A6 n6 c6 R A1 n1 c1 w6 _ _ o6.rd o1.rd).mono ?_
  rintro e w7 ⟨rfl, hq7⟩
  have hb7 := hq7.bel w6.heap.size
  have s7 := hb7.size
  have B7 := B6.trans (hb7.mono (by omega))
  have o2 := o2.below hb7 (by omega)
  clear hq7 hb7 B6
  go_wp2_with fail
  refine (heldStringS_any A2 n2 c2 1 w7 (o2.rd' (by omega)) (by omega) (by omega)).mono ?_
  rintro e w8 ⟨rfl, hb8⟩
  have s8 := hb8.size
  have B8 := B7.trans (hb8.mono (by omega))
  clear hb8 B7
  go_wp2_with fail
  go_ret
  exact ⟨rfl, B8⟩
set_option maxRecDepth 8000 in
set_option maxHeartbeats 3200000 in
theorem walkExactMissingOf (s : List UInt8) (w : World) (hs : s.length ≤ 9223372036854775807) (hvr : Vr w) :
    Calls Try.prog 12 #[.string ⟨s.toArray⟩] w (RetVal w (.bool true)) := by
  by_cases hbig : 1048576 < s.length
  · go_enter Try.func12, Try.ntmps12
    go_wp2_with fail
    go_ret
    exact ⟨rfl, Below.refl _ _⟩
  have hs20 : s.length ≤ 1048576 := by omega
  clear hbig
  have hR : (MS s).length ≤ 100000 := by exact MS_len s
  obtain ⟨R, hRe⟩ : ∃ R, R = MS s := ⟨_, rfl⟩
  have HR := Lib.hid hRe
  rw [← hRe] at hR
  clear hRe
  have B0 := Below.refl w.heap.size w
  go_enter Try.func12, Try.ntmps12
  have H1 := Lib.hid (specMissingOf_any s w hs20)
  rw [← HR.out] at H1
  go_wp2_with fail
  refine H1.out.mono ?_
  rintro e w1 ⟨A1, n1, c1, rfl, ho1, hb1⟩
  have s1 := hb1.size
  have B1 := B0.trans (hb1.mono (by omega))
  have o1 := ho1.win
  have l1 := o1.rd.slen
  rw [l1] at hR
  clear H1 ho1 hb1 B0
  have H2 := Lib.hid (MissingOf_any s w1 hs20 (hvr.keep B1))
  rw [← HR.out] at H2
  go_wp2_with fail
  refine H2.out.mono ?_
  rintro e w2 ⟨A2, n2, c2, rfl, ho2, hb2⟩
  have s2 := hb2.size
  have B2 := B1.trans (hb2.mono (by omega))
  have o2 := ho2.win
  have l2 : n2 ≤ 100000 := by have h := o2.rd.slen; have h2 := o1.rd.slen; omega
  have o1 := o1.below hb2 (by omega)
  clear H2 ho2 hb2 B1
  go_wp2_with fail
  refine (eqStringS_same A2 n2 c2 R A1 n1 c1 w2 _ _ o2.rd o1.rd).mono ?_
  rintro e w3 ⟨rfl, hq3⟩
  have hb3 := hq3.bel w2.heap.size
  have s3 := hb3.size
  have B3 := B2.trans (hb3.mono (by omega))
  have o1 := o1.below hb3 (by omega)
  have o2 := o2.below hb3 (by omega)
  clear hq3 hb3 B2
  go_wp2_with fail
  refine (markStringS_any A2 n2 c2 R 1 w3 _ _ o2 (by omega) (by omega) (by omega)).mono ?_
  rintro e w4 ⟨rfl, om4, ht4⟩
  have s4 := ht4.size
  have B4 := B3.trans (ht4.bel (B := w.heap.size) (by omega) (by omega))
  have o1 := o1.turn ht4 (by omega)
  clear o2
  have o2 := om4
  clear om4 ht4 B3
  have k0 : ¬ ((1 : Int) + (n2 : Int) < 0) := by omega
  have k1 : (((1 : Int) + (n2 : Int)) != ((1 : Int) + (n2 : Int))) = false := by simp
  have kw : ((1 : Nat) : Int) = 1 := rfl
  go_wp2_with fail
  refine (heldStringS_any A2 n2 c2 1 w4 (o2.rd' (by omega)) (by omega) (by omega)).mono ?_
  rintro e w5 ⟨rfl, hb5⟩
  have s5 := hb5.size
  have B5 := B4.trans (hb5.mono (by omega))
  have o1 := o1.below hb5 (by omega)
  have o2 := o2.below hb5 (by omega)
  clear hb5 B4
  have H6 := Lib.hid (MissingOf_any s w5 hs20 (hvr.keep B5))
  rw [← HR.out] at H6
  go_wp2_with fail
  refine H6.out.mono ?_
  rintro e w6 ⟨A6, n6, c6, rfl, ho6, hb6⟩
  have s6 := hb6.size
  have B6 := B5.trans (hb6.mono (by omega))
  have o6 := ho6.win
  have l6 : n6 ≤ 100000 := by have h := o6.rd.slen; have h2 := o1.rd.slen; omega
  have o1 := o1.below hb6 (by omega)
  have o2 := o2.below hb6 (by omega)
  clear H6 ho6 hb6 B5
  go_wp2_with fail
  refine (eqStringS_same A6 n6 c6 R A1 n1 c1 w6 _ _ o6.rd o1.rd).mono ?_
  rintro e w7 ⟨rfl, hq7⟩
  have hb7 := hq7.bel w6.heap.size
  have s7 := hb7.size
  have B7 := B6.trans (hb7.mono (by omega))
  have o2 := o2.below hb7 (by omega)
  clear hq7 hb7 B6
  go_wp2_with fail
  refine (heldStringS_any A2 n2 c2 1 w7 (o2.rd' (by omega)) (by omega) (by omega)).mono ?_
  rintro e w8 ⟨rfl, hb8⟩
  have s8 := hb8.size
  have B8 := B7.trans (hb8.mono (by omega))
  clear hb8 B7
  go_wp2_with fail
  go_ret
  exact ⟨rfl, B8⟩
set_option maxHeartbeats 1600000 in
theorem walkExactLongestTwice (s : List UInt8) (w : World) (hs : s.length ≤ 9223372036854775807) (hvr : Vr w) :
    Calls Try.prog 3 #[.string ⟨s.toArray⟩] w (RetVal w (.bool true)) := by
  by_cases hbig : 1048576 < s.length
  · go_enter Try.func3, Try.ntmps3
    go_wp2_with fail
    go_ret
    exact ⟨rfl, Below.refl _ _⟩
  have hs20 : s.length ≤ 1048576 := by omega
  clear hbig
  have H1 := Lib.hid (specLongestTwice_any s w hs20)
  have H2 := Lib.hid (fun W => LongestTwice_any s W hs20)
  obtain ⟨R, hRe⟩ : ∃ R, R = LT s := ⟨_, rfl⟩
  have HR := Lib.hid hRe
  have hne : (R != R) = false := by simp
  rw [← hRe] at H1 H2
  clear hRe
  go_enter Try.func3, Try.ntmps3
  go_wp2_with fail
  refine H1.out.mono ?_
  rintro e w1 ⟨rfl, hb1⟩
  go_wp2_with fail
  refine (H2.out w1).mono ?_
  rintro e w2 ⟨rfl, hb2⟩
  go_wp2_with fail
  go_ret
  exact ⟨rfl, hb1.trans (hb2.mono hb1.size)⟩
end Go.Proofs.Ytfbmcfdmffpfmaa
