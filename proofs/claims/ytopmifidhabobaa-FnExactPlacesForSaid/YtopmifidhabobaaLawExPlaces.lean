/-
  The exact law of PlacesFor: its walk.
-/
import Derived.Test.YtopmifidhabobaaSsl
import Derived.Test.YtopmifidhabobaaPly
import Derived.Outline
namespace Go.Proofs.Ytopmifidhabobaa
open Go.RowKit
set_option linter.unusedVariables false
set_option linter.unusedSimpArgs false

theorem lvS_short (f : Nat) (top : Int) : ∀ pts left, ∀ y ∈ lvS f top pts left, y.length ≤ pts.length + f := by
  induction f with
  | zero =>
    intro pts left y hy
    rw [lvS] at hy
    split at hy
    · rw [List.mem_singleton] at hy
      subst hy
      rw [srt_len]
      omega
    · cases hy
  | succ f ih =>
    intro pts left y hy
    have key : ∀ x, y ∈ tryS (lvS f top) pts left x → y.length ≤ pts.length + (f + 1) := by
      intro x hx
      unfold tryS at hx
      split at hx
      · cases hx
      · have := ih _ _ y hx
        rw [List.length_append, List.length_singleton] at this
        omega
    rw [lvS] at hy
    split at hy
    · rw [List.mem_singleton] at hy
      subst hy
      rw [srt_len]
      omega
    · rw [List.mem_append] at hy
      rcases hy with hy | hy
      · exact key _ hy
      · split at hy
        · cases hy
        · exact key _ hy
theorem PL_small (zs : List Int) : (PL zs).length ≤ 16384 ∧ ∀ y ∈ PL zs, y.length ≤ 20 := by
  unfold PL
  split
  · simp
  · next h =>
    have hv : vd zs = true := by simpa using h
    have hl := vd_len hv
    split
    · simp
    · constructor
      · have h1 := fold_len (lvS (zs.length - 1) (topOf zs) [0, topOf zs] zs.dropLast) []
        have h2 := lvS_len (zs.length - 1) (topOf zs) [0, topOf zs] zs.dropLast
        have h3 : 2 ^ (zs.length - 1) ≤ 2 ^ 14 := Nat.pow_le_pow_right (by omega) (by omega)
        have h4 : 2 ^ 14 = 16384 := by decide
        rw [List.length_nil] at h1
        omega
      · intro y hy
        have h1 := ((fold_insU (lvS (zs.length - 1) (topOf zs) [0, topOf zs] zs.dropLast) [] (by simp [Asc])).2 y).1 hy
        have h2 := lvS_short (zs.length - 1) (topOf zs) [0, topOf zs] zs.dropLast y (h1.elim id (fun h => by cases h))
        simp at h2
        omega
theorem sum_small : ∀ l : List Nat, (∀ x ∈ l, x ≤ 1000) → l.sum ≤ l.length * 1000 := by
  intro l
  induction l with
  | nil => intro _; simp
  | cons a l ih =>
    intro h
    have h1 := ih (fun x hx => h x (by simp [hx]))
    have h2 := h a (by simp)
    rw [List.sum_cons, List.length_cons]
    omega
set_option maxRecDepth 8000 in
set_option maxHeartbeats 6400000 in
theorem walkExactPlacesFor (P0 : Option Addr) (p0 q0 : Nat) (zs : List Int) (w : World) (hr : Rd w w.heap.size P0 p0 q0 (zs.map I)) :
    Calls Try.prog 3 #[.slice P0 p0 q0] w (RetVal w (.bool true)) := by
  by_cases hbig : 1048576 < p0
  · go_enter Try.func3, Try.ntmps3
    go_wp2_with fail
    go_ret
    exact ⟨rfl, Below.refl _ _⟩
  have hp : p0 ≤ 1048576 := by omega
  clear hbig
  have HS := Lib.hid (PL_small zs)
  obtain ⟨R, hR⟩ : ∃ R, R = PL zs := ⟨_, rfl⟩
  have HR := Lib.hid hR
  rw [← hR] at HS
  clear hR
  have Hz := Lib.hid hr.ilen
  have B0 := Below.refl w.heap.size w
  have hown : ∀ (W : World) (lo hi : Nat) (A : Option Addr) (n c : Nat) (Q : List SP), SS W lo hi A n c Q FI → Q.map Prod.snd = R → off Q n ≤ 100000000 := by
    intro W lo hi A n c Q hs hQ
    have h1 := sum_small ((Q.take n).map fun p => p.1.2.1) (by
      intro x hx
      obtain ⟨p, hp, rfl⟩ := List.mem_map.1 hx
      obtain ⟨i, hi, rfl⟩ := List.mem_iff_getElem.1 (List.mem_of_mem_take hp)
      have h2 := (hs.inner i _ (List.getElem?_eq_getElem hi)).1
      have h3 := HS.out.2 (Q[i]).2 (by rw [← hQ]; exact List.mem_map_of_mem (List.getElem_mem hi))
      unfold FI at h2
      rw [List.length_map] at h2
      omega)
    have h2 := HS.out.1
    rw [← hQ, List.length_map] at h2
    rw [List.length_map, List.length_take] at h1
    unfold off
    have h3 : min n Q.length ≤ 16384 := by omega
    have h4 := Nat.mul_le_mul_right 1000 h3
    omega
  go_enter Try.func3, Try.ntmps3
  go_wp2_with fail
  refine (toIntS_any P0 p0 q0 zs w hr hp).mono ?_
  rintro e w1 ⟨A1, n1, c1, rfl, ho1, hb1⟩
  have s1 := hb1.size
  have B1 := B0.trans (hb1.mono (by omega))
  have o1 := ho1.win
  have hn1 : n1 ≤ 1048576 := by have h := ho1.rd.ilen; have h2 := Hz.out; omega
  clear ho1
  clear B0 hb1
  go_wp2_with fail
  refine (specPlacesFor_any A1 n1 c1 zs w1 (o1.rd' (by omega)) hn1).mono ?_
  rintro e w2 ⟨A2, n2, c2, P2, rfl, ho2, hi2, hP2, hb2⟩
  have s2 := hb2.size
  have B2 := B1.trans (hb2.mono (by omega))
  have o1 := o1.below hb2 (by omega)
  have o2 := SS.of ho2 hi2
  rw [← HR.out] at hP2
  clear ho2 hi2
  clear B1 hb2
  clear o1
  go_wp2_with fail
  refine (toIntS_any P0 p0 q0 zs w2 ((hr.below B2).more (by omega)) hp).mono ?_
  rintro e w3 ⟨A3, n3, c3, rfl, ho3, hb3⟩
  have s3 := hb3.size
  have B3 := B2.trans (hb3.mono (by omega))
  have o2 := o2.below hb3 (by omega)
  have o3 := ho3.win
  have hn3 : n3 ≤ 1048576 := by have h := ho3.rd.ilen; have h2 := Hz.out; omega
  clear ho3
  clear B2 hb3
  go_wp2_with fail
  refine (PlacesFor_any A3 n3 c3 zs w3 (o3.rd' (by omega)) hn3).mono ?_
  rintro e w4 ⟨A4, n4, c4, P4, rfl, ho4, hi4, hd4, hP4, hb4⟩
  have s4 := hb4.size
  have B4 := B3.trans (hb4.mono (by omega))
  have o2 := o2.below hb4 (by omega)
  have o3 := o3.below hb4 (by omega)
  have o4 := SS.of ho4 hi4
  rw [← HR.out] at hP4
  have hf4 : off P4 n4 ≤ 100000000 := hown _ _ _ _ _ _ _ o4 hP4
  clear ho4 hi4
  clear B3 hb4
  go_wp2_with fail
  refine (eqIntSS_same A4 n4 c4 P4 A2 n2 c2 P2 w4 _ _ _ _ o4 o2 (hP4.trans hP2.symm)).mono ?_
  rintro e w5 ⟨rfl, hq5⟩
  have hb5 := hq5.bel w4.heap.size
  have s5 := hb5.size
  have B5 := B4.trans (hb5.mono (by omega))
  have o2 := o2.below hb5 (by omega)
  have o3 := o3.below hb5 (by omega)
  have o4 := o4.below hb5 (by omega)
  clear B4 hb5 hq5
  go_wp2_with fail
  refine (toIntS_any P0 p0 q0 zs w5 ((hr.below B5).more (by omega)) hp).mono ?_
  rintro e w6 ⟨A6, n6, c6, rfl, ho6, hb6⟩
  have s6 := hb6.size
  have B6 := B5.trans (hb6.mono (by omega))
  have o2 := o2.below hb6 (by omega)
  have o3 := o3.below hb6 (by omega)
  have o4 := o4.below hb6 (by omega)
  have o6 := ho6.win
  have hn6 : n6 ≤ 1048576 := by have h := ho6.rd.ilen; have h2 := Hz.out; omega
  clear ho6
  clear B5 hb6
  go_wp2_with fail
  refine (eqIntS_same A3 n3 c3 zs A6 n6 c6 w6 _ _ o3.rd o6.rd).mono ?_
  rintro e w7 ⟨rfl, hq7⟩
  have hb7 := hq7.bel w6.heap.size
  have s7 := hb7.size
  have B7 := B6.trans (hb7.mono (by omega))
  have o2 := o2.below hb7 (by omega)
  have o3 := o3.below hb7 (by omega)
  have o4 := o4.below hb7 (by omega)
  have o6 := o6.below hb7 (by omega)
  clear B6 hb7 hq7
  clear o6
  go_wp2_with fail
  refine (markIntS_any A3 n3 c3 zs 1 w7 _ _ o3 (by omega) (by omega)).mono ?_
  rintro e w8 ⟨rfl, om8, ht8⟩
  have s8 := ht8.size
  have B8 := B7.trans (ht8.bel (B := w.heap.size) (by omega) (by omega))
  have o2 := o2.turn ht8 (by omega)
  have o4 := o4.turn ht8 (by omega)
  have o3 := om8
  clear om8
  clear B7 ht8
  have k0 : ¬ (1 + (n3 : Int) < 0) := by omega
  clear o3
  go_wp2_with fail
  refine (eqIntSS_same A4 n4 c4 P4 A2 n2 c2 P2 w8 _ _ _ _ o4 o2 (hP4.trans hP2.symm)).mono ?_
  rintro e w9 ⟨rfl, hq9⟩
  have hb9 := hq9.bel w8.heap.size
  have s9 := hb9.size
  have B9 := B8.trans (hb9.mono (by omega))
  have o2 := o2.below hb9 (by omega)
  have o4 := o4.below hb9 (by omega)
  clear B8 hb9 hq9
  go_wp2_with fail
  refine (markIntSS_any A4 n4 c4 P4 1 w9 _ _ o4 hd4 (by omega) (by omega)).mono ?_
  rintro e w10 ⟨rfl, om10, ht10⟩
  have s10 := ht10.size
  have B10 := B9.trans (ht10.bel (B := w.heap.size) (by omega) (by omega))
  have o2 := o2.turn ht10 (by omega)
  have o4 := om10
  clear om10
  clear B9 ht10
  obtain ⟨T, hT⟩ : ∃ T, T = 1 + (off P4 n4 : Int) := ⟨_, rfl⟩
  rw [← hT]
  have k1 : ¬ (T < 0) := by omega
  have k2 : (T != T) = false := by simp
  have hH10 := heldIntSS_any A4 n4 c4 P4 1 w10 _ _ o4 (by omega) (by omega)
  rw [← hT] at hH10
  go_wp2_with fail
  refine (hH10).mono ?_
  rintro e w11 ⟨rfl, hq11⟩
  have hb11 := hq11.bel w10.heap.size
  have s11 := hb11.size
  have B11 := B10.trans (hb11.mono (by omega))
  have o2 := o2.below hb11 (by omega)
  have o4 := o4.below hb11 (by omega)
  clear hH10
  clear B10 hb11 hq11
  go_wp2_with fail
  refine (toIntS_any P0 p0 q0 zs w11 ((hr.below B11).more (by omega)) hp).mono ?_
  rintro e w12 ⟨A12, n12, c12, rfl, ho12, hb12⟩
  have s12 := hb12.size
  have B12 := B11.trans (hb12.mono (by omega))
  have o2 := o2.below hb12 (by omega)
  have o4 := o4.below hb12 (by omega)
  have o12 := ho12.win
  have hn12 : n12 ≤ 1048576 := by have h := ho12.rd.ilen; have h2 := Hz.out; omega
  clear ho12
  clear B11 hb12
  go_wp2_with fail
  refine (PlacesFor_any A12 n12 c12 zs w12 (o12.rd' (by omega)) hn12).mono ?_
  rintro e w13 ⟨A13, n13, c13, P13, rfl, ho13, hi13, hd13, hP13, hb13⟩
  have s13 := hb13.size
  have B13 := B12.trans (hb13.mono (by omega))
  have o2 := o2.below hb13 (by omega)
  have o4 := o4.below hb13 (by omega)
  have o12 := o12.below hb13 (by omega)
  have o13 := SS.of ho13 hi13
  rw [← HR.out] at hP13
  have hf13 : off P13 n13 ≤ 100000000 := hown _ _ _ _ _ _ _ o13 hP13
  clear ho13 hi13
  clear B12 hb13
  clear o12
  go_wp2_with fail
  refine (eqIntSS_same A13 n13 c13 P13 A2 n2 c2 P2 w13 _ _ _ _ o13 o2 (hP13.trans hP2.symm)).mono ?_
  rintro e w14 ⟨rfl, hq14⟩
  have hb14 := hq14.bel w13.heap.size
  have s14 := hb14.size
  have B14 := B13.trans (hb14.mono (by omega))
  have o2 := o2.below hb14 (by omega)
  have o4 := o4.below hb14 (by omega)
  have o13 := o13.below hb14 (by omega)
  clear B13 hb14 hq14
  clear o13
  clear o2
  have hH14 := heldIntSS_any A4 n4 c4 P4 1 w14 _ _ o4 (by omega) (by omega)
  rw [← hT] at hH14
  go_wp2_with fail
  refine (hH14).mono ?_
  rintro e w15 ⟨rfl, hq15⟩
  have hb15 := hq15.bel w14.heap.size
  have s15 := hb15.size
  have B15 := B14.trans (hb15.mono (by omega))
  have o4 := o4.below hb15 (by omega)
  clear hH14
  clear B14 hb15 hq15
  go_wp2_with fail
  go_ret
  exact ⟨rfl, B15⟩
end Go.Proofs.Ytopmifidhabobaa
