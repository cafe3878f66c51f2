/-
  The laws on parts of texts (FnFactorsOf, FnLongestTwice): their walks.
-/
import Derived.Test.YtfbmcfdmffpfmaaDrawT
import Derived.Test.YtfbmcfdmffpfmaaMissP
import Derived.Test.YtfbmcfdmffpfmaaLawExFac
namespace Go.Proofs.Ytfbmcfdmffpfmaa
open Go.RowKit
set_option linter.unusedVariables false
set_option linter.unusedSimpArgs false

theorem FO_nil {s : List UInt8} {k : Int} (h : FO s k ≠ []) : vt s = true ∧ ∃ m : Nat, k = m ∧ m ≤ 40 ∧ FO s k = fac s m := by
  unfold FO at h ⊢
  split at h
  · next hh =>
    rw [Bool.and_eq_true] at hh
    have h2 := inR_true hh.2
    obtain ⟨m, rfl⟩ := Int.eq_ofNat_of_zero_le h2.1
    refine ⟨hh.1, m, rfl, by omega, ?_⟩
    rw [if_pos (by rw [hh.1, hh.2]; rfl)]
    rfl
  · exact absurd rfl h
theorem FO_fac {s : List UInt8} (h : vt s = true) {m : Nat} (hm : m ≤ 40) : FO s (m : Int) = fac s m := by
  unfold FO
  rw [if_pos (by rw [h, inR_eq_true (by omega)]; rfl)]
  rfl
theorem fac_vt {s : List UInt8} (h : vt s = true) {k : Nat} {x : List UInt8} (hx : x ∈ fac s k) : vt x = true := by
  have h1 := (fac_has hx).2
  have h2 := has_le h1
  have h3 := vt_len h
  rw [hasL_iff] at h1
  exact vt_mk (fun c hc => vt_ok h c (h1.subset hc)) (by omega)
theorem equalTexts_same (A : Option Addr) (n c : Nat) (us : List (List UInt8)) (A2 : Option Addr) (n2 c2 : Nat) (w : World) (B B2 : Nat) (hr : Rd w B A n c (us.map S)) (hr2 : Rd w B2 A2 n2 c2 (us.map S)) :
    Calls Try.prog 30 #[.slice A n c, .slice A2 n2 c2] w fun e w' => e = .returned (.bool true) ∧ Quiet w w' :=
  (equalTexts_any A n c us A2 n2 c2 us w (max B B2) (hr.more (Nat.le_max_left _ _)) (hr2.more (Nat.le_max_right _ _))).mono fun _ _ ⟨h1, h2⟩ => ⟨h1.trans (ret_bool (by simp)), h2⟩
set_option maxRecDepth 8000 in
set_option maxHeartbeats 3200000 in
theorem walkFactorsOf (A : Option Addr) (nc c : Nat) (zs : List Int) (w : World) (hr : Rd w w.heap.size A nc c (zs.map U8)) (hz : ∀ z ∈ zs, 0 ≤ z ∧ z ≤ 255) (hvr : Vr w) :
    Calls Try.prog 14 #[.slice A nc c] w (RetVal w (.bool true)) := by
  by_cases hbig : 1048576 < nc
  · go_enter Try.func14, Try.ntmps14
    go_wp2_with fail
    go_ret
    exact ⟨rfl, Below.refl _ _⟩
  have HD := Lib.hid (DrawFactorsOf_any A nc c zs w hr hz)
  clear hr hz
  go_enter Try.func14, Try.ntmps14
  go_wp2_with fail
  refine HD.out.mono ?_
  rintro e w1 ⟨s, k, rfl, hs, hk0, hk1, hb1⟩
  have hvr1 := hvr.keep hb1
  have s1 := hb1.size
  clear HD hvr hbig
  obtain ⟨R, hRe⟩ : ∃ R, R = FO s k := ⟨_, rfl⟩
  have HR := Lib.hid hRe
  clear hRe
  have H2 := Lib.hid (FactorsOf_any s k w1 (by omega))
  rw [← HR.out] at H2
  go_wp2_with fail
  refine H2.out.mono ?_
  rintro e w2 ⟨A2, n2, c2, rfl, ho2, hb2⟩
  have s2 := hb2.size
  have B2 := hb1.trans (hb2.mono (by omega))
  have o2 := ho2.win
  have hvr2 := hvr1.keep hb2
  have H3 := Lib.hid (specFactorsOf_any s k w2 (by omega))
  rw [← HR.out] at H3
  clear H2 ho2 hb2 hb1 hvr1
  go_wp2_with fail
  refine H3.out.mono ?_
  rintro e w3 ⟨A3, n3, c3, rfl, ho3, hb3⟩
  have s3 := hb3.size
  have B3 := B2.trans (hb3.mono (by omega))
  have o3 := ho3.win
  have o2 := o2.below hb3 (by omega)
  have hvr3 := hvr2.keep hb3
  clear H3 ho3 hb3 B2 hvr2
  go_wp2_with fail
  refine (equalTexts_same A2 n2 c2 R A3 n3 c3 w3 _ _ o2.rd o3.rd).mono ?_
  rintro e w4 ⟨rfl, hq4⟩
  have hb4 := hq4.bel w3.heap.size
  have s4 := hb4.size
  have B4 := B3.trans (hb4.mono (by omega))
  have o2 := o2.below hb4 (by omega)
  have hvr4 := hvr3.keep hb4
  clear hq4 hb4 B3 hvr3 o3
  by_cases hn0 : n2 = 0
  · subst hn0
    have H5 := Lib.hid (specFactorsOf_any s k w4 (by omega))
    rw [← HR.out] at H5
    go_wp2_with fail
    refine H5.out.mono ?_
    rintro e w5 ⟨A5, n5, c5, rfl, ho5, hb5⟩
    have s5 := hb5.size
    have B5 := B4.trans (hb5.mono (by omega))
    have o5 := ho5.win
    have o2 := o2.below hb5 (by omega)
    clear H5 ho5 hb5 B4
    go_wp2_with fail
    refine (equalTexts_same A2 0 c2 R A5 n5 c5 w5 _ _ o2.rd o5.rd).mono ?_
    rintro e w6 ⟨rfl, hq6⟩
    have B6 := B5.trans ((hq6.bel w5.heap.size).mono (by omega))
    clear hq6
    go_wp2_with fail
    go_ret
    exact ⟨rfl, B6⟩
  have hl2 := o2.rd.slen
  have hRn : R ≠ [] := by intro h; rw [h] at hl2; simp at hl2; omega
  rw [HR.out] at hRn
  obtain ⟨hv, m, rfl, hm, hF⟩ := FO_nil hRn
  rw [← HR.out] at hF
  subst hF
  have hs40 := vt_len hv
  have hlen := fac_len s m
  have hm0 : m ≤ s.length := by
    rw [hl2] at hlen
    omega
  clear hRn HR
  obtain ⟨m1, hm1⟩ : ∃ m1 : Nat, m1 = m - 1 := ⟨_, rfl⟩
  have H5 := Lib.hid (FactorsOf_any s (m1 : Int) w4 (by omega))
  rw [FO_fac hv (show m1 ≤ 40 by omega)] at H5
  have hw1 : IntKind.i64.wrap ((m : Int) - 1) = (m : Int) - 1 := by rw [IntKind.wrap_i64]; omega
  have hmx : max ((m : Int) - 1) 0 = (m1 : Int) := by omega
  have hn41 : n2 ≤ 41 := by omega
  have hM := Lib.hid hm1
  clear hm1
  go_wp2_with fail
  refine H5.out.mono ?_
  rintro e w5 ⟨A5, n5, c5, rfl, ho5, hb5⟩
  have s5 := hb5.size
  have B5 := B4.trans (hb5.mono (by omega))
  have o5 := ho5.win
  have o2 := o2.below hb5 (by omega)
  have hvr5 := hvr4.keep hb5
  clear H5 ho5 hb5 B4 hvr4 hw1 hmx
  go_wp2_with fail
  go_loopw [7] (fun i wr => ∃ j : Nat, j ≤ n2 ∧ i = .int .i64 j ∧ w5.heap.size ≤ wr.heap.size ∧ Below w5.heap.size w5 wr) (fun i _ => n2 - (intOf i).toNat)
  case atStart => exact ⟨0, by omega, rfl, by omega, Below.refl _ _⟩
  case round =>
    obtain ⟨j, hj, rfl, hsz, hbr⟩ := hrel
    obtain ⟨wq, rfl⟩ : ∃ wq : World, wq = wr := ⟨_, rfl⟩
    have B6 := B5.trans (hbr.mono (by omega))
    have o2 := o2.below hbr (by omega)
    have o5 := o5.below hbr (by omega)
    have hvr6 := hvr5.keep hbr
    by_cases hlt : j < n2
    · obtain ⟨b, o, x, rfl, hb, hx, hc⟩ := o2.rd.str hlt
      have hxm := List.mem_of_getElem? hx
      have hxl := (fac_has hxm).1
      have hxh := (fac_has hxm).2
      have hxv := fac_vt hv hxm
      have hj1 : (j : Int) < (n2 : Int) := by omega
      have hne1 : ((x.length : Int) != (m : Int)) = false := by rw [hxl]; simp
      have H7 := Lib.hid (HasWord_any s x wq (by omega) (by omega) hvr6)
      rw [hv, hxv, hxh] at H7
      by_cases hm00 : m = 0
      · subst hm00
        clear hx
        go_wp2_with fail
        refine H7.out.mono ?_
        rintro e w8 ⟨rfl, hb8⟩
        have s8 := hb8.size
        have B8 := hbr.trans (hb8.mono hsz)
        clear hb8 B6 hbr
        go_wp2_with fail
        refine ⟨⟨_, _, _, _, _, _, _, _, _, _, _, _, _, _, _, _, _, _, _, _, _, _, _, _, _, _, _, _, _, _, _, _, _, _, _, _, _, _, ⟨j + 1, by omega, by go_num, by omega, B8⟩, rfl⟩, ?_⟩
        simp [intOf]
        omega
      · have hd := fac_drop (by omega) hxm
        have hd : x.drop 1 ∈ fac s m1 := by rw [hM.out]; exact hd
        have hmp : (0 : Int) < (m : Int) := by omega
        obtain ⟨y0, y1, rfl⟩ : ∃ y0 y1, x = y0 :: y1 := by
          cases x with
          | nil => simp at hxl; omega
          | cons a b => exact ⟨a, b, rfl⟩
        rw [List.drop_one, List.tail_cons] at hd
        clear hx
        go_wp2_with fail
        refine H7.out.mono ?_
        rintro e w8 ⟨rfl, hb8⟩
        have s8 := hb8.size
        have B8 := hbr.trans (hb8.mono hsz)
        have o5 := o5.below hb8 (by omega)
        have o2 := o2.below hb8 (by omega)
        have hc8 := (World.cell?_of_block (hb8.block b (by omega))).trans hc
        clear B6 hbr hc
        have Hd := Lib.hid (show (fac s m1).contains (List.take (m - 1) y1) = true by
          rw [List.contains_iff_mem]
          have e : List.take (m - 1) y1 = y1 := List.take_of_length_le (by simp at hxl; omega)
          rw [e]
          exact hd)
        have H9 := Lib.hid (hasText_any A5 n5 c5 (fac s m1) (List.take (m - 1) y1) w8 _ o5.rd)
        rw [Hd.out] at H9
        clear hd
        go_wp2_with fail
        refine H9.out.mono ?_
        rintro e w9 ⟨rfl, hq9⟩
        have B9 := B8.trans ((hq9.bel w8.heap.size).mono (by omega))
        have s9 := hq9.size
        clear hq9 B8
        go_wp2_with fail
        refine ⟨⟨j + 1, by omega, by go_num, by omega, B9⟩, ?_⟩
        simp [intOf]
        omega
    · have H9 := Lib.hid (rises_any A2 n2 c2 _ wq _ o2.rd (fac_asc s m))
      go_wp2_with fail
      refine H9.out.mono ?_
      rintro e w8 ⟨rfl, hq8⟩
      have B8 := B6.trans ((hq8.bel wq.heap.size).mono (by omega))
      clear hq8 B6
      have hcnt : (n2 : Int) ≤ max ((s.length : Int) - (m : Int) + 1) 1 := by omega
      have hw2 : IntKind.i64.wrap ((s.length : Int) - (m : Int)) = (s.length : Int) - (m : Int) := by rw [IntKind.wrap_i64]; omega
      have hw3 : IntKind.i64.wrap ((s.length : Int) - (m : Int) + 1) = (s.length : Int) - (m : Int) + 1 := by rw [IntKind.wrap_i64]; omega
      go_wp2_with fail
      go_ret
      exact ⟨rfl, B8⟩
theorem cnt_places {s u : List UInt8} (h : 2 ≤ cntW s u) (hu : u ≠ []) : 2 ≤ (plTo s u s.length).length := by
  rw [plTo_count hu]
  exact h
set_option maxRecDepth 8000 in
set_option maxHeartbeats 3200000 in
theorem walkLongestTwice (A : Option Addr) (nc c : Nat) (zs : List Int) (w : World) (hr : Rd w w.heap.size A nc c (zs.map U8)) (hz : ∀ z ∈ zs, 0 ≤ z ∧ z ≤ 255) (hvr : Vr w) :
    Calls Try.prog 8 #[.slice A nc c] w (RetVal w (.bool true)) := by
  by_cases hbig : 1048576 < nc
  · go_enter Try.func8, Try.ntmps8
    go_wp2_with fail
    go_ret
    exact ⟨rfl, Below.refl _ _⟩
  have HD := Lib.hid (DrawLongestTwice_any A nc c zs w hr hz)
  clear hr hz
  go_enter Try.func8, Try.ntmps8
  go_wp2_with fail
  refine HD.out.mono ?_
  rintro e w1 ⟨s, rfl, hs, hb1⟩
  have s1 := hb1.size
  clear HD hvr hbig
  obtain ⟨R, hRe⟩ : ∃ R, R = LT s := ⟨_, rfl⟩
  have HR := Lib.hid hRe
  clear hRe
  have H2 := Lib.hid (LongestTwice_any s w1 (by omega))
  rw [← HR.out] at H2
  have hRR : (R != R) = false := by simp
  have hRR2 : (R == R) = true := by simp
  go_wp2_with fail
  refine H2.out.mono ?_
  rintro e w2 ⟨rfl, hb2⟩
  have s2 := hb2.size
  have B2 := hb1.trans (hb2.mono (by omega))
  have H3 := Lib.hid (specLongestTwice_any s w2 (by omega))
  rw [← HR.out] at H3
  clear H2 hb2 hb1
  go_wp2_with fail
  refine H3.out.mono ?_
  rintro e w3 ⟨rfl, hb3⟩
  have s3 := hb3.size
  have B3 := B2.trans (hb3.mono (by omega))
  clear H3 hb3 B2
  have H4 := Lib.hid (ValidText_any s w3 (by omega))
  go_wp2_with fail
  refine H4.out.mono ?_
  rintro e w4 ⟨rfl, hb4⟩
  have s4 := hb4.size
  have B4 := B3.trans (hb4.mono (by omega))
  clear H4 hb4 B3
  cases hv : vt s with
  | false =>
    clear hv
    have H5 := Lib.hid (specLongestTwice_any s w4 (by omega))
    rw [← HR.out] at H5
    go_wp2_with fail
    refine H5.out.mono ?_
    rintro e w5 ⟨rfl, hb5⟩
    have B5 := B4.trans (hb5.mono (by omega))
    clear hb5
    go_wp2_with fail
    go_ret
    exact ⟨rfl, B5⟩
  | true =>
    have hs40 := vt_len hv
    obtain ⟨hR1, hR2, hR3, hR4⟩ := LT_law hv
    rw [← HR.out] at hR1 hR2 hR3 hR4
    have Hv := Lib.hid hv
    have HvR := Lib.hid hR3
    clear hv hR3
    have hwk : IntKind.i64.wrap ((R.length : Int) + 1) = (R.length : Int) + 1 := by rw [IntKind.wrap_i64]; omega
    have hmx : ((s.length : Int) - ((R.length : Int) + 1) + 1) = (s.length : Int) - (R.length : Int) := by omega
    have hw2 : IntKind.i64.wrap ((s.length : Int) - ((R.length : Int) + 1)) = (s.length : Int) - ((R.length : Int) + 1) := by rw [IntKind.wrap_i64]; omega
    have hw3 : IntKind.i64.wrap ((s.length : Int) - ((R.length : Int) + 1) + 1) = (s.length : Int) - ((R.length : Int) + 1) + 1 := by rw [IntKind.wrap_i64]; omega
    have hmx : max ((s.length : Int) - ((R.length : Int) + 1) + 1) 0 = ((s.length - R.length : Nat) : Int) := by omega
    have H6 := Lib.hid (show ∀ wq : World, Calls Try.prog 28 #[.string ⟨s.toArray⟩, .int .i64 ((R.length : Int) + 1)] wq (RetRow wq 9 ((fac s (R.length + 1)).map S)) from fun wq => by
      have h := FactorsOf_any s ((R.length + 1 : Nat) : Int) wq (by omega)
      rw [FO_fac Hv.out (by omega)] at h
      exact h)
    by_cases hne : R = []
    · subst hne
      have H7 := Lib.hid (show Calls Try.prog 28 #[.string ⟨s.toArray⟩, .int .i64 1] w4 (RetRow w4 9 ((fac s 1).map S)) from H6.out w4)
      have hR5 : (fac s 1).length = s.length := hR4
      clear H6 hR4 hmx hw2 hw3 hwk hR1 hR2 HvR
      go_wp2_with fail
      refine H7.out.mono ?_
      rintro e w5 ⟨A5, n5, c5, rfl, ho5, hb5⟩
      have B5 := B4.trans (hb5.mono (by omega))
      have o5 := ho5.win
      have hl := o5.rd.slen
      rw [hR5] at hl
      subst hl
      clear hb5 hR5
      have hw2 : IntKind.i64.wrap ((s.length : Int) - 1) = (s.length : Int) - 1 := by rw [IntKind.wrap_i64]; omega
      have hw3 : IntKind.i64.wrap ((s.length : Int) - 1 + 1) = (s.length : Int) := by rw [IntKind.wrap_i64]; omega
      have hw4 : IntKind.i64.wrap (s.length : Int) = (s.length : Int) := by rw [IntKind.wrap_i64]; omega
      have hmx : max (s.length : Int) 0 = (s.length : Int) := by omega
      go_wp2_with fail
      go_ret
      exact ⟨rfl, B5⟩
    · have hne2 : (R == []) = false := by simpa using hne
      rcases hR1 with hR1 | hR1
      · exact absurd hR1 hne
      have h2 := cnt_places hR1 hne
      have H5 := Lib.hid (PlacesOf_any s R w4 Hv.out HvR.out hne)
      clear hR1 hne
      go_wp2_with fail
      refine H5.out.mono ?_
      rintro e w5 ⟨A5, n5, c5, rfl, ho5, hb5⟩
      have s5 := hb5.size
      have B5 := B4.trans (hb5.mono (by omega))
      have o5 := ho5.win
      have hl := o5.rd.ilen
      have h2' : (2 : Int) ≤ (n5 : Int) := by omega
      clear hb5 ho5 H5
      have H7 := H6.out w5
      have H7 := Lib.hid H7
      go_wp2_with fail
      refine H7.out.mono ?_
      rintro e w6 ⟨A6, n6, c6, rfl, ho6, hb6⟩
      have B6 := B5.trans (hb6.mono (by omega))
      have o6 := ho6.win
      have hl6 := o6.rd.slen
      rw [hR4] at hl6
      subst hl6
      clear hb6 H7 ho6
      go_wp2_with fail
      go_ret
      exact ⟨ret_bool (by rw [beq_iff_eq]; omega), B6⟩
end Go.Proofs.Ytfbmcfdmffpfmaa
