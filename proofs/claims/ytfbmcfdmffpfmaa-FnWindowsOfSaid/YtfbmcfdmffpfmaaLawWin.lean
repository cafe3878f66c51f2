/-
  The law on windows (FnWindowsOf): its walk.
-/
import Derived.Test.YtfbmcfdmffpfmaaLawFacs
import Derived.Test.YtfbmcfdmffpfmaaWin
import Derived.Test.YtfbmcfdmffpfmaaAppN
import Derived.Test.YtfbmcfdmffpfmaaTxsL
namespace Go.Proofs.Ytfbmcfdmffpfmaa
open Go.RowKit
set_option linter.unusedVariables false
set_option linter.unusedSimpArgs false

theorem getD_some {L : List (List UInt8)} {i : Nat} {x : List UInt8} (h : L[i]? = some x) : L.getD i [] = x := by rw [List.getD_eq_getElem?_getD, h]; rfl
theorem adjT_first {L : List (List UInt8)} {x : List UInt8} (h : L[0]? = some x) : adjT L (0 + 1) = adjT L 0 ++ [x] := by
  rw [show adjT L (0 + 1) = adjT L 0 ++ (if 0 = 0 ∨ L.getD 0 [] ≠ L.getD (0 - 1) [] then [L.getD 0 []] else []) from rfl, if_pos (.inl rfl), getD_some h]
theorem adjT_new {L : List (List UInt8)} {i m : Nat} {x y : List UInt8} (hx : L[i]? = some x) (hy : L[m]? = some y) (hm : m + 1 = i) (hne : x ≠ y) : adjT L (i + 1) = adjT L i ++ [x] := by
  subst hm
  rw [adjT, if_pos (.inr (by rw [getD_some hx, show m + 1 - 1 = m by omega, getD_some hy]; exact hne)), getD_some hx]
theorem adjT_old {L : List (List UInt8)} {i m : Nat} {x y : List UInt8} (hx : L[i]? = some x) (hy : L[m]? = some y) (hm : m + 1 = i) (hne : x = y) : adjT L (i + 1) = adjT L i := by
  subst hm
  rw [adjT, if_neg (by rw [getD_some hx, show m + 1 - 1 = m by omega, getD_some hy]; simp [hne]), List.append_nil]
set_option maxRecDepth 8000 in
set_option maxHeartbeats 3200000 in
theorem walkWindowsOf (A : Option Addr) (nc c : Nat) (zs : List Int) (w : World) (hr : Rd w w.heap.size A nc c (zs.map U8)) (hz : ∀ z ∈ zs, 0 ≤ z ∧ z ≤ 255) (hvr : Vr w) :
    Calls Try.prog 6 #[.slice A nc c] w (RetVal w (.bool true)) := by
  by_cases hbig : 1048576 < nc
  · go_enter Try.func6, Try.ntmps6
    go_wp2_with fail
    go_ret
    exact ⟨rfl, Below.refl _ _⟩
  have HD := Lib.hid (DrawWindowsOf_any A nc c zs w hr hz)
  clear hr hz
  go_enter Try.func6, Try.ntmps6
  go_wp2_with fail
  refine HD.out.mono ?_
  rintro e w1 ⟨s, k, rfl, hs, hk0, hk1, hb1⟩
  have hvr1 := hvr.keep hb1
  have s1 := hb1.size
  clear HD hvr hbig
  obtain ⟨R, hRe⟩ : ∃ R, R = WO s k := ⟨_, rfl⟩
  have HR := Lib.hid hRe
  clear hRe
  have H2 := Lib.hid (WindowsOf_any s k w1 (by omega))
  rw [← HR.out] at H2
  go_wp2_with fail
  refine H2.out.mono ?_
  rintro e w2 ⟨A2, n2, c2, rfl, ho2, hb2⟩
  have s2 := hb2.size
  have B2 := hb1.trans (hb2.mono (by omega))
  have o2 := ho2.win
  have H3 := Lib.hid (specWindowsOf_any s k w2 (by omega))
  rw [← HR.out] at H3
  clear H2 ho2 hb2 hb1 hvr1
  go_wp2_with fail
  refine H3.out.mono ?_
  rintro e w3 ⟨A3, n3, c3, rfl, ho3, hb3⟩
  have s3 := hb3.size
  have B3 := B2.trans (hb3.mono (by omega))
  have o3 := ho3.win
  have o2 := o2.below hb3 (by omega)
  clear H3 ho3 hb3 B2
  go_wp2_with fail
  refine (equalTexts_same A2 n2 c2 R A3 n3 c3 w3 _ _ o2.rd o3.rd).mono ?_
  rintro e w4 ⟨rfl, hq4⟩
  have hb4 := hq4.bel w3.heap.size
  have s4 := hb4.size
  have B4 := B3.trans (hb4.mono (by omega))
  have o2 := o2.below hb4 (by omega)
  clear hq4 hb4 B3 o3
  have HV := Lib.hid (ValidText_any s w4 (by omega))

  cases hv : vt s with
  | false =>
    have Hv := Lib.hid hv
    clear hv
    go_wp2_with fail
    refine HV.out.mono ?_
    rintro e w5 ⟨rfl, hb5⟩
    rw [Hv.out]
    have s5 := hb5.size
    have B5 := B4.trans (hb5.mono (by omega))
    have o2 := o2.below hb5 (by omega)
    clear hb5 B4 HV
    have H5 := Lib.hid (specWindowsOf_any s k w5 (by omega))
    rw [← HR.out] at H5
    go_wp2_with fail
    refine H5.out.mono ?_
    rintro e w6 ⟨A6, n6, c6, rfl, ho6, hb6⟩
    have s6 := hb6.size
    have B6 := B5.trans (hb6.mono (by omega))
    have o6 := ho6.win
    have o2 := o2.below hb6 (by omega)
    clear H5 ho6 hb6 B5
    go_wp2_with fail
    refine (equalTexts_same A2 n2 c2 R A6 n6 c6 w6 _ _ o2.rd o6.rd).mono ?_
    rintro e w7 ⟨rfl, hq7⟩
    have B7 := B6.trans ((hq7.bel w6.heap.size).mono (by omega))
    clear hq7
    go_wp2_with fail
    go_ret
    exact ⟨rfl, B7⟩
  | true =>
    have hs40 := vt_len hv
    have Hv := Lib.hid hv
    clear hv
    by_cases hk1' : k < 1
    · go_wp2_with fail
      refine HV.out.mono ?_
      rintro e w5 ⟨rfl, hb5⟩
      rw [Hv.out]
      have s5 := hb5.size
      have B5 := B4.trans (hb5.mono (by omega))
      have o2 := o2.below hb5 (by omega)
      clear hb5 B4 HV
      have H5 := Lib.hid (specWindowsOf_any s k w5 (by omega))
      rw [← HR.out] at H5
      go_wp2_with fail
      refine H5.out.mono ?_
      rintro e w6 ⟨A6, n6, c6, rfl, ho6, hb6⟩
      have s6 := hb6.size
      have B6 := B5.trans (hb6.mono (by omega))
      have o6 := ho6.win
      have o2 := o2.below hb6 (by omega)
      clear H5 ho6 hb6 B5
      go_wp2_with fail
      refine (equalTexts_same A2 n2 c2 R A6 n6 c6 w6 _ _ o2.rd o6.rd).mono ?_
      rintro e w7 ⟨rfl, hq7⟩
      have B7 := B6.trans ((hq7.bel w6.heap.size).mono (by omega))
      clear hq7
      go_wp2_with fail
      go_ret
      exact ⟨rfl, B7⟩
    by_cases hk6 : 6 < k
    · go_wp2_with fail
      refine HV.out.mono ?_
      rintro e w5 ⟨rfl, hb5⟩
      rw [Hv.out]
      have s5 := hb5.size
      have B5 := B4.trans (hb5.mono (by omega))
      have o2 := o2.below hb5 (by omega)
      clear hb5 B4 HV
      have H5 := Lib.hid (specWindowsOf_any s k w5 (by omega))
      rw [← HR.out] at H5
      go_wp2_with fail
      refine H5.out.mono ?_
      rintro e w6 ⟨A6, n6, c6, rfl, ho6, hb6⟩
      have s6 := hb6.size
      have B6 := B5.trans (hb6.mono (by omega))
      have o6 := ho6.win
      have o2 := o2.below hb6 (by omega)
      clear H5 ho6 hb6 B5
      go_wp2_with fail
      refine (equalTexts_same A2 n2 c2 R A6 n6 c6 w6 _ _ o2.rd o6.rd).mono ?_
      rintro e w7 ⟨rfl, hq7⟩
      have B7 := B6.trans ((hq7.bel w6.heap.size).mono (by omega))
      clear hq7
      go_wp2_with fail
      go_ret
      exact ⟨rfl, B7⟩
    obtain ⟨m, rfl⟩ := Int.eq_ofNat_of_zero_le (show 0 ≤ k by omega)
    have hRw := Lib.hid (show R = stT (winds s m) by rw [HR.out]; exact WO_yes Hv.out (by omega) (by omega))
    have hl2 := o2.rd.slen
    have hRl : R.length = s.length + 1 - m := by rw [hRw.out, stT_len, winds_len]
    have hm1 : 1 ≤ m := by omega
    have hm6 : m ≤ 6 := by omega
    have hn2 : n2 = s.length + 1 - m := by omega
    have Hn2 := Lib.hid hn2
    have Hl2 := Lib.hid hl2
    have hn41 : n2 ≤ 41 := by omega
    have j1 : ¬ ((m : Int) < 1) := by omega
    have j6 : ¬ ((m : Int) > 6) := by omega
    have hm2 := o2.rd.2.2.1
    have hnc2 := o2.rd.2.1
    unfold maxLen at hm2
    obtain ⟨i0, hi, hz0, hz1, hz2⟩ := info_parts Try.infoXs
    clear hn2 hl2 hRl hk1' hk6
    go_wp2_with fail
    refine HV.out.mono ?_
    rintro e w5 ⟨rfl, hb5⟩
    rw [Hv.out]
    have s5 := hb5.size
    have B5 := B4.trans (hb5.mono (by omega))
    have o2 := o2.below hb5 (by omega)
    clear hb5 B4 HV
    go_wp2_with fail
    have hrow0 : Row (w5.alloc (.cells #[] 9)) w5.heap.size 9 (some ⟨w5.heap.size, 0, none⟩) 0 0 [] := Row.nil_ w5 9
    go_loopw [6, 7] (fun v i wr => ∃ (j : Nat) (A' : Option Addr) (n' c' : Nat), j ≤ n2 ∧ i = .int .i64 j ∧ v = .slice A' n' c' ∧ Row wr w5.heap.size 9 A' n' c' ((adjT R j).map S) ∧ Below w5.heap.size w5 wr) (fun _ i _ => n2 - (intOf i).toNat)
    case atStart => exact ⟨0, _, 0, 0, Nat.zero_le _, rfl, rfl, hrow0, (Below.refl _ _).alloc (Nat.le_refl _) _⟩
    case round =>
      obtain ⟨i, A', n', c', hi8, rfl, rfl, hrow, hbr⟩ := hrel
      clear hrow0
      have hsz := hbr.size
      have o2r := o2.below hbr (by omega)
      have hnr := hrow.len
      rw [List.length_map] at hnr
      have hadj := adjT_len R i
      have hn50 : n' ≤ 50 := by omega
      clear hnr hadj
      by_cases hlt : i < n2
      · obtain ⟨b, o, x, rfl, hb, hx, hc⟩ := o2r.rd.str hlt
        have h0 : (i : Int) < (n2 : Int) := by omega
        have h00 : (0 : Int) ≤ (i : Int) := by omega
        rcases Nat.eq_zero_or_pos i with hi0 | hi0
        · have hd0 : ((i : Int) == 0) = true := by simp [hi0]
          have Hst := Lib.hid (show adjT R (i + 1) = adjT R i ++ [x] by subst hi0; exact adjT_first hx)
          clear hx hi0
          go_wp2_with fail
          go_quiet (fail)
          have hbq : Below w5.heap.size w5 (wr.drewN nq) := bel_drewN hbr _
          have hrowq : Row (wr.drewN nq) w5.heap.size 9 A' n' c' ((adjT R i).map S) := hrow
          have hcq : (wr.drewN nq).cell? ⟨b, o + i, none⟩ = some (.string ⟨x.toArray⟩) := hc
          obtain ⟨wq, hwq⟩ : ∃ wq, wq = wr.drewN nq := ⟨_, rfl⟩
          rw [← hwq] at hbq hrowq hcq ⊢
          have hsq := hbq.size
          clear hwq hbr hrow hc
          go_wp2_with (at_builtin; refine wpList_app1 _ rfl _ _ 24 rfl w5.heap.size 9 i0 (.string ⟨#[]⟩) 16 Try.underlying24 hi hz0 hz1 hz2 rfl _ _ _ _ rfl (hrowq.alloc _) _ (.string ⟨x.toArray⟩) rfl (cell_one_new _ _ _) rfl (by omega) (by omega) (by simp; omega) ?_; intro A9 c9 w9 hown9 hgrow9)
          have hb9 : Below w5.heap.size w5 w9 := kp_grown (kp_alloc _ hbq (Nat.le_refl _)) (Nat.le_refl _) hgrow9 (row_ge hrowq)
          go_roundw
          case rel => exact ⟨i + 1, A9, n' + 1, c9, by omega, by go_num, rfl, by rw [Hst.out, List.map_append]; exact hown9, hb9⟩
          case measure => simp [intOf]; omega
        · obtain ⟨p, hp⟩ : ∃ p, p + 1 = i := ⟨i - 1, by omega⟩
          obtain ⟨y, hy, hcy⟩ := o2r.rd.str_at (show p < n2 by omega)
          have hd0 : ((i : Int) == 0) = false := by simp; omega
          have e1 : IntKind.i64.wrap ((i : Int) - 1) = (p : Int) := by rw [IntKind.wrap_i64]; omega
          have e2 : (i : Int) - 1 = (p : Int) := by omega
          have b1 : (p : Int) < (n2 : Int) := by omega
          have b0 : (0 : Int) ≤ (p : Int) := by omega
          by_cases hxy : x = y
          · have hne : (x != y) = false := by simp [hxy]
            have hee : (x == y) = true := by simp [hxy]
            have Hst := Lib.hid (adjT_old hx hy hp hxy)
            clear hx hy hp hi0 hxy
            go_wp2_with fail
            go_quiet (fail)
            have hbq : Below w5.heap.size w5 (wr.drewN nq) := bel_drewN hbr _
            have hrowq : Row (wr.drewN nq) w5.heap.size 9 A' n' c' ((adjT R i).map S) := hrow
            go_wp2_with fail
            go_roundw
            case rel => exact ⟨i + 1, A', n', c', by omega, by go_num, rfl, by rw [Hst.out]; exact hrowq, hbq⟩
            case measure => simp [intOf]; omega
          · have hne : (x != y) = true := by simp [hxy]
            have hee : (x == y) = false := by simp [hxy]
            have Hst := Lib.hid (adjT_new hx hy hp hxy)
            clear hx hy hp hi0 hxy
            go_wp2_with fail
            go_quiet (fail)
            have hbq : Below w5.heap.size w5 (wr.drewN nq) := bel_drewN hbr _
            have hrowq : Row (wr.drewN nq) w5.heap.size 9 A' n' c' ((adjT R i).map S) := hrow
            have hcq : (wr.drewN nq).cell? ⟨b, o + i, none⟩ = some (.string ⟨x.toArray⟩) := hc
            obtain ⟨wq, hwq⟩ : ∃ wq, wq = wr.drewN nq := ⟨_, rfl⟩
            rw [← hwq] at hbq hrowq hcq ⊢
            have hsq := hbq.size
            clear hwq hbr hrow hc
            go_wp2_with (at_builtin; refine wpList_app1 _ rfl _ _ 24 rfl w5.heap.size 9 i0 (.string ⟨#[]⟩) 16 Try.underlying24 hi hz0 hz1 hz2 rfl _ _ _ _ rfl (hrowq.alloc _) _ (.string ⟨x.toArray⟩) rfl (cell_one_new _ _ _) rfl (by omega) (by omega) (by simp; omega) ?_; intro A9 c9 w9 hown9 hgrow9)
            have hb9 : Below w5.heap.size w5 w9 := kp_grown (kp_alloc _ hbq (Nat.le_refl _)) (Nat.le_refl _) hgrow9 (row_ge hrowq)
            go_roundw
            case rel => exact ⟨i + 1, A9, n' + 1, c9, by omega, by go_num, rfl, by rw [Hst.out, List.map_append]; exact hown9, hb9⟩
            case measure => simp [intOf]; omega
      · obtain rfl : i = n2 := by omega
        have Hdd := Lib.hid (show adjT R i = fac s m by
          have h := @adjT_dd (winds s m)
          rw [← hRw.out, Hl2.out] at h
          exact h)
        have H6 := Lib.hid (FactorsOf_any s (m : Int) wr (by omega))
        rw [FO_fac Hv.out (show m ≤ 40 by omega)] at H6
        have hw1 : IntKind.i64.wrap ((s.length : Int) - (m : Int)) = (s.length : Int) - (m : Int) := by rw [IntKind.wrap_i64]; omega
        have hw2 : IntKind.i64.wrap ((s.length : Int) - (m : Int) + 1) = (s.length : Int) - (m : Int) + 1 := by rw [IntKind.wrap_i64]; omega
        have hmx : max ((s.length : Int) - (m : Int) + 1) 0 = (i : Int) := by have := Hn2.out; omega
        rw [Hdd.out] at hrow
        go_wp2_with fail
        refine H6.out.mono ?_
        rintro e w6 ⟨A6, n6, c6, rfl, ho6, hb6⟩
        have B6 : Below w.heap.size w w6 := (B5.trans (hbr.mono (by omega))).trans (hb6.mono (by omega))
        have s6 := hb6.size
        have hrow6 := hrow.kept hb6
        clear H6 hb6 hbr hrow
        go_wp2_with fail
        refine (equalTexts_same A' n' c' (fac s m) A6 n6 c6 w6 _ _ hrow6.rd ho6.rd).mono ?_
        rintro e w7 ⟨rfl, hq7⟩
        have B7 := B6.trans ((hq7.bel w6.heap.size).mono (by omega))
        clear hq7
        go_wp2_with fail
        go_ret
        exact ⟨rfl, B7⟩
end Go.Proofs.Ytfbmcfdmffpfmaa
