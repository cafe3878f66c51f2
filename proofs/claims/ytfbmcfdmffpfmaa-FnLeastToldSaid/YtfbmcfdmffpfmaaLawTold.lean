/-
  The laws on what is told: exact laws of IsTold, LeastTold; FnIsTold, FnLeastTold: their walks.
-/
import Derived.Test.YtfbmcfdmffpfmaaTold
import Derived.Test.YtfbmcfdmffpfmaaLawFacs
namespace Go.Proofs.Ytfbmcfdmffpfmaa
open Go.RowKit
set_option linter.unusedVariables false
set_option linter.unusedSimpArgs false

set_option maxHeartbeats 1600000 in
theorem walkExactIsTold (s : List UInt8) (k : Int) (w : World) (hs : s.length ≤ 9223372036854775807) (hk : -9223372036854775808 ≤ k ∧ k ≤ 9223372036854775807) (hvr : Vr w) :
    Calls Try.prog 9 #[.string ⟨s.toArray⟩, .int .i64 k] w (RetVal w (.bool true)) := by
  by_cases hbig : 1048576 < s.length
  · go_enter Try.func9, Try.ntmps9
    go_wp2_with fail
    go_ret
    exact ⟨rfl, Below.refl _ _⟩
  have hs20 : s.length ≤ 1048576 := by omega
  clear hbig
  have H1 := Lib.hid (specIsTold_any s k w hs20)
  have H2 := Lib.hid (fun W => IsTold_any s k W hs20)
  obtain ⟨R, hRe⟩ : ∃ R, R = IT s k := ⟨_, rfl⟩
  have hne : (R != R) = false := by simp
  rw [← hRe] at H1 H2
  clear hRe
  go_enter Try.func9, Try.ntmps9
  go_wp2_with fail
  refine H1.out.mono ?_
  rintro e w1 ⟨rfl, hb1⟩
  go_wp2_with fail
  refine (H2.out w1).mono ?_
  rintro e w2 ⟨rfl, hb2⟩
  go_wp2_with fail
  go_ret
  exact ⟨rfl, hb1.trans (hb2.mono hb1.size)⟩
theorem LTo_len {s : List UInt8} {m : Nat} (h : LTo s = some m) : m ≤ 6 := (LTo_law h).2.1
set_option maxHeartbeats 1600000 in
theorem walkExactLeastTold (s : List UInt8) (w : World) (hs : s.length ≤ 9223372036854775807) (hvr : Vr w) :
    Calls Try.prog 10 #[.string ⟨s.toArray⟩] w (RetVal w (.bool true)) := by
  by_cases hbig : 1048576 < s.length
  · go_enter Try.func10, Try.ntmps10
    go_wp2_with fail
    go_ret
    exact ⟨rfl, Below.refl _ _⟩
  have hs20 : s.length ≤ 1048576 := by omega
  clear hbig
  have H1 := Lib.hid (specLeastTold_any s w hs20)
  have H2 := Lib.hid (fun W => LeastTold_any s W hs20)
  obtain ⟨R, hRe⟩ : ∃ R, R = LTo s := ⟨_, rfl⟩
  rw [← hRe] at H1 H2
  clear hRe
  unfold RetOpt at H1 H2
  obtain ⟨a, ha⟩ : ∃ a : Int, a = ((R.getD 0 : Nat) : Int) := ⟨_, rfl⟩
  obtain ⟨b, hb⟩ : ∃ b, b = R.isSome := ⟨_, rfl⟩
  rw [← ha, ← hb] at H1 H2
  have hne : (b != b) = false := by simp
  have hne2 : (a != a) = false := by simp
  clear ha hb
  go_enter Try.func10, Try.ntmps10
  go_wp2_with fail
  refine H1.out.mono ?_
  rintro e w1 ⟨rfl, hb1⟩
  go_wp2_with fail
  refine (H2.out w1).mono ?_
  rintro e w2 ⟨rfl, hb2⟩
  go_wp2_with fail
  go_ret
  exact ⟨rfl, hb1.trans (hb2.mono hb1.size)⟩
set_option maxRecDepth 8000 in
set_option maxHeartbeats 3200000 in
theorem walkLeastTold (A : Option Addr) (nc c : Nat) (zs : List Int) (w : World) (hr : Rd w w.heap.size A nc c (zs.map U8)) (hz : ∀ z ∈ zs, 0 ≤ z ∧ z ≤ 255) (hvr : Vr w) :
    Calls Try.prog 15 #[.slice A nc c] w (RetVal w (.bool true)) := by
  by_cases hbig : 1048576 < nc
  · go_enter Try.func15, Try.ntmps15
    go_wp2_with fail
    go_ret
    exact ⟨rfl, Below.refl _ _⟩
  have HD := Lib.hid (DrawLeastTold_any A nc c zs w hr hz)
  clear hr hz hvr
  go_enter Try.func15, Try.ntmps15
  go_wp2_with fail
  refine HD.out.mono ?_
  rintro e w1 ⟨s, rfl, hs, hb1⟩
  have s1 := hb1.size
  clear HD hbig
  have H2 := Lib.hid (LeastTold_any s w1 (by omega))
  go_wp2_with fail
  refine H2.out.mono ?_
  rintro e w2 ⟨rfl, hb2⟩
  have s2 := hb2.size
  have B2 := hb1.trans (hb2.mono (by omega))
  have H3 := Lib.hid (specLeastTold_any s w2 (by omega))
  have hI := Lib.hid (fun (k : Nat) W => IsTold_any s (k : Int) W (by omega))
  clear H2 hb2 hb1
  cases hO : LTo s with
  | none =>
    rw [hO] at H3
    clear hO
    go_wp2_with fail
    refine H3.out.mono ?_
    rintro e w3 ⟨rfl, hb3⟩
    have B3 := B2.trans (hb3.mono (by omega))
    clear hb3
    go_wp2_with fail
    go_ret
    exact ⟨rfl, B3⟩
  | some m =>
    rw [hO] at H3
    obtain ⟨h1, h6, hm, hlow⟩ := LTo_law hO
    have Hm := Lib.hid hm
    have Hlow := Lib.hid hlow
    clear hO hm hlow
    go_wp2_with fail
    refine H3.out.mono ?_
    rintro e w3 ⟨rfl, hb3⟩
    have s3 := hb3.size
    have B3 := B2.trans (hb3.mono (by omega))
    clear hb3 B2
    go_wp2_with fail
    go_loopw [8] (fun t wr => ∃ k : Nat, 1 ≤ k ∧ k ≤ m ∧ t = .int .i64 k ∧ Below w.heap.size w wr) (fun t _ => m - (intOf t).toNat)
    case atStart => exact ⟨1, Nat.le_refl _, by omega, rfl, B3⟩
    case round =>
      obtain ⟨k, hk1, hk7, rfl, hbw⟩ := hrel
      have hsz := hbw.size
      clear B3
      by_cases hlt : k < m
      · have hlt' : (k : Int) < (m : Int) := by omega
        have Hk := Lib.hid (Hlow.out k hk1 hlt)
        go_wp2_with fail
        refine (hI.out k wr).mono ?_
        rintro e w4 ⟨rfl, hb4⟩
        rw [Hk.out]
        have B4 := hbw.trans (hb4.mono hsz)
        go_wp2_with fail
        go_roundw
        case rel => exact ⟨k + 1, by omega, by omega, by go_num, B4⟩
        case measure => simp [intOf]; omega
      · obtain rfl : k = m := by omega
        have hlt' : ¬ (k : Int) < (k : Int) := by omega
        go_wp2_with fail
        refine (hI.out k wr).mono ?_
        rintro e w4 ⟨rfl, hb4⟩
        rw [Hm.out]
        have B4 := hbw.trans (hb4.mono hsz)
        go_wp2_with fail
        go_ret
        exact ⟨rfl, B4⟩
theorem inR_no1 {k : Int} (h : k < 1) : inR k 1 6 = false := by rw [inR_dec]; simp; omega
theorem inR_no6 {k : Int} (h : 6 < k) : inR k 1 6 = false := by rw [inR_dec]; simp; omega
set_option maxRecDepth 8000 in
set_option maxHeartbeats 6400000 in
theorem walkIsTold (A : Option Addr) (nc c : Nat) (zs : List Int) (w : World) (hr : Rd w w.heap.size A nc c (zs.map U8)) (hz : ∀ z ∈ zs, 0 ≤ z ∧ z ≤ 255) (hvr : Vr w) :
    Calls Try.prog 17 #[.slice A nc c] w (RetVal w (.bool true)) := by
  by_cases hbig : 1048576 < nc
  · go_enter Try.func17, Try.ntmps17
    go_wp2_with fail
    go_ret
    exact ⟨rfl, Below.refl _ _⟩
  have HD := Lib.hid (DrawIsTold_any A nc c zs w hr hz)
  clear hr hz hvr
  go_enter Try.func17, Try.ntmps17
  go_wp2_with fail
  refine HD.out.mono ?_
  rintro e w1 ⟨s, k, rfl, hs, hk0, hk1, hb1⟩
  have s1 := hb1.size
  clear HD hbig
  obtain ⟨R, hRe⟩ : ∃ R, R = IT s k := ⟨_, rfl⟩
  have HR := Lib.hid hRe
  have hne : (R != R) = false := by simp
  have heq : (R == R) = true := by simp
  clear hRe
  have H2 := Lib.hid (IsTold_any s k w1 (by omega))
  rw [← HR.out] at H2
  go_wp2_with fail
  refine H2.out.mono ?_
  rintro e w2 ⟨rfl, hb2⟩
  have s2 := hb2.size
  have B2 := hb1.trans (hb2.mono (by omega))
  have H3 := Lib.hid (fun W => specIsTold_any s k W (by omega))
  rw [← HR.out] at H3
  clear H2 hb2 hb1
  go_wp2_with fail
  refine (H3.out w2).mono ?_
  rintro e w3 ⟨rfl, hb3⟩
  have s3 := hb3.size
  have B3 := B2.trans (hb3.mono (by omega))
  clear hb3 B2
  have HV := Lib.hid (ValidText_any s w3 (by omega))
  cases hv : vt s with
  | false =>
    have Hv := Lib.hid hv
    clear hv
    go_wp2_with fail
    refine HV.out.mono ?_
    rintro e w5 ⟨rfl, hb5⟩
    rw [Hv.out]
    have s5 := hb5.size
    have B5 := B3.trans (hb5.mono (by omega))
    clear hb5 B3 HV
    go_wp2_with fail
    refine (H3.out w5).mono ?_
    rintro e w6 ⟨rfl, hb6⟩
    have B6 := B5.trans (hb6.mono (by omega))
    go_wp2_with fail
    go_ret
    exact ⟨rfl, B6⟩
  | true =>
    have hs40 := vt_len hv
    have Hv := Lib.hid hv
    clear hv
    by_cases hout : k < 1 ∨ 6 < k ∨ (s.length : Int) < k ∨ (s.length : Int) - k ≥ 8
    · have tail : ∀ w5 : World, Below w3.heap.size w3 w5 → True := fun _ _ => trivial
      by_cases c1 : k < 1
      · go_wp2_with fail
        refine HV.out.mono ?_
        rintro e w5 ⟨rfl, hb5⟩
        rw [Hv.out]
        have s5 := hb5.size
        have B5 := B3.trans (hb5.mono (by omega))
        clear hb5 B3 HV
        go_wp2_with fail
        refine (H3.out w5).mono ?_
        rintro e w6 ⟨rfl, hb6⟩
        have B6 := B5.trans (hb6.mono (by omega))
        go_wp2_with fail
        go_ret
        exact ⟨rfl, B6⟩
      by_cases c2 : k > 6
      · go_wp2_with fail
        refine HV.out.mono ?_
        rintro e w5 ⟨rfl, hb5⟩
        rw [Hv.out]
        have s5 := hb5.size
        have B5 := B3.trans (hb5.mono (by omega))
        clear hb5 B3 HV
        go_wp2_with fail
        refine (H3.out w5).mono ?_
        rintro e w6 ⟨rfl, hb6⟩
        have B6 := B5.trans (hb6.mono (by omega))
        go_wp2_with fail
        go_ret
        exact ⟨rfl, B6⟩
      by_cases c3 : (s.length : Int) < k
      · go_wp2_with fail
        refine HV.out.mono ?_
        rintro e w5 ⟨rfl, hb5⟩
        rw [Hv.out]
        have s5 := hb5.size
        have B5 := B3.trans (hb5.mono (by omega))
        clear hb5 B3 HV
        go_wp2_with fail
        refine (H3.out w5).mono ?_
        rintro e w6 ⟨rfl, hb6⟩
        have B6 := B5.trans (hb6.mono (by omega))
        go_wp2_with fail
        go_ret
        exact ⟨rfl, B6⟩
      · have c4 : (s.length : Int) - k ≥ 8 := by omega
        have hw1 : IntKind.i64.wrap ((s.length : Int) - k) = (s.length : Int) - k := by rw [IntKind.wrap_i64]; omega
        go_wp2_with fail
        refine HV.out.mono ?_
        rintro e w5 ⟨rfl, hb5⟩
        rw [Hv.out]
        have s5 := hb5.size
        have B5 := B3.trans (hb5.mono (by omega))
        clear hb5 B3 HV
        go_wp2_with fail
        refine (H3.out w5).mono ?_
        rintro e w6 ⟨rfl, hb6⟩
        have B6 := B5.trans (hb6.mono (by omega))
        go_wp2_with fail
        go_ret
        exact ⟨rfl, B6⟩
    · obtain ⟨m, rfl⟩ := Int.eq_ofNat_of_zero_le (show 0 ≤ k by omega)
      have hm1 : 1 ≤ m := by omega
      have hm6 : m ≤ 6 := by omega
      have hml : m ≤ s.length := by omega
      have hml2 : s.length ≤ m + 7 := by omega
      have j1 : ¬ ((m : Int) < 1) := by omega
      have j6 : ¬ ((m : Int) > 6) := by omega
      have j3 : ¬ ((s.length : Int) < (m : Int)) := by omega
      have j4 : ¬ ((s.length : Int) - (m : Int) ≥ 8) := by omega
      have hw1 : IntKind.i64.wrap ((s.length : Int) - (m : Int)) = (s.length : Int) - (m : Int) := by rw [IntKind.wrap_i64]; omega
      clear hout
      have Hs := Lib.hid (self_TX Hv.out hm1 hm6 hml hml2)
      have Hvw := Lib.hid (show vwd (stT (winds s m)) = true by rw [winds_ok Hv.out hm1 hm6]; simp; omega)
      have Hit := Lib.hid (show R = decide ((TX (stT (winds s m))).length = 1) by
        rw [HR.out, IT_yes Hv.out (by rw [inR_dec]; simp; omega) Hvw.out, Hs.out.2])
      go_wp2_with fail
      refine HV.out.mono ?_
      rintro e w5 ⟨rfl, hb5⟩
      rw [Hv.out]
      have s5 := hb5.size
      have B5 := B3.trans (hb5.mono (by omega))
      have H6 := Lib.hid (WindowsOf_any s (m : Int) w5 (by omega))
      rw [WO_yes Hv.out hm1 hm6] at H6
      clear hb5 B3 HV
      go_wp2_with fail
      refine H6.out.mono ?_
      rintro e w6 ⟨A6, n6, c6, rfl, ho6, hb6⟩
      have s6 := hb6.size
      have B6 := B5.trans (hb6.mono (by omega))
      have H7 := Lib.hid (TextsOf_any A6 n6 c6 (stT (winds s m)) w6 (ho6.rd.more (by omega)) (winds_47 m (by omega)))
      clear hb6 B5 ho6 H6
      go_wp2_with fail
      refine H7.out.mono ?_
      rintro e w7 ⟨A7, n7, c7, rfl, ho7, hb7⟩
      have s7 := hb7.size
      have B7 := B6.trans (hb7.mono (by omega))
      have hl7 := ho7.rd.slen
      have Hr7 := Lib.hid (show R = decide (n7 = 1) by rw [Hit.out, hl7])
      have hlen7 : n7 ≤ 40320 := by rw [← hl7]; exact TX_len _
      have H8 := Lib.hid (hasText_any A7 n7 c7 (TX (stT (winds s m))) s w7 _ ho7.rd)
      have Hc := Lib.hid (show (TX (stT (winds s m))).contains s = true by rw [List.contains_iff_mem]; exact Hs.out.1)
      clear hb7 B6 ho7 H7 hl7
      by_cases h1 : n7 = 1
      · have Hr8 := Lib.hid (show R = true by rw [Hr7.out, decide_eq_true h1])
        have hn1 : ((n7 : Int) == 1) = true := by simp [h1]
        rw [Hr8.out]
        clear h1
        go_wp2_with fail
        refine H8.out.mono ?_
        rintro e w8 ⟨rfl, hq8⟩
        rw [Hc.out]
        have B8 := B7.trans ((hq8.bel w7.heap.size).mono (by omega))
        clear hq8
        go_wp2_with fail
        go_ret
        exact ⟨rfl, B8⟩
      · have Hr8 := Lib.hid (show R = false by rw [Hr7.out, decide_eq_false h1])
        have hn1 : ((n7 : Int) == 1) = false := by simp; omega
        rw [Hr8.out]
        clear h1
        go_wp2_with fail
        refine H8.out.mono ?_
        rintro e w8 ⟨rfl, hq8⟩
        rw [Hc.out]
        have B8 := B7.trans ((hq8.bel w7.heap.size).mono (by omega))
        clear hq8
        go_wp2_with fail
        go_ret
        exact ⟨rfl, B8⟩
end Go.Proofs.Ytfbmcfdmffpfmaa
