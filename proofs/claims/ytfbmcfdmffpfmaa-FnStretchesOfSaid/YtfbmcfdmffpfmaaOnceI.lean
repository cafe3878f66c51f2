/-
  The program's OnceFrom, PlacesOf, MissingOf; the reference's MissingOf.
-/
import Derived.Test.YtfbmcfdmffpfmaaMissI
namespace Go.Proofs.Ytfbmcfdmffpfmaa
open Go.RowKit Go.Maps Go.Sort Go.Shelf
set_option linter.unusedVariables false
set_option linter.unusedSimpArgs false

set_option maxHeartbeats 1600000 in
theorem OnceFrom_any (s : List UInt8) (i : Int) (w : World) (hs : s.length ≤ 1048576) :
    Calls Try.prog 33 #[.string ⟨s.toArray⟩, .int .i64 i] w (RetOpt w (OFo s i)) := by
  cases h1 : vt s with
  | false =>
    have Hv := Lib.hid (show OFo s i = none by unfold OFo; rw [h1]; rfl)
    have H1 := Lib.hid h1
    clear h1
    go_enter Try.func33, Try.ntmps33
    go_wp2_with fail
    refine (ValidText_any _ _ (by omega)).mono ?_
    rintro e w' ⟨rfl, hb⟩
    rw [H1.out]
    go_wp2_with fail
    go_ret2
    exact ⟨ret_two (a := 0) (c := false) (by rw [Hv.out]; rfl) (by rw [Hv.out]; rfl), hb⟩
  | true =>
    have hl40 := vt_len h1
    have H1 := Lib.hid h1
    clear h1
    have ew : IntKind.i64.wrap ((s.length : Int) - 1) = (s.length : Int) - 1 := by rw [IntKind.wrap_i64]; omega
    cases h2 : inR i 0 ((s.length : Int) - 1) with
    | false =>
      have Hv := Lib.hid (show OFo s i = none by unfold OFo; rw [h2]; simp)
      have H2 := Lib.hid h2
      clear h2
      go_enter Try.func33, Try.ntmps33
      go_wp2_with fail
      refine (ValidText_any _ _ (by omega)).mono ?_
      rintro e w' ⟨rfl, hb⟩
      rw [H1.out]
      go_wp2_with fail
      refine (within_any _ _ _ _).mono ?_
      rintro e w' ⟨rfl, rfl⟩
      rw [H2.out]
      go_wp2_with fail
      go_ret2
      exact ⟨ret_two (a := 0) (c := false) (by rw [Hv.out]; rfl) (by rw [Hv.out]; rfl), hb⟩
    | true =>
      obtain ⟨h3, h4⟩ := inR_true h2
      obtain ⟨i, rfl⟩ := Int.eq_ofNat_of_zero_le h3
      have hi : i < s.length := by omega
      have Hv := Lib.hid (show OFo s (i : Int) = onF s i (s.length - i) 1 by unfold OFo; rw [H1.out, h2]; simp)
      have H2 := Lib.hid h2
      clear h2 h3 h4
      go_enter Try.func33, Try.ntmps33
      go_wp2_with fail
      refine (ValidText_any _ _ (by omega)).mono ?_
      rintro e w1 ⟨rfl, hb1⟩
      rw [H1.out]
      go_wp2_with fail
      refine (within_any _ _ _ _).mono ?_
      rintro e w' ⟨rfl, rfl⟩
      rw [H2.out]
      go_wp2_with fail
      clear ew
      go_loopw [6] (fun t wr => ∃ k : Nat, 1 ≤ k ∧ i + k ≤ s.length + 1 ∧ t = .int .i64 k ∧ onF s i (s.length - i) 1 = onF s i (s.length + 1 - i - k) k ∧ Below w.heap.size w wr) (fun t _ => s.length + 1 - (intOf t).toNat)
      case atStart => exact ⟨1, Nat.le_refl _, by omega, by go_num, by rw [show s.length + 1 - i - 1 = s.length - i by omega], hb1⟩
      case round =>
        obtain ⟨k, hk1, hik, rfl, hon, hbw⟩ := hrel
        have Hon := Lib.hid hon
        have hsz := hbw.size
        clear hon hb1
        by_cases hlt : i + k ≤ s.length
        · have hwl : (win s k i).length = k := win_len hlt
          have hP := Lib.hid (places_any s (win s k i) wr H1.out (by omega))
          have Hpc := Lib.hid (show (plTo s (win s k i) s.length).length = (winds s k).count (win s k i) by
            rw [plTo_count (fun e => by rw [e] at hwl; simp at hwl; omega)]
            unfold cntW
            rw [hwl])
          clear hwl
          go_wp2_with fail
          rw [slice_win]
          refine hP.out.mono ?_
          rintro e w2 ⟨A1, n1, c1, rfl, ho, hb2⟩
          have hB := hbw.trans (hb2.mono hsz)
          have hn := ho.rd.ilen
          have hcm := ho.2.2.1
          have hnc := ho.2.1
          unfold maxLen at hcm
          rw [Hpc.out] at hn
          have Hn := Lib.hid hn
          have ef : s.length + 1 - i - k = (s.length + 1 - i - (k + 1)) + 1 := by omega
          have Hef := Lib.hid ef
          clear ef hn ho hb2
          by_cases h2 : n1 = 1
          · have Hfin := Lib.hid (show onF s i (s.length - i) 1 = some k by rw [Hon.out, Hef.out, onF_yes (by rw [Hn.out]; exact h2)])
            subst h2
            go_wp2_with fail
            go_ret2
            exact ⟨ret_two (by rw [Hv.out, Hfin.out]; rfl) (by rw [Hv.out, Hfin.out]; rfl), hB⟩
          · have Hn2 := Lib.hid (show onF s i (s.length - i) 1 = onF s i (s.length + 1 - i - (k + 1)) (k + 1) by rw [Hon.out, Hef.out, onF_no (by rw [Hn.out]; exact h2)])
            have h2' : ¬ (n1 : Int) = 1 := by omega
            go_wp2_with fail
            go_roundw
            case rel => exact ⟨k + 1, by omega, by omega, by go_num, Hn2.out, hB⟩
            case measure => simp [intOf]; omega
        · have Hfin := Lib.hid (show onF s i (s.length - i) 1 = none by rw [Hon.out, show s.length + 1 - i - k = 0 by omega]; rfl)
          go_wp2_with fail
          go_ret2
          exact ⟨ret_two (a := 0) (c := false) (by rw [Hv.out, Hfin.out]; rfl) (by rw [Hv.out, Hfin.out]; rfl), hbw⟩
set_option maxHeartbeats 800000 in
theorem PlacesOf_any (s u : List UInt8) (w : World) (hs : vt s = true) (hu : vt u = true) (hne : u ≠ []) :
    Calls Try.prog 35 #[.string ⟨s.toArray⟩, .string ⟨u.toArray⟩] w (RetRow w 3 ((plTo s u s.length).map I)) := by
  have hl1 := vt_len hs
  have hl2 := vt_len hu
  have H1 := Lib.hid hs
  have H2 := Lib.hid hu
  have hne' : (u == []) = false := by simpa using hne
  have hne2 : u.isEmpty = false := by cases u <;> simp_all
  clear hs hu hne
  go_enter Try.func35, Try.ntmps35
  go_wp2_with fail
  refine (ValidText_any _ _ (by omega)).mono ?_
  rintro e w1 ⟨rfl, hb1⟩
  rw [H1.out]
  go_wp2_with fail
  refine (ValidText_any _ _ (by omega)).mono ?_
  rintro e w2 ⟨rfl, hb2⟩
  rw [H2.out]
  have B2 := hb1.trans (hb2.mono hb1.size)
  have hP := Lib.hid (places_any s u w2 H1.out (by omega))
  go_wp2_with fail
  refine hP.out.mono ?_
  rintro e w3 ⟨A1, n1, c1, rfl, ho, hb3⟩
  go_wp2_with fail
  go_ret
  exact ⟨_, _, _, rfl, ho.more B2.size, B2.trans (hb3.mono B2.size)⟩
set_option maxHeartbeats 800000 in
theorem specMissingOf_any (s : List UInt8) (w : World) (hs : s.length ≤ 1048576) :
    Calls Try.prog 45 #[.string ⟨s.toArray⟩] w (RetRow w 9 ((MS s).map S)) := by
  cases h1 : vt s with
  | false =>
    have Hv := Lib.hid (show MS s = [] by unfold MS; rw [h1]; rfl)
    have H1 := Lib.hid h1
    clear h1
    go_enter Try.func45, Try.ntmps45
    go_wp2_with fail
    refine (validText_any _ _ (by omega)).mono ?_
    rintro e w' ⟨rfl, rfl⟩
    rw [H1.out]
    go_wp2_with fail
    go_ret
    rw [Hv.out]
    exact retRow_nil _ _
  | true =>
    have H1 := Lib.hid h1
    clear h1
    by_cases h12 : s.length ≤ 12
    · have Hv := Lib.hid (show MS s = missA s (s.length + 1) by unfold MS; rw [H1.out, if_pos (by simp [h12])])
      have hF := Lib.hid (specMissing_any s w h12)
      go_enter Try.func45, Try.ntmps45
      go_wp2_with fail
      refine (validText_any _ _ (by omega)).mono ?_
      rintro e w' ⟨rfl, rfl⟩
      rw [H1.out]
      go_wp2_with fail
      refine hF.out.mono ?_
      rintro e w' ⟨A1, n1, c1, rfl, ho, hb⟩
      go_wp2_with fail
      go_ret
      exact ⟨_, _, _, rfl, by rw [Hv.out]; exact ho, hb⟩
    · have Hv := Lib.hid (show MS s = [] by unfold MS; rw [H1.out, if_neg (by simp [h12])])
      have h12' : (12 : Int) < (s.length : Int) := by omega
      go_enter Try.func45, Try.ntmps45
      go_wp2_with fail
      refine (validText_any _ _ (by omega)).mono ?_
      rintro e w' ⟨rfl, rfl⟩
      rw [H1.out]
      go_wp2_with fail
      go_ret
      rw [Hv.out]
      exact retRow_nil _ _
end Go.Proofs.Ytfbmcfdmffpfmaa
