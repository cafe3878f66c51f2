/-
  The reference's LongestTwice, MissingOf, OnceFrom.
-/
import Derived.Test.YtfbmcfdmffpfmaaFactS
import Derived.Test.YtfbmcfdmffpfmaaFacL
namespace Go.Proofs.Ytfbmcfdmffpfmaa
open Go.RowKit
set_option linter.unusedVariables false
set_option linter.unusedSimpArgs false

theorem ltF_pos (s : List UInt8) {k : Nat} (h : 1 ≤ k) : ltF s k = ((fac s k).find? (twice s k)).getD (ltF s (k - 1)) := by
  obtain ⟨m, rfl⟩ : ∃ m, k = m + 1 := ⟨k - 1, by omega⟩
  rfl
set_option maxHeartbeats 1600000 in
theorem specLongestTwice_any (s : List UInt8) (w : World) (hs : s.length ≤ 1048576) :
    Calls Try.prog 20 #[.string ⟨s.toArray⟩] w (RetVal w (.string ⟨(LT s).toArray⟩)) := by
  cases h1 : vt s with
  | false =>
    have Hv := Lib.hid (show LT s = [] by unfold LT; rw [h1]; rfl)
    have H1 := Lib.hid h1
    clear h1
    go_enter Try.func20, Try.ntmps20
    go_wp2_with fail
    refine (validText_any _ _ (by omega)).mono ?_
    rintro e w' ⟨rfl, rfl⟩
    rw [H1.out]
    go_wp2_with fail
    go_ret
    exact ⟨ret_str (a := []) (by rw [Hv.out]), Below.refl _ _⟩
  | true =>
    have hl40 := vt_len h1
    have Hv := Lib.hid (show LT s = ltF s (s.length - 1) by unfold LT; rw [h1]; rfl)
    have H1 := Lib.hid h1
    clear h1
    go_enter Try.func20, Try.ntmps20
    go_wp2_with fail
    refine (validText_any _ _ (by omega)).mono ?_
    rintro e w' ⟨rfl, rfl⟩
    rw [H1.out]
    go_wp2_with fail
    go_loopw [3] (fun i wr => ∃ k : Int, -1 ≤ k ∧ k ≤ 40 ∧ i = .int .i64 k ∧ ltF s (s.length - 1) = ltF s k.toNat ∧ Below w.heap.size w wr) (fun i _ => (intOf i).toNat)
    case atStart => exact ⟨(s.length : Int) - 1, by omega, by omega, by go_num, by rw [show ((s.length : Int) - 1).toNat = s.length - 1 by omega], Below.refl _ _⟩
    case round =>
      obtain ⟨k, hk0, hk1, rfl, hlt, hbw⟩ := hrel
      have Hlt := Lib.hid hlt
      have hsz := hbw.size
      clear hlt
      by_cases hpos : 0 < k
      · obtain ⟨k, rfl⟩ : ∃ m : Nat, k = (m : Int) := ⟨k.toNat, by omega⟩
        have hk : 1 ≤ k := by omega
        have hk40 : k ≤ 40 := by omega
        have hF := Lib.hid (factors_any s k wr hs (by omega))
        have hfl := fac_len s k
        have Hst := Lib.hid (ltF_pos s hk)
        clear hk0 hk1
        go_wp2_with fail
        refine hF.out.mono ?_
        rintro e w2 ⟨A1, n1, c1, rfl, ho, hb2⟩
        have hb := hbw.trans (hb2.mono hsz)
        have hsz2 := hb.size
        have hrd := ho.rd
        have hn := hrd.slen
        have hnc := hrd.2.1
        have hcm := hrd.2.2.1
        unfold maxLen at hcm
        have Hn := Lib.hid hn
        rw [hn] at hfl
        clear ho hn
        go_wp2_with fail
        go_loopw [5] (fun i wq => ∃ q : Nat, q ≤ n1 ∧ i = .int .i64 q ∧ (∀ y ∈ (fac s k).take q, twice s k y = false) ∧ Quiet w2 wq) (fun i _ => n1 - (intOf i).toNat)
        case atStart => exact ⟨0, Nat.zero_le _, rfl, by simp, Quiet.refl _⟩
        case round =>
          obtain ⟨q, hq, rfl, hall, hqw⟩ := hrel
          have Hall := Lib.hid hall
          clear hall
          by_cases hqn : q < n1
          · obtain ⟨b, o, x, rfl, hbb, hx, hcx⟩ := (hqw.rd hrd).str hqn
            have Hx := Lib.hid hx
            have hqn' : (q : Int) < (n1 : Int) := by omega
            have hB := hqw.bel w2.heap.size
            clear hx hcx
            go_wp2_with fail
            go_loopw [6, 7] (fun n a wz => ∃ j : Nat, j ≤ s.length + 1 - k ∧ a = .int .i64 j ∧ n = .int .i64 ((windsTo s k j).count x : Nat) ∧ Quiet w2 wz) (fun _ a _ => s.length + 1 - (intOf a).toNat)
            case atStart => exact ⟨0, Nat.zero_le _, rfl, rfl, hqw⟩
            case round =>
              obtain ⟨j, hj, rfl, rfl, hqz⟩ := hrel
              obtain ⟨x', hx', hcz⟩ := (hqz.rd hrd).str_at hqn
              rw [Hx.out] at hx'
              injection hx' with hx'
              subst hx'
              have hcl := windsTo_count_le s k j x
              obtain ⟨m, hm⟩ : ∃ m, m = (windsTo s k j).count x := ⟨_, rfl⟩
              rw [← hm] at hcl ⊢
              have Hm := Lib.hid hm
              clear hm
              have q0 : (0 : Int) ≤ (q : Int) := by omega
              by_cases hjk : j + k ≤ s.length
              · have Hc := Lib.hid (windsTo_count s k j x)
                rw [← Hm.out] at Hc
                cases he : (List.take k (List.drop j s) == x) with
                | true =>
                  have Hc2 := Lib.hid (show (windsTo s k (j + 1)).count x = m + 1 by rw [Hc.out, ← slice_win, he]; rfl)
                  go_wp2_with fail
                  go_quiet (fail)
                  go_wp2_with fail
                  go_roundw
                  case rel => exact ⟨j + 1, by omega, by go_num, by rw [Hc2.out]; go_num, hqz.drewN _⟩
                  case measure => simp [intOf]; omega
                | false =>
                  have Hc2 := Lib.hid (show (windsTo s k (j + 1)).count x = m by rw [Hc.out, ← slice_win, he]; rfl)
                  go_wp2_with fail
                  go_quiet (fail)
                  go_wp2_with fail
                  go_roundw
                  case rel => exact ⟨j + 1, by omega, by go_num, by rw [Hc2.out], hqz.drewN _⟩
                  case measure => simp [intOf]; omega
              · obtain rfl : j = s.length + 1 - k := by omega
                have Hm2 := Lib.hid (show m = (winds s k).count x from Hm.out)
                by_cases h2 : 1 < m
                · have Hfin := Lib.hid (show ltF s k = x by
                    rw [Hst.out, find_take_some Hall.out Hx.out (by unfold twice; rw [← Hm2.out]; exact decide_eq_true h2)]
                    rfl)
                  go_wp2_with fail
                  go_ret
                  exact ⟨ret_str (by rw [Hv.out, Hlt.out, Int.toNat_natCast, Hfin.out]), hb.trans ((hqz.bel _).mono hsz2)⟩
                · have Hn2 := Lib.hid (take_all_snoc (p := fun y => twice s k y = false) Hall.out Hx.out (by unfold twice; rw [← Hm2.out]; exact decide_eq_false h2))
                  go_wp2_with fail
                  go_roundw
                  case rel => exact ⟨q + 1, by omega, by go_num, Hn2.out, hqz⟩
                  case measure => simp [intOf]; omega
          · have Hfin := Lib.hid (show ltF s k = ltF s (k - 1) by
              rw [Hst.out, find_none_all Hall.out (by rw [Hn.out]; omega)]
              rfl)
            have hqn' : ¬ (q : Int) < (n1 : Int) := by omega
            go_wp2_with fail
            go_roundw
            case rel => exact ⟨(k : Int) - 1, by omega, by omega, by go_num, by rw [Hlt.out, Int.toNat_natCast, Hfin.out, show ((k : Int) - 1).toNat = k - 1 by omega], hb.trans ((hqw.bel _).mono hsz2)⟩
            case measure => simp [intOf]; omega
      · have Hz := Lib.hid (show ltF s k.toNat = [] by rw [show k.toNat = 0 by omega]; rfl)
        go_wp2_with fail
        go_ret
        exact ⟨ret_str (a := []) (by rw [Hv.out, Hlt.out, Hz.out]), hbw⟩
end Go.Proofs.Ytfbmcfdmffpfmaa
