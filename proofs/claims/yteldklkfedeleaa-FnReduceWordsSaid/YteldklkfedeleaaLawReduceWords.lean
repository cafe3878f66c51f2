/-
  The law on the words that are left (FnReduceWords): the walk.
-/
import Derived.Test.YteldklkfedeleaaRedPlain
import Derived.Test.YteldklkfedeleaaLawsS
import Derived.Test.YteldklkfedeleaaGen
import Derived.StillTailTactics
import Derived.Outline
namespace Go.Proofs.Yteldklkfedeleaa
open Go.RowKit
set_option linter.unusedVariables false
set_option linter.unusedSimpArgs false

theorem Short.len47 {ws : List (List UInt8)} {k : Nat} (h : Short ws k) (hk : k ≤ 1000) : Len47 ws := fun x hx => by have := h x hx; omega
theorem RW_short {ws : List (List UInt8)} : Short (RW ws) 6 := by
  intro x hx
  unfold RW at hx
  split at hx
  · next h => exact (wOk_len (vw_all' h x (red_sub hx))).2
  · cases hx
theorem RW_len (ws : List (List UInt8)) : (RW ws).length ≤ 6 := by
  unfold RW
  split
  · next h => exact Nat.le_trans (red_le ws) (vw_len h)
  · simp

set_option maxHeartbeats 1000000 in
theorem walkReduceWords (A : Option Addr) (n c : Nat) (zs : List Int) (w : World) (hr : Rd w w.heap.size A n c (zs.map U8)) (hz : ∀ z ∈ zs, 0 ≤ z ∧ z ≤ 255) (hvr : Vr w) :
    Calls Try.prog 3 #[.slice A n c] w (RetVal w (.bool true)) := by
  by_cases hbig : 1048576 < n
  · go_enter Try.func3, Try.ntmps3
    go_wp2_with fail
    go_ret
    exact ⟨rfl, Below.refl _ _⟩
  · have HD := Lib.hid (DrawReduceWords_any A n c zs w hr hz)
    go_enter Try.func3, Try.ntmps3
    go_wp2_with fail
    refine HD.out.mono ?_
    rintro e w1 ⟨A1, n1, c1, ws, rfl, ho1, hsh, hn1, hb1⟩
    have hvr1 := hvr.keep hb1
    have hr1 := ho1.rd
    have hl47 := hsh.len47 (by omega)
    go_wp2_with fail
    refine (ReduceWords_any A1 n1 c1 ws w1 hr1 hl47 hvr1).mono ?_
    rintro e w2 ⟨A2, n2, c2, rfl, ho2, hb2⟩
    have hvr2 := hvr1.keep hb2
    have hr12 := (hr1.below hb2).more hb2.size
    have hr2 := ho2.rd
    go_wp2_with fail
    refine (specReduceWords_any A1 n1 c1 ws w2 hr12 hl47).mono ?_
    rintro e w3 ⟨A3, n3, c3, rfl, ho3, hb3⟩
    have hr13 := (hr12.below hb3).more hb3.size
    have hr23 := (hr2.below hb3).more hb3.size
    have hr3 := ho3.rd
    go_wp2_with fail
    refine (equalTexts_any A2 n2 c2 (RW ws) A3 n3 c3 (RW ws) w3 w3.heap.size hr23 hr3).mono ?_
    rintro e w4 ⟨rfl, hq4⟩
    rw [show decide (RW ws = RW ws) = true by simp]
    have hb4 : Below w.heap.size w w4 := (hb1.trans ((hb2.trans ((hb3.trans ((hq4.bel w3.heap.size).mono hb3.size)).mono hb2.size)).mono hb1.size))
    have hr14 := hq4.rd hr13
    have hr24 := hq4.rd hr23
    have hs4 := hq4.size
    rw [← hs4] at hr14 hr24
    have hvr4 := hvr.keep hb4
    clear hs4
    by_cases h0 : n2 = 0
    · subst h0
      have hnil : RW ws = [] := List.eq_nil_of_length_eq_zero hr2.slen
      go_wp2_with fail
      refine (specReduceWords_any A1 n1 c1 ws w4 hr14 hl47).mono ?_
      rintro e w5 ⟨A5, n5, c5, rfl, ho5, hb5⟩
      have hr25 := (hr24.below hb5).more hb5.size
      have hr5 := ho5.rd
      go_wp2_with fail
      refine (equalTexts_any A2 0 c2 (RW ws) A5 n5 c5 (RW ws) w5 w5.heap.size hr25 hr5).mono ?_
      rintro e w6 ⟨rfl, hq6⟩
      rw [show decide (RW ws = RW ws) = true by simp]
      go_wp2_with fail
      go_ret
      exact ⟨rfl, hb4.trans ((hb5.trans ((hq6.bel w5.heap.size).mono hb5.size)).mono hb4.size)⟩
    · have hne : RW ws ≠ [] := fun h => by have := hr2.slen; rw [h] at this; simp at this; omega
      have hv : vw ws = true := by
        cases h : vw ws with
        | true => rfl
        | false => exact absurd (by unfold RW; rw [h]; rfl) hne
      have hRW : RW ws = red ws := by unfold RW; rw [hv]; rfl
      have hap : (RW ws).Pairwise Apart := by rw [hRW]; exact red_apart ws
      have hlen2 := RW_len ws
      have hsh2 := RW_short (ws := ws)
      have Hlen := Lib.hid hr2.slen
      rw [Hlen.out] at hlen2
      have HRW := Lib.hid hRW
      have HV := Lib.hid hv
      clear hRW hv hne
      have h0' : ((n2 : Int) == 0) = false := by simp; omega
      clear hb1 hb2 hb3 hq4 ho1 ho2 ho3 hr1 hr2 hr3 hr12 hr13 hr23 hvr1 hvr2 h0
      obtain ⟨c2b, c2m⟩ := hr24.2
      unfold maxLen at c2m
      have c2m' := c2m.1
      clear c2m
      go_wp2_with fail
      go_loopw [5] (fun i wr => ∃ k : Nat, k ≤ n2 ∧ i = .int .i64 k ∧ Below w4.heap.size w4 wr) (fun i _ => n2 - (intOf i).toNat)
      case atStart => exact ⟨0, Nat.zero_le _, rfl, Below.refl _ _⟩
      case round =>
        obtain ⟨i, hi, rfl, hbo⟩ := hrel
        by_cases hin : i < n2
        · go_wp2_with fail
          obtain ⟨wo, rfl⟩ : ∃ wo : World, wo = wr := ⟨_, rfl⟩
          go_loopw [6] (fun i wr => ∃ k : Nat, k ≤ n2 ∧ i = .int .i64 k ∧ Below w4.heap.size w4 wr) (fun i _ => n2 - (intOf i).toNat)
          case atStart => exact ⟨0, Nat.zero_le _, rfl, hbo⟩
          case round =>
            obtain ⟨k, hk, rfl, hbk⟩ := hrel
            by_cases hkn : k < n2
            · obtain ⟨b, o, x, rfl, hb, hx, hcx⟩ := (hr24.below hbk).str hin
              obtain ⟨y, hy, hcy⟩ := (hr24.below hbk).str_at hkn
              by_cases hki : i = k
              · subst hki
                go_wp2_with fail
                go_quiet (fail)
                go_wp2_with fail
                go_roundw
                case rel => exact ⟨i + 1, by omega, by go_num, bel_drewN hbk _⟩
                case measure => simp [intOf]; omega
              · have hki' : ((i : Int) != (k : Int)) = true := by simp; omega
                have hkn' : (k : Int) < (n2 : Int) := by omega
                have hin' : (i : Int) < (n2 : Int) := by omega
                go_wp2_with fail
                go_still_tail 12, (by kernel_rfl)
                have hbd : Below w4.heap.size w4 wr.drew := hbk.drew
                have hvr5 := hvr4.keep hbd
                have hxl := hsh2 x (List.mem_of_getElem? hx)
                have hyl := hsh2 y (List.mem_of_getElem? hy)
                have hno : hasL y x = false := by
                  rw [← Bool.not_eq_true, hasL_iff]
                  rw [List.pairwise_iff_getElem] at hap
                  obtain ⟨h1, rfl⟩ := List.getElem?_eq_some_iff.1 hx
                  obtain ⟨h2, rfl⟩ := List.getElem?_eq_some_iff.1 hy
                  rcases Nat.lt_or_gt_of_ne hki with h3 | h3
                  · exact (hap i k h1 h2 h3).1
                  · exact (hap k i h2 h1 h3).2
                clear hx hy
                go_wp2_with fail
                refine (HasWord_any y x wr.drew (by omega) (by omega) hvr5).mono ?_
                rintro e w6 ⟨rfl, hb6⟩
                rw [show (vt y && vt x && hasL y x) = false by rw [hno]; simp]
                have hb46 : Below w4.heap.size w4 w6 := hbd.trans (hb6.mono hbd.size)
                go_wp2_with fail
                go_roundw
                case rel => exact ⟨k + 1, by omega, by go_num, hb46⟩
                case measure => simp [intOf]; omega
            · go_wp2_with fail
              go_roundw
              case rel => exact ⟨i + 1, by omega, by go_num, hbk⟩
              case measure => simp [intOf]; omega
        · go_wp2_with fail
          go_loopw [7] (fun i wr => ∃ k : Nat, k ≤ n1 ∧ i = .int .i64 k ∧ Below w4.heap.size w4 wr) (fun i _ => n1 - (intOf i).toNat)
          case atStart => exact ⟨0, Nat.zero_le _, rfl, hbo⟩
          case round =>
            obtain ⟨i2, hi2, rfl, hbo2⟩ := hrel
            by_cases hin2 : i2 < n1
            · obtain ⟨b, o, x, rfl, hb, hx, hcx⟩ := (hr14.below hbo2).str hin2
              have hxm := List.mem_of_getElem? hx
              have hmet : (RW ws).any (fun r => hasL r x) = true := by
                rw [HRW.out]
                obtain ⟨r, hr', hxr⟩ := red_met' hxm
                exact List.any_eq_true.2 ⟨r, hr', hasL_iff.2 hxr⟩
              have Hmet := Lib.hid hmet
              have Hx := Lib.hid hx
              have hvx : vt x = true := wOk_vt (vw_all' HV.out x hxm)
              have Hvx := Lib.hid hvx
              have hxl := hsh x hxm
              clear hmet hx hvx hcx
              go_wp2_with fail
              obtain ⟨wo, rfl⟩ : ∃ wo : World, wo = wr := ⟨_, rfl⟩
              go_loopw [8, 9] (fun m k wr => ∃ j : Nat, j ≤ n2 ∧ k = .int .i64 j ∧ m = .bool (((RW ws).take j).any (fun r => hasL r x)) ∧ Below w4.heap.size w4 wr) (fun _ i _ => n2 - (intOf i).toNat)
              case atStart => exact ⟨0, Nat.zero_le _, rfl, by simp, hbo2⟩
              case round =>
                obtain ⟨j, hj, rfl, rfl, hbj⟩ := hrel
                by_cases hjn : j < n2
                · obtain ⟨b2, o2, y, rfl, hb2, hy, hcy⟩ := (hr24.below hbj).str hjn
                  obtain ⟨x', hx', hcx⟩ := (hr14.below hbj).str_at hin2
                  rw [Hx.out] at hx'
                  injection hx' with hx'
                  subst hx'
                  have Hstep := Lib.hid (show ((RW ws).take (j + 1)).any (fun r => hasL r x) = (((RW ws).take j).any (fun r => hasL r x) || hasL y x) by
                    obtain ⟨h1, rfl⟩ := List.getElem?_eq_some_iff.1 hy
                    rw [List.take_succ_eq_append_getElem h1, List.any_append]; simp)
                  have hym := List.mem_of_getElem? hy
                  have Hvy := Lib.hid (show vt y = true by rw [HRW.out] at hym; exact wOk_vt (vw_all' HV.out y (red_sub hym)))
                  have hyl := hsh2 y hym
                  clear hy
                  have hjn' : (j : Int) < (n2 : Int) := by omega
                  have hin' : (i2 : Int) < (n1 : Int) := by omega
                  cases hm : ((RW ws).take j).any (fun r => hasL r x) with
                  | true =>
                    have Hm := Lib.hid hm
                    clear hm
                    go_wp2_with fail
                    go_quiet (fail)
                    go_wp2_with fail
                    go_roundw
                    case rel => exact ⟨j + 1, by omega, by go_num, by rw [Hstep.out, Hm.out]; rfl, bel_drewN hbj _⟩
                    case measure => simp [intOf]; omega
                  | false =>
                    have Hm := Lib.hid hm
                    clear hm
                    have hbd : Below w4.heap.size w4 wr.drew := hbj.drew
                    have hvr5 := hvr4.keep hbd
                    go_wp2_with fail
                    go_still_tail 10, (by kernel_rfl)
                    go_wp2_with fail
                    refine (HasWord_any y x wr.drew (by omega) (by omega) hvr5).mono ?_
                    rintro e w6 ⟨rfl, hb6⟩
                    rw [show (vt y && vt x && hasL y x) = hasL y x by rw [Hvy.out, Hvx.out]; simp]
                    have hb46 : Below w4.heap.size w4 w6 := hbd.trans (hb6.mono hbd.size)
                    go_wp2_with fail
                    go_roundw
                    case rel => exact ⟨j + 1, by omega, by go_num, by rw [Hstep.out, Hm.out]; rfl, hb46⟩
                    case measure => simp [intOf]; omega
                · obtain rfl : j = n2 := by omega
                  have hfull : ((RW ws).take j).any (fun r => hasL r x) = true := by
                    rw [List.take_of_length_le (by rw [Hlen.out]; exact Nat.le_refl _)]
                    exact Hmet.out
                  rw [hfull]
                  clear hfull
                  go_wp2_with fail
                  go_roundw
                  case rel => exact ⟨i2 + 1, by omega, by go_num, hbj⟩
                  case measure => simp [intOf]; omega
            · have hvr5 := hvr4.keep hbo2
              have hr25 := (hr24.below hbo2).more hbo2.size
              go_wp2_with fail
              refine (ReduceWords_any A2 n2 c2 (RW ws) wr hr25 (RW_short.len47 (by omega)) hvr5).mono ?_
              rintro e w6 ⟨A6, n6, c6, rfl, ho6, hb6⟩
              have hr26 := (hr25.below hb6).more hb6.size
              have hr6 := ho6.rd
              rw [show RW (RW ws) = RW ws by rw [HRW.out]; unfold RW; rw [vw_red HV.out]; exact red_red ws] at hr6
              go_wp2_with fail
              refine (equalTexts_any A6 n6 c6 (RW ws) A2 n2 c2 (RW ws) w6 w6.heap.size hr6 hr26).mono ?_
              rintro e w7 ⟨rfl, hq7⟩
              rw [show decide (RW ws = RW ws) = true by simp]
              go_wp2_with fail
              go_ret
              exact ⟨rfl, hb4.trans ((hbo2.trans ((hb6.trans ((hq7.bel w6.heap.size).mono hb6.size)).mono hbo2.size)).mono hb4.size)⟩
end Go.Proofs.Yteldklkfedeleaa
