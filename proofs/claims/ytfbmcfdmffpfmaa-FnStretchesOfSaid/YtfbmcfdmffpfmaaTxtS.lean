/-
  The reference's texts that windows make: what windows are, all texts, what is told.
-/
import Derived.Test.YtfbmcfdmffpfmaaTxsL
import Derived.Test.YtfbmcfdmffpfmaaFactS
import Derived.Test.YtfbmcfdmffpfmaaAppN
import Derived.Test.YtfbmcfdmffpfmaaConcT
namespace Go.Proofs.Ytfbmcfdmffpfmaa
open Go.RowKit
set_option linter.unusedVariables false
set_option linter.unusedSimpArgs false

theorem vwd_no {ws : List (List UInt8)} {k : Nat} {x : List UInt8} (hx : ws[k]? = some x) (h : wdOk (klen ws) x = false) : vwd ws = false := by
  unfold vwd
  rw [Bool.and_eq_false_iff]
  left
  rw [List.all_eq_false]
  exact ⟨x, List.mem_of_getElem? hx, by rw [h]; simp⟩
theorem vwd_all {ws : List (List UInt8)} {n k : Nat} (hn : ws.length = n) (hk : ¬ k < n) (h0 : (ws.take k).all (wdOk (klen ws)) = true) : vwd ws = inR (n : Int) 1 8 := by
  unfold vwd
  rw [List.take_of_length_le (by omega)] at h0
  rw [h0, hn]
  rfl
theorem klen_at {ws : List (List UInt8)} {x : List UInt8} (h : ws[0]? = some x) : klen ws = x.length := by
  cases ws with
  | nil => cases h
  | cons a r =>
    simp at h
    subst h
    rfl
theorem vt_q {s : List UInt8} {w : World} (hs : s.length ≤ 140737488351232) {b : Bool} (hb : vt s = b) :
    Calls Try.prog 59 #[.string ⟨s.toArray⟩] w fun e w' => e = .returned (.bool b) ∧ w' = w := by
  subst hb
  exact (validText_any s w hs).mono fun _ _ ⟨h1, h2⟩ => ⟨h1, h2.symm⟩
theorem inR_q {n lo hi : Int} {w : World} {b : Bool} (hb : inR n lo hi = b) :
    Calls Try.prog 66 #[.int .i64 n, .int .i64 lo, .int .i64 hi] w fun e w' => e = .returned (.bool b) ∧ w' = w := by
  subst hb
  exact (inRange_any n lo hi w).mono fun _ _ ⟨h1, h2⟩ => ⟨h1, h2.symm⟩
set_option maxHeartbeats 1600000 in
theorem validWindows_any (A : Option Addr) (n c : Nat) (ws : List (List UInt8)) (w : World) (B : Nat) (hr : Rd w B A n c (ws.map S)) (hl : Len47 ws) :
    Calls Try.prog 77 #[.slice A n c] w fun e w' => e = .returned (.bool (vwd ws)) ∧ Quiet w w' := by
  have hm := hr.2.2.1
  have hnc := hr.2.1
  unfold maxLen at hm
  go_enter Try.func77, Try.ntmps77
  go_wp2_with fail
  go_loopw [3] (fun i wr => ∃ k : Nat, k ≤ n ∧ i = .int .i64 k ∧ (ws.take k).all (wdOk (klen ws)) = true ∧ Quiet w wr) (fun i _ => n - (intOf i).toNat)
  case atStart => exact ⟨0, Nat.zero_le _, rfl, by simp, Quiet.refl _⟩
  case round =>
    obtain ⟨k, hk, rfl, hall, hqw⟩ := hrel
    have Hall := Lib.hid hall
    clear hall
    by_cases hlt : k < n
    · obtain ⟨b, o, x, rfl, hb, hx, hc⟩ := (hqw.rd hr).str hlt
      obtain ⟨y, hy, hcy⟩ := (hqw.rd hr).str_at (show 0 < n by omega)
      rw [Nat.add_zero] at hcy
      have hkl := klen_at hy
      have hxl := hl.at_ hx
      have hyl := hl.at_ hy
      have Hx := Lib.hid hx
      have Hk := Lib.hid hkl
      clear hx hy hkl
      have n0 : (0 : Int) < (n : Int) := by omega
      have k0 : (0 : Int) ≤ (k : Int) := by omega
      have k1 : (k : Int) < (n : Int) := by omega
      by_cases hv : vt x = true
      · by_cases hi : inR x.length 1 6 = true
        · by_cases he : x.length = y.length
          · have e0 : ((x.length : Int) != (y.length : Int)) = false := by simp; omega
            have Hw := Lib.hid (show wdOk (klen ws) x = true by unfold wdOk; rw [hv, hi, Hk.out, decide_eq_true he]; rfl)
            have Hv := Lib.hid hv
            have Hi := Lib.hid hi
            clear hv hi he
            go_wp2_with fail
            go_quiet ((first | (go_at_call 59; exact Calls.quiet_of_same (vt_q (by omega) Hv.out)) | (go_at_call 66; exact Calls.quiet_of_same (inR_q Hi.out))))
            go_wp2_with fail
            go_roundw
            case rel => exact ⟨k + 1, by omega, by go_num, allw_succ _ Hx.out Hall.out Hw.out, hqw.drewN _⟩
            case measure => simp [intOf]; omega
          · have e0 : ((x.length : Int) != (y.length : Int)) = true := by simp; omega
            have Hw := Lib.hid (vwd_no Hx.out (show wdOk (klen ws) x = false by unfold wdOk; rw [hv, hi, Hk.out, decide_eq_false he]; rfl))
            have Hv := Lib.hid hv
            have Hi := Lib.hid hi
            clear hv hi he
            go_wp2_with fail
            go_quiet ((first | (go_at_call 59; exact Calls.quiet_of_same (vt_q (by omega) Hv.out)) | (go_at_call 66; exact Calls.quiet_of_same (inR_q Hi.out))))
            go_wp2_with fail
            go_ret
            exact ⟨ret_bool (Hw.out).symm, hqw.drewN _⟩
        · have hi' : inR x.length 1 6 = false := by simpa using hi
          have Hw := Lib.hid (vwd_no Hx.out (show wdOk (klen ws) x = false by unfold wdOk; rw [hi']; simp))
          have Hv := Lib.hid hv
          have Hi := Lib.hid hi'
          clear hv hi hi'
          go_wp2_with fail
          go_quiet ((first | (go_at_call 59; exact Calls.quiet_of_same (vt_q (by omega) Hv.out)) | (go_at_call 66; exact Calls.quiet_of_same (inR_q Hi.out))))
          go_wp2_with fail
          go_ret
          exact ⟨ret_bool (Hw.out).symm, hqw.drewN _⟩
      · have hv' : vt x = false := by simpa using hv
        have Hw := Lib.hid (vwd_no Hx.out (show wdOk (klen ws) x = false by unfold wdOk; rw [hv']; simp))
        have Hv := Lib.hid hv'
        have Hi := Lib.hid (rfl : inR x.length 1 6 = inR x.length 1 6)
        clear hv hv'
        go_wp2_with fail
        go_quiet ((first | (go_at_call 59; exact Calls.quiet_of_same (vt_q (by omega) Hv.out)) | (go_at_call 66; exact Calls.quiet_of_same (inR_q Hi.out))))
        go_wp2_with fail
        go_ret
        exact ⟨ret_bool (Hw.out).symm, hqw.drewN _⟩
    · have Hw := Lib.hid (vwd_all hr.slen hlt Hall.out)
      go_wp2_with fail
      refine (inRange_any _ _ _ _).mono ?_
      rintro e w' ⟨rfl, rfl⟩
      go_wp2_with fail
      go_ret
      exact ⟨ret_bool (Hw.out).symm, hqw⟩
end Go.Proofs.Ytfbmcfdmffpfmaa
