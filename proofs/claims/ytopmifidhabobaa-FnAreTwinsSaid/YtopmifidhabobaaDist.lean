/-
  Contracts on points and distances, of the reference and of the program.
-/
import Derived.Test.YtopmifidhabobaaLibI
import Derived.Test.YtopmifidhabobaaSortI
import Derived.StillTailTactics
namespace Go.Proofs.Ytopmifidhabobaa
open Go.RowKit
set_option linter.unusedVariables false
set_option linter.unusedSimpArgs false

theorem getD_at {zs : List Int} {k : Nat} {x : Int} (h : zs[k]? = some x) : zs.getD k 0 = x := by
  rw [List.getD_eq_getElem?_getD, h]
  rfl
theorem vp_false_at {zs : List Int} {k : Nat} (hk : k < zs.length) (h : (inR (zs.getD k 0) 0 60 && (decide (k = 0) || decide (zs.getD (k - 1) 0 < zs.getD k 0))) = false) : vp zs = false := by
  unfold vp
  rw [ptTo_no hk h, Bool.and_false]
theorem vp_end {zs : List Int} (h : ptTo zs zs.length = true) : vp zs = (inR zs.length 1 6 && decide (zs.getD 0 0 = 0)) := by
  unfold vp
  rw [h, Bool.and_true]
theorem inRange_q {n lo hi : Int} {w : World} {b : Bool} (hb : inR n lo hi = b) :
    Calls Try.prog 81 #[.int .i64 n, .int .i64 lo, .int .i64 hi] w fun e w' => e = .returned (.bool b) ∧ w' = w := by
  subst hb
  exact (inRange_any n lo hi w).mono fun _ _ ⟨h1, h2⟩ => ⟨h1, h2.symm⟩
set_option maxHeartbeats 800000 in
theorem validPoints_any (A : Option Addr) (n c : Nat) (zs : List Int) (w : World) (B : Nat) (hr : Rd w B A n c (zs.map I)) :
    Calls Try.prog 63 #[.slice A n c] w fun e w' => e = .returned (.bool (vp zs)) ∧ Quiet w w' := by
  have hm := hr.2.2.1
  have hnc := hr.2.1
  have Hn := Lib.hid hr.ilen
  unfold maxLen at hm
  go_enter Try.func63, Try.ntmps63
  go_wp2
  go_loopw [3] (fun i wr => ∃ k : Nat, k ≤ n ∧ i = .int .i64 k ∧ ptTo zs k = true ∧ Quiet w wr) (fun i _ => n - (intOf i).toNat)
  case atStart => exact ⟨0, Nat.zero_le _, rfl, rfl, Quiet.refl _⟩
  case round =>
    obtain ⟨k, hk, rfl, hall, hq⟩ := hrel
    have Hall := Lib.hid hall
    clear hall
    by_cases hlt : k < n
    · obtain ⟨b, o, x, rfl, hb, hx, hc⟩ := (hq.rd hr).int hlt
      have hlt' : (k : Int) < (n : Int) := by omega
      have Hkl := Lib.hid (show k < zs.length by have := Hn.out; omega)
      have HxD := Lib.hid (getD_at hx)
      clear hx
      cases hi : inR x 0 60 with
      | false =>
        have Hv := Lib.hid (vp_false_at (k := k) Hkl.out (by rw [HxD.out, hi]; rfl))
        have Hi := Lib.hid hi
        clear hi
        go_wp2_with fail
        go_quiet ((go_at_call 81; exact Calls.quiet_of_same (inRange_q Hi.out)))
        go_wp2_with fail
        go_ret
        exact ⟨ret_bool (Hv.out).symm, hq.drewN _⟩
      | true =>
        have Hi := Lib.hid hi
        rcases Nat.eq_zero_or_pos k with h0 | h0
        · subst h0
          have Hp := Lib.hid (show ptTo zs 1 = true by rw [ptTo, HxD.out, hi]; rfl)
          clear hi
          rw [Nat.add_zero] at hc
          have hd0 : decide ((0 : Int) < 0) = false := rfl
          have b0 : (0 : Int) < (n : Int) := by omega
          have b1 : (0 : Int) ≤ 0 := by omega
          go_wp2_with fail
          go_quiet ((go_at_call 81; exact Calls.quiet_of_same (inRange_q Hi.out)))
          go_wp2_with fail
          go_roundw
          case rel => exact ⟨1, by omega, by go_num, Hp.out, hq.drewN _⟩
          case measure => simp [intOf]; omega
        · obtain ⟨p, rfl⟩ : ∃ p, k = p + 1 := ⟨k - 1, by omega⟩
          obtain ⟨y, hy, hcy⟩ := (hq.rd hr).int_at (show p < n by omega)
          have HyD := Lib.hid (getD_at hy)
          clear hy
          have e1 : IntKind.i64.wrap ((p : Int) + 1 - 1) = (p : Int) := by rw [IntKind.wrap_i64]; omega
          have e2 : ((p : Int) + 1 - 1) = (p : Int) := by omega
          have b1 : (0 : Int) ≤ (p : Int) := by omega
          have b2 : (p : Int) < (n : Int) := by omega
          have b3 : (0 : Int) < (p : Int) + 1 := by omega
          have b4 : (p : Int) + 1 < (n : Int) := by omega
          have hd0 : decide ((0 : Int) < (p : Int) + 1) = true := by simp <;> omega
          have b5 : decide ((p : Int) + 1 < (n : Int)) = true := by simp <;> omega
          by_cases hyx : x ≤ y
          · have Hv := Lib.hid (vp_false_at (k := p + 1) Hkl.out (by rw [HxD.out, hi, show p + 1 - 1 = p by omega, HyD.out]; simp <;> omega))
            clear hi
            have hyx' : decide (x ≤ y) = true := by simpa using hyx
            go_wp2_with fail
            go_quiet ((go_at_call 81; exact Calls.quiet_of_same (inRange_q Hi.out)))
            go_wp2_with fail
            go_ret
            exact ⟨ret_bool (Hv.out).symm, hq.drewN _⟩
          · have Hp := Lib.hid (show ptTo zs (p + 1 + 1) = true by rw [ptTo, Hall.out, HxD.out, hi, show p + 1 - 1 = p by omega, HyD.out]; simp <;> omega)
            clear hi
            have hyx' : decide (x ≤ y) = false := by simpa using hyx
            go_wp2_with fail
            go_quiet ((go_at_call 81; exact Calls.quiet_of_same (inRange_q Hi.out)))
            go_wp2_with fail
            go_roundw
            case rel => exact ⟨p + 1 + 1, by omega, by go_num, Hp.out, hq.drewN _⟩
            case measure => simp [intOf]; omega
    · obtain rfl : k = n := by omega
      have hlt' : ¬ (k : Int) < (k : Int) := by omega
      have Hv := Lib.hid (show vp zs = (inR k 1 6 && decide (zs.getD 0 0 = 0)) by rw [vp_end (by rw [Hn.out]; exact Hall.out), Hn.out])
      cases hi : inR k 1 6 with
      | false =>
        have Hi := Lib.hid hi
        have Hv2 := Lib.hid (show vp zs = false by rw [Hv.out, hi]; rfl)
        clear hi
        go_wp2_with fail
        refine (inRange_q Hi.out).mono ?_
        rintro e w' ⟨rfl, rfl⟩
        go_wp2_with fail
        go_ret
        exact ⟨ret_bool (Hv2.out).symm, hq⟩
      | true =>
        have Hi := Lib.hid hi
        have hk1 := inR_true hi
        obtain ⟨b, o, x, rfl, hb, hx, hc⟩ := (hq.rd hr).int (show 0 < k by omega)
        rw [Nat.add_zero] at hc
        have Hv2 := Lib.hid (show vp zs = (x == 0) by rw [Hv.out, hi, getD_at hx, Bool.true_and]; rw [Bool.eq_iff_iff]; simp)
        clear hi hx
        have b0 : (0 : Int) < (k : Int) := by omega
        go_wp2_with fail
        refine (inRange_q Hi.out).mono ?_
        rintro e w' ⟨rfl, rfl⟩
        go_wp2_with fail
        go_ret
        exact ⟨ret_bool (Hv2.out).symm, hq⟩
set_option maxHeartbeats 800000 in
theorem ValidPoints_any (A : Option Addr) (n c : Nat) (zs : List Int) (w : World) (B : Nat) (hr : Rd w B A n c (zs.map I)) :
    Calls Try.prog 26 #[.slice A n c] w fun e w' => e = .returned (.bool (vp zs)) ∧ w' = w := by
  have hm := hr.2.2.1
  have hnc := hr.2.1
  have Hn := Lib.hid hr.ilen
  unfold maxLen at hm
  cases hi : inR n 1 6 with
  | false =>
    have Hi := Lib.hid hi
    have Hv := Lib.hid (show vp zs = false by unfold vp; rw [Hn.out, hi]; rfl)
    clear hi
    go_enter Try.func26, Try.ntmps26
    go_wp2_with fail
    refine (within_any _ _ _ _).mono ?_
    rintro e w' ⟨rfl, rfl⟩
    rw [Hi.out]
    go_wp2_with fail
    go_ret
    exact ⟨ret_bool (Hv.out).symm, rfl⟩
  | true =>
    have hk1 := inR_true hi
    have Hi := Lib.hid hi
    obtain ⟨b, o, z, rfl, hb, hz, hcz⟩ := hr.int (show 0 < n by omega)
    rw [Nat.add_zero] at hcz
    have HzD := Lib.hid (getD_at hz)
    have b0 : (0 : Int) < (n : Int) := by omega
    by_cases hz0 : z = 0
    · have hz1 : (z != 0) = false := by simpa using hz0
      have Hv := Lib.hid (show ptTo zs zs.length = true → vp zs = true by intro h; rw [vp_end h, Hn.out, hi, HzD.out, hz0]; rfl)
      clear hi hz hz0
      go_enter Try.func26, Try.ntmps26
      go_wp2_with fail
      refine (within_any _ _ _ _).mono ?_
      rintro e w' ⟨rfl, rfl⟩
      rw [Hi.out]
      go_wp2_with fail
      go_loopw [17] (fun i wr => ∃ k : Nat, k ≤ n ∧ i = .int .i64 k ∧ ptTo zs k = true ∧ wr = w) (fun i _ => n - (intOf i).toNat)
      case atStart => exact ⟨0, Nat.zero_le _, rfl, rfl, rfl⟩
      case round =>
        obtain ⟨k, hk, rfl, hall, rfl⟩ := hrel
        have Hall := Lib.hid hall
        clear hall
        by_cases hlt : k < n
        · obtain ⟨x, hx, hc⟩ := hr.int_at hlt
          have hlt' : (k : Int) < (n : Int) := by omega
          have Hkl := Lib.hid (show k < zs.length by have := Hn.out; omega)
          have HxD := Lib.hid (getD_at hx)
          clear hx
          cases hi : inR x 0 60 with
          | false =>
            have Hv2 := Lib.hid (vp_false_at (k := k) Hkl.out (by rw [HxD.out, hi]; rfl))
            have Hi2 := Lib.hid hi
            clear hi
            go_wp2_with fail
            refine (within_any _ _ _ _).mono ?_
            rintro e w' ⟨rfl, rfl⟩
            rw [Hi2.out]
            go_wp2_with fail
            go_ret
            exact ⟨ret_bool (Hv2.out).symm, rfl⟩
          | true =>
            have Hi2 := Lib.hid hi
            rcases Nat.eq_zero_or_pos k with h0 | h0
            · subst h0
              have Hp := Lib.hid (show ptTo zs 1 = true by rw [ptTo, HxD.out, hi]; rfl)
              rw [Nat.add_zero, hcz] at hc
              injection hc with hc
              injection hc with _ hc
              subst hc
              clear hi
              go_wp2_with fail
              refine (within_any _ _ _ _).mono ?_
              rintro e w' ⟨rfl, rfl⟩
              rw [Hi2.out]
              go_wp2_with fail
              go_roundw
              case rel => exact ⟨1, by omega, by go_num, Hp.out, by simp⟩
              case measure => simp [intOf]; omega
            · obtain ⟨p, rfl⟩ : ∃ p, k = p + 1 := ⟨k - 1, by omega⟩
              obtain ⟨y, hy, hcy⟩ := hr.int_at (show p < n by omega)
              have HyD := Lib.hid (getD_at hy)
              clear hy
              have e1 : IntKind.i64.wrap ((p : Int) + 1 - 1) = (p : Int) := by rw [IntKind.wrap_i64]; omega
              have e2 : ((p : Int) + 1 - 1) = (p : Int) := by omega
              have b1 : (0 : Int) ≤ (p : Int) := by omega
              have b2 : (p : Int) < (n : Int) := by omega
              have b3 : (0 : Int) < (p : Int) + 1 := by omega
              have b4 : (p : Int) + 1 < (n : Int) := by omega
              by_cases hyx : x ≤ y
              · have Hv2 := Lib.hid (vp_false_at (k := p + 1) Hkl.out (by rw [HxD.out, hi, show p + 1 - 1 = p by omega, HyD.out]; simp <;> omega))
                clear hi
                go_wp2_with fail
                refine (within_any _ _ _ _).mono ?_
                rintro e w' ⟨rfl, rfl⟩
                rw [Hi2.out]
                go_wp2_with fail
                go_ret
                exact ⟨ret_bool (Hv2.out).symm, rfl⟩
              · have Hp := Lib.hid (show ptTo zs (p + 1 + 1) = true by rw [ptTo, Hall.out, HxD.out, hi, show p + 1 - 1 = p by omega, HyD.out]; simp <;> omega)
                clear hi
                go_wp2_with fail
                refine (within_any _ _ _ _).mono ?_
                rintro e w' ⟨rfl, rfl⟩
                rw [Hi2.out]
                go_wp2_with fail
                go_roundw
                case rel => exact ⟨p + 1 + 1, by omega, by go_num, Hp.out, by simp⟩
                case measure => simp [intOf]; omega
        · obtain rfl : k = n := by omega
          have hlt' : ¬ (k : Int) < (k : Int) := by omega
          have Hv2 := Lib.hid (Hv.out (by rw [Hn.out]; exact Hall.out))
          go_wp2_with fail
          go_ret
          exact ⟨ret_bool (Hv2.out).symm, rfl⟩
    · have hz1 : (z != 0) = true := by simpa using hz0
      have Hv := Lib.hid (show vp zs = false by unfold vp; rw [HzD.out]; simp [hz0])
      clear hi hz hz0
      go_enter Try.func26, Try.ntmps26
      go_wp2_with fail
      refine (within_any _ _ _ _).mono ?_
      rintro e w' ⟨rfl, rfl⟩
      rw [Hi.out]
      go_wp2_with fail
      go_ret
      exact ⟨ret_bool (Hv.out).symm, rfl⟩
end Go.Proofs.Ytopmifidhabobaa
