/-
  Points with distances: what the reference asks of a list; numbers taken out of a list.
-/
import Derived.Test.YtopmifidhabobaaPlq
namespace Go.Proofs.Ytopmifidhabobaa
open Go.RowKit Go.Sort
set_option linter.unusedVariables false
set_option linter.unusedSimpArgs false

/-- The first k numbers may be distances. -/
def vdTo (zs : List Int) (k : Nat) : Prop := (∀ j, j < k → inR (zs.getD j 0) 1 60 = true) ∧ ∀ j, j + 1 < k → zs.getD j 0 ≤ zs.getD (j + 1) 0
theorem vdTo_succ {zs : List Int} {k : Nat} (h : vdTo zs k) (h1 : inR (zs.getD k 0) 1 60 = true) (h2 : ∀ p, k = p + 1 → zs.getD p 0 ≤ zs.getD k 0) : vdTo zs (k + 1) := by
  refine ⟨fun j hj => ?_, fun j hj => ?_⟩
  · rcases (show j < k ∨ j = k by omega) with h3 | rfl
    · exact h.1 j h3
    · exact h1
  · rcases (show j + 1 < k ∨ k = j + 1 by omega) with h3 | h3
    · exact h.2 j h3
    · have := h2 j h3
      rw [h3] at this
      exact this
theorem vd_out {zs : List Int} {k : Nat} {x : Int} (hx : zs[k]? = some x) (h : inR x 1 60 = false) : vd zs = false := by
  unfold vd
  rw [show (zs.any fun x => !inR x 1 60) = true from List.any_eq_true.2 ⟨x, List.mem_of_getElem? hx, by rw [h]; rfl⟩, Bool.not_true, Bool.and_false]
theorem vd_down {zs : List Int} {k : Nat} {x y : Int} (hx : zs[k + 1]? = some x) (hy : zs[k]? = some y) (h : x < y) : vd zs = false := by
  unfold vd
  rw [asc_no hy hx h, Bool.and_false, Bool.false_and]
theorem vd_end {zs : List Int} (h : vdTo zs zs.length) : vd zs = prs zs.length := by
  unfold vd
  rw [asc_yes h.2, show (zs.any fun x => !inR x 1 60) = false from ?_]
  · simp
  · rw [List.any_eq_false]
    intro x hx
    obtain ⟨j, hj, rfl⟩ := List.mem_iff_getElem.1 hx
    have := h.1 j hj
    rw [List.getD_eq_getElem?_getD, List.getElem?_eq_getElem hj] at this
    simpa using this
set_option maxRecDepth 8000 in
set_option maxHeartbeats 3200000 in
theorem validDistances_any (A : Option Addr) (n c : Nat) (zs : List Int) (w : World) (B : Nat) (hr : Rd w B A n c (zs.map I)) :
    Calls Try.prog 47 #[.slice A n c] w fun e w' => e = .returned (.bool (vd zs)) ∧ Quiet w w' := by
  have hm := hr.2.2.1
  have hnc := hr.2.1
  have Hn := Lib.hid hr.ilen
  unfold maxLen at hm
  go_enter Try.func47, Try.ntmps47
  go_wp2
  go_loopw [3] (fun i wr => ∃ k : Nat, k ≤ n ∧ i = .int .i64 k ∧ vdTo zs k ∧ Quiet w wr) (fun i _ => n - (intOf i).toNat)
  case atStart => exact ⟨0, Nat.zero_le _, rfl, ⟨fun j hj => absurd hj (Nat.not_lt_zero _), fun j hj => absurd hj (Nat.not_lt_zero _)⟩, Quiet.refl _⟩
  case round =>
    obtain ⟨k, hk, rfl, hall, hq⟩ := hrel
    have Hall := Lib.hid hall
    clear hall
    by_cases hlt : k < n
    · obtain ⟨b, o, x, rfl, hb, hx, hc⟩ := (hq.rd hr).int hlt
      have hlt' : (k : Int) < (n : Int) := by omega
      have HxD := Lib.hid (getD_at hx)
      have Hx := Lib.hid hx
      clear hx
      cases hi : inR x 1 60 with
      | false =>
        have Hv := Lib.hid (vd_out Hx.out hi)
        have Hi := Lib.hid hi
        clear hi
        go_wp2_with fail
        go_quiet ((go_at_call 81; exact Calls.quiet_of_same (inRange_q Hi.out)))
        go_wp2_with fail
        go_ret
        exact ⟨ret_bool (Hv.out).symm, hq.drewN _⟩
      | true =>
        have Hi := Lib.hid hi
        rcases Nat.eq_zero_or_pos k with h0 | h0
        · subst h0
          have Hp := Lib.hid (show vdTo zs (0 + 1) from vdTo_succ Hall.out (by rw [HxD.out]; exact hi) (fun p hp => by omega))
          clear hi
          rw [Nat.add_zero] at hc
          have hd0 : decide ((0 : Int) < 0) = false := rfl
          have b0 : (0 : Int) < (n : Int) := by omega
          have b1 : (0 : Int) ≤ 0 := by omega
          go_wp2_with fail
          go_quiet ((go_at_call 81; exact Calls.quiet_of_same (inRange_q Hi.out)))
          go_wp2_with fail
          go_roundw
          case rel => exact ⟨1, by omega, by go_num, Hp.out, hq.drewN _⟩
          case measure => simp [intOf]; omega
        · obtain ⟨p, rfl⟩ : ∃ p, k = p + 1 := ⟨k - 1, by omega⟩
          obtain ⟨y, hy, hcy⟩ := (hq.rd hr).int_at (show p < n by omega)
          have HyD := Lib.hid (getD_at hy)
          have Hy := Lib.hid hy
          clear hy
          have e1 : IntKind.i64.wrap ((p : Int) + 1 - 1) = (p : Int) := by rw [IntKind.wrap_i64]; omega
          have e2 : ((p : Int) + 1 - 1) = (p : Int) := by omega
          have b1 : (0 : Int) ≤ (p : Int) := by omega
          have b2 : (p : Int) < (n : Int) := by omega
          have b3 : (0 : Int) < (p : Int) + 1 := by omega
          have b4 : (p : Int) + 1 < (n : Int) := by omega
          have hd0 : decide ((0 : Int) < (p : Int) + 1) = true := by simp <;> omega
          have b5 : decide ((p : Int) + 1 < (n : Int)) = true := by simp <;> omega
          by_cases hyx : x < y
          · have Hv := Lib.hid (vd_down Hx.out Hy.out hyx)
            clear hi
            have hyx' : decide (x < y) = true := by simpa using hyx
            go_wp2_with fail
            go_quiet ((go_at_call 81; exact Calls.quiet_of_same (inRange_q Hi.out)))
            go_wp2_with fail
            go_ret
            exact ⟨ret_bool (Hv.out).symm, hq.drewN _⟩
          · have Hp := Lib.hid (show vdTo zs (p + 1 + 1) from vdTo_succ Hall.out (by rw [HxD.out]; exact hi) (fun p' hp => by
              obtain rfl : p = p' := by omega
              rw [HxD.out, HyD.out]; omega))
            clear hi
            have hyx' : decide (x < y) = false := by simpa using hyx
            go_wp2_with fail
            go_quiet ((go_at_call 81; exact Calls.quiet_of_same (inRange_q Hi.out)))
            go_wp2_with fail
            go_roundw
            case rel => exact ⟨p + 1 + 1, by omega, by go_num, Hp.out, hq.drewN _⟩
            case measure => simp [intOf]; omega
    · obtain rfl : k = n := by omega
      have hlt' : ¬ (k : Int) < (k : Int) := by omega
      have Hend := Lib.hid (fun (b : Bool) (h : prs k = b) => show b = vd zs by rw [vd_end (by rw [Hn.out]; exact Hall.out), Hn.out, h])
      generalize k = n at hlt' Hend Hn hk hr hnc ⊢
      go_wp2_with fail
      go_loopw [4] (fun i wz => ∃ k : Nat, 1 ≤ k ∧ k ≤ 7 ∧ i = .int .i64 k ∧ (1 < k → n ≠ 0) ∧ (2 < k → n ≠ 1) ∧ (3 < k → n ≠ 3) ∧ (4 < k → n ≠ 6) ∧ (5 < k → n ≠ 10) ∧ (6 < k → n ≠ 15) ∧ Quiet w wz) (fun i _ => 7 - (intOf i).toNat)
      case atStart => exact ⟨1, by omega, by omega, rfl, by omega, by omega, by omega, by omega, by omega, by omega, hq⟩
      case round =>
      obtain ⟨k, h1, h7, rfl, g1, g2, g3, g4, g5, g6, hq⟩ := hrel
      rcases (show k = 7 ∨ k = 1 ∨ k = 2 ∨ k = 3 ∨ k = 4 ∨ k = 5 ∨ k = 6 by omega) with rfl | rfl | rfl | rfl | rfl | rfl | rfl
      · have Hv := Lib.hid (Hend.out false (by unfold prs; simp; omega))
        clear g1 g2 g3 g4 g5 g6
        go_wp2_with fail
        go_ret
        exact ⟨ret_bool Hv.out, hq.drewN 0⟩
      · by_cases hm0 : n = 0
        · subst hm0
          have Hv := Lib.hid (Hend.out true (by decide))
          clear g1 g2 g3 g4 g5 g6
          go_wp2_with fail
          go_ret
          exact ⟨ret_bool Hv.out, hq.drewN 0⟩
        · have b0 : ¬ (0 : Int) = (n : Int) := by omega
          have b1 : ((0 : Int) == (n : Int)) = false := by simpa using b0
          have G := Lib.hid (And.intro g1 (And.intro g2 (And.intro g3 (And.intro g4 (And.intro g5 g6)))))
          clear g1 g2 g3 g4 g5 g6
          go_wp2_with fail
          go_roundw
          case rel =>
            obtain ⟨g1, g2, g3, g4, g5, g6⟩ := G.out
            exact ⟨2, by omega, by omega, rfl, by omega, by omega, by omega, by omega, by omega, by omega, hq⟩
          case measure => simp [intOf]
      · by_cases hm0 : n = 1
        · subst hm0
          have Hv := Lib.hid (Hend.out true (by decide))
          clear g1 g2 g3 g4 g5 g6
          go_wp2_with fail
          go_ret
          exact ⟨ret_bool Hv.out, hq.drewN 0⟩
        · have b0 : ¬ (1 : Int) = (n : Int) := by omega
          have b1 : ((1 : Int) == (n : Int)) = false := by simpa using b0
          have G := Lib.hid (And.intro g1 (And.intro g2 (And.intro g3 (And.intro g4 (And.intro g5 g6)))))
          clear g1 g2 g3 g4 g5 g6
          go_wp2_with fail
          go_roundw
          case rel =>
            obtain ⟨g1, g2, g3, g4, g5, g6⟩ := G.out
            exact ⟨3, by omega, by omega, rfl, by omega, by omega, by omega, by omega, by omega, by omega, hq⟩
          case measure => simp [intOf]
      · by_cases hm0 : n = 3
        · subst hm0
          have Hv := Lib.hid (Hend.out true (by decide))
          clear g1 g2 g3 g4 g5 g6
          go_wp2_with fail
          go_ret
          exact ⟨ret_bool Hv.out, hq.drewN 0⟩
        · have b0 : ¬ (3 : Int) = (n : Int) := by omega
          have b1 : ((3 : Int) == (n : Int)) = false := by simpa using b0
          have G := Lib.hid (And.intro g1 (And.intro g2 (And.intro g3 (And.intro g4 (And.intro g5 g6)))))
          clear g1 g2 g3 g4 g5 g6
          go_wp2_with fail
          go_roundw
          case rel =>
            obtain ⟨g1, g2, g3, g4, g5, g6⟩ := G.out
            exact ⟨4, by omega, by omega, rfl, by omega, by omega, by omega, by omega, by omega, by omega, hq⟩
          case measure => simp [intOf]
      · by_cases hm0 : n = 6
        · subst hm0
          have Hv := Lib.hid (Hend.out true (by decide))
          clear g1 g2 g3 g4 g5 g6
          go_wp2_with fail
          go_ret
          exact ⟨ret_bool Hv.out, hq.drewN 0⟩
        · have b0 : ¬ (6 : Int) = (n : Int) := by omega
          have b1 : ((6 : Int) == (n : Int)) = false := by simpa using b0
          have G := Lib.hid (And.intro g1 (And.intro g2 (And.intro g3 (And.intro g4 (And.intro g5 g6)))))
          clear g1 g2 g3 g4 g5 g6
          go_wp2_with fail
          go_roundw
          case rel =>
            obtain ⟨g1, g2, g3, g4, g5, g6⟩ := G.out
            exact ⟨5, by omega, by omega, rfl, by omega, by omega, by omega, by omega, by omega, by omega, hq⟩
          case measure => simp [intOf]
      · by_cases hm0 : n = 10
        · subst hm0
          have Hv := Lib.hid (Hend.out true (by decide))
          clear g1 g2 g3 g4 g5 g6
          go_wp2_with fail
          go_ret
          exact ⟨ret_bool Hv.out, hq.drewN 0⟩
        · have b0 : ¬ (10 : Int) = (n : Int) := by omega
          have b1 : ((10 : Int) == (n : Int)) = false := by simpa using b0
          have G := Lib.hid (And.intro g1 (And.intro g2 (And.intro g3 (And.intro g4 (And.intro g5 g6)))))
          clear g1 g2 g3 g4 g5 g6
          go_wp2_with fail
          go_roundw
          case rel =>
            obtain ⟨g1, g2, g3, g4, g5, g6⟩ := G.out
            exact ⟨6, by omega, by omega, rfl, by omega, by omega, by omega, by omega, by omega, by omega, hq⟩
          case measure => simp [intOf]
      · by_cases hm0 : n = 15
        · subst hm0
          have Hv := Lib.hid (Hend.out true (by decide))
          clear g1 g2 g3 g4 g5 g6
          go_wp2_with fail
          go_ret
          exact ⟨ret_bool Hv.out, hq.drewN 0⟩
        · have b0 : ¬ (15 : Int) = (n : Int) := by omega
          have b1 : ((15 : Int) == (n : Int)) = false := by simpa using b0
          have G := Lib.hid (And.intro g1 (And.intro g2 (And.intro g3 (And.intro g4 (And.intro g5 g6)))))
          clear g1 g2 g3 g4 g5 g6
          go_wp2_with fail
          go_roundw
          case rel =>
            obtain ⟨g1, g2, g3, g4, g5, g6⟩ := G.out
            exact ⟨7, by omega, by omega, rfl, by omega, by omega, by omega, by omega, by omega, by omega, hq⟩
          case measure => simp [intOf]
end Go.Proofs.Ytopmifidhabobaa
