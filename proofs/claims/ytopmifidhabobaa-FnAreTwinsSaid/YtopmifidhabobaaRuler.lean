/-
  Rulers: IsRuler, of the reference and of the program; the exact law's walk.
-/
import Derived.Test.YtopmifidhabobaaLawExactDist
namespace Go.Proofs.Ytopmifidhabobaa
open Go.RowKit
set_option linter.unusedVariables false
set_option linter.unusedSimpArgs false

def RU (zs : List Int) : Bool := vp zs && apartTo (dsr zs) (dsr zs).length
theorem apartTo_le {l : List Int} {k j : Nat} (h : apartTo l k = true) (hj : j ≤ k) : apartTo l j = true := by
  induction k with
  | zero => obtain rfl : j = 0 := by omega
            exact h
  | succ k ih =>
    rcases Nat.lt_or_ge j (k + 1) with h1 | h1
    · rw [apartTo, Bool.and_eq_true] at h
      exact ih h.1 (by omega)
    · obtain rfl : j = k + 1 := by omega
      exact h
theorem compactTo_len (l : List Int) (k : Nat) (hk : k ≤ l.length) : (Lib.compactUpTo l.toArray k).length ≤ k ∧ ((Lib.compactUpTo l.toArray k).length = k ↔ apartTo l k = true) := by
  induction k with
  | zero => simp [Lib.compactUpTo, apartTo]
  | succ k ih =>
    obtain ⟨h1, h2⟩ := ih (by omega)
    have e : Lib.keeps l.toArray k = (decide (k = 0) || decide (l.getD k 0 ≠ l.getD (k - 1) 0)) := by
      unfold Lib.keeps
      have g1 : l.toArray[k]! = l.getD k 0 := by
        rw [getElem!_pos _ _ (by simp; omega), List.getD_eq_getElem?_getD, List.getElem?_eq_getElem (by omega)]
        simp
      have g2 : l.toArray[k - 1]! = l.getD (k - 1) 0 := by
        rw [getElem!_pos _ _ (by simp; omega), List.getD_eq_getElem?_getD, List.getElem?_eq_getElem (by omega)]
        simp
      rw [g1, g2, Bool.eq_iff_iff]
      simp
    rw [Lib.compactUpTo_succ, List.length_append, apartTo, ← e]
    cases hkp : Lib.keeps l.toArray k with
    | true =>
      simp only [if_true, List.length_singleton, Bool.and_true]
      refine ⟨by omega, ⟨fun h => h2.1 (by omega), fun h => by rw [h2.2 h]⟩⟩
    | false =>
      simp only [Bool.false_eq_true, if_false, List.length_nil, Bool.and_false, iff_false]
      omega
theorem compact_len_eq (l : List Int) : decide ((Lib.compact l).length = l.length) = apartTo l l.length := by
  rw [Bool.eq_iff_iff, decide_eq_true_eq]
  exact (compactTo_len l l.length (Nat.le_refl _)).2
theorem dsr_len (zs : List Int) (h : vp zs = true) : (dsr zs).length ≤ 36 := by
  have := DO_len zs
  unfold DO at this
  rw [h] at this
  exact this
set_option maxHeartbeats 800000 in
theorem specIsRuler_any (A : Option Addr) (n c : Nat) (zs : List Int) (w : World) (hr : Rd w w.heap.size A n c (zs.map I)) :
    Calls Try.prog 34 #[.slice A n c] w (RetVal w (.bool (RU zs))) := by
  cases hv : vp zs with
  | false =>
    have Hv := Lib.hid (show RU zs = false by unfold RU; rw [hv]; rfl)
    have HV := Lib.hid hv
    clear hv
    go_enter Try.func34, Try.ntmps34
    go_wp2_with fail
    refine (validPoints_any A n c zs w _ hr).mono ?_
    rintro e w1 ⟨rfl, hq⟩
    rw [HV.out]
    go_wp2_with fail
    go_ret
    rw [Hv.out]
    exact ⟨rfl, hq.bel _⟩
  | true =>
    have hs := vp_small hv
    have hl := vp_len hv
    have hd := dsr_len zs hv
    have hn3 : n ≤ 1000 := by have := hr.ilen; omega
    have Hv := Lib.hid (show RU zs = apartTo (dsr zs) (dsr zs).length by unfold RU; rw [hv]; rfl)
    have HV := Lib.hid hv
    clear hv
    go_enter Try.func34, Try.ntmps34
    go_wp2_with fail
    refine (validPoints_any A n c zs w _ hr).mono ?_
    rintro e w1 ⟨rfl, hq⟩
    rw [HV.out]
    go_wp2_with fail
    refine (distances_any A n c zs w1 ((hr.below (hq.bel _)).more (hq.bel w.heap.size).size) hn3 hs).mono ?_
    rintro e w2 h2
    obtain ⟨A2, n2, c2, rfl, ho, hb⟩ := retRow_from (hq.bel _) h2
    have hrd := ho.rd
    have HN2 := Lib.hid hrd.ilen
    have hn2 : n2 ≤ 36 := by have := HN2.out; omega
    clear ho h2 hq
    go_wp2_with fail
    go_loopw [4] (fun i wr => ∃ k : Nat, k ≤ n2 ∧ (k = 0 → n2 = 0 ∧ i = .int .i64 1) ∧ (0 < k → i = .int .i64 k) ∧ apartTo (dsr zs) k = true ∧ Quiet w2 wr) (fun i _ => n2 - (intOf i).toNat)
    case atStart =>
      rcases Nat.eq_zero_or_pos n2 with h0 | h0
      · exact ⟨0, Nat.zero_le _, fun _ => ⟨h0, rfl⟩, fun h => by omega, rfl, Quiet.refl _⟩
      · exact ⟨1, h0, fun h => by omega, fun _ => rfl, rfl, Quiet.refl _⟩
    case round =>
      obtain ⟨k, hk, hk0, hk1, hap, hqw⟩ := hrel
      rcases Nat.eq_zero_or_pos k with h0 | h0
      · obtain ⟨hn0, rfl⟩ := hk0 h0
        subst hn0
        have hf : ¬ (1 : Int) < 0 := by omega
        have Hv2 := Lib.hid (show apartTo (dsr zs) (dsr zs).length = true by rw [HN2.out]; rfl)
        go_wp2_with fail
        go_ret
        rw [Hv.out, Hv2.out]
        exact ⟨rfl, hb.trans (hqw.bel _)⟩
      · obtain rfl := hk1 h0
        obtain ⟨p, rfl⟩ : ∃ p, k = p + 1 := ⟨k - 1, by omega⟩
        have Hap := Lib.hid hap
        clear hap hk0 hk1
        by_cases hkn : p + 1 < n2
        · obtain ⟨b, o, x, rfl, hb', hx, hcx⟩ := (hqw.rd hrd).int hkn
          obtain ⟨y, hy, hcy⟩ := (hqw.rd hrd).int_at (show p < n2 by omega)
          have HxD := Lib.hid (getD_at hx)
          have HyD := Lib.hid (getD_at hy)
          clear hx hy
          have e1 : IntKind.i64.wrap ((p : Int) + 1 - 1) = (p : Int) := by rw [IntKind.wrap_i64]; omega
          have e2 : ((p : Int) + 1 - 1) = (p : Int) := by omega
          have b1 : (0 : Int) ≤ (p : Int) := by omega
          have b2 : (p : Int) < (n2 : Int) := by omega
          have b4 : (p : Int) + 1 < (n2 : Int) := by omega
          by_cases hxy : x = y
          · have hxy' : (x == y) = true := by simpa using hxy
            have Hv2 := Lib.hid (show apartTo (dsr zs) (dsr zs).length = false by
              rw [← Bool.not_eq_true]
              intro h
              have := apartTo_le h (show p + 1 + 1 ≤ (dsr zs).length by have := HN2.out; omega)
              rw [apartTo, HxD.out, show p + 1 - 1 = p by omega, HyD.out] at this
              simp [hxy] at this)
            clear hxy
            go_wp2_with fail
            go_quiet (fail)
            go_wp2_with fail
            go_ret
            rw [Hv.out, Hv2.out]
            exact ⟨rfl, hb.trans ((hqw.drewN _).bel _)⟩
          · have hxy' : (x == y) = false := by simpa using hxy
            have Hp := Lib.hid (show apartTo (dsr zs) (p + 1 + 1) = true by
              rw [apartTo, Hap.out, HxD.out, show p + 1 - 1 = p by omega, HyD.out]
              simp [hxy])
            clear hxy
            go_wp2_with fail
            go_quiet (fail)
            go_wp2_with fail
            go_roundw
            case rel => exact ⟨p + 1 + 1, by omega, fun h => by omega, fun _ => by go_num, Hp.out, hqw.drewN _⟩
            case measure => simp [intOf]; omega
        · have hkn' : ¬ (p : Int) + 1 < (n2 : Int) := by omega
          have Hv2 := Lib.hid (show apartTo (dsr zs) (dsr zs).length = true by rw [HN2.out, show n2 = p + 1 by omega]; exact Hap.out)
          go_wp2_with fail
          go_ret
          rw [Hv.out, Hv2.out]
          exact ⟨rfl, hb.trans (hqw.bel _)⟩
set_option maxHeartbeats 800000 in
theorem IsRuler_any (A : Option Addr) (n c : Nat) (zs : List Int) (w : World) (hr : Rd w w.heap.size A n c (zs.map I)) :
    Calls Try.prog 35 #[.slice A n c] w (RetVal w (.bool (RU zs))) := by
  cases hv : vp zs with
  | false =>
    have Hv := Lib.hid (show RU zs = false by unfold RU; rw [hv]; rfl)
    have HV := Lib.hid hv
    clear hv
    go_enter Try.func35, Try.ntmps35
    go_wp2_with fail
    refine (ValidPoints_any A n c zs w _ hr).mono ?_
    rintro e w1 ⟨rfl, rfl⟩
    rw [HV.out]
    go_wp2_with fail
    go_ret
    rw [Hv.out]
    exact ⟨rfl, Below.refl _ _⟩
  | true =>
    have hs := vp_small hv
    have hl := vp_len hv
    have hd := dsr_len zs hv
    have hn3 : n ≤ 1000 := by have := hr.ilen; omega
    have Hv := Lib.hid (show RU zs = decide ((Lib.compact (dsr zs)).length = (dsr zs).length) by unfold RU; rw [hv, compact_len_eq]; rfl)
    have HV := Lib.hid hv
    clear hv
    go_enter Try.func35, Try.ntmps35
    go_wp2_with fail
    refine (ValidPoints_any A n c zs w _ hr).mono ?_
    rintro e w1 ⟨rfl, rfl⟩
    rw [HV.out]
    go_wp2_with fail
    refine (measureP_any A n c zs w1 hr hn3 hs).mono ?_
    rintro e w2 ⟨A2, n2, c2, rfl, ho, hb⟩
    have hrd := ho.rd
    have HN2 := Lib.hid hrd.ilen
    have hn2 : n2 ≤ 36 := by have := HN2.out; omega
    clear ho
    go_wp2_with fail
    refine (CloneI_any A2 n2 c2 (dsr zs) w2 _ hrd (by omega)).mono ?_
    rintro e w3 ⟨A3, c3, rfl, hrow3, hb3⟩
    go_wp2_with fail
    refine (CompactI_any _ A3 n2 c3 (dsr zs) w3 hrow3 (by omega)).mono ?_
    rintro e w4 ⟨rfl, hrow4, hg4⟩
    obtain ⟨m, hm⟩ : ∃ m, m = (Lib.compact (dsr zs)).length := ⟨_, rfl⟩
    have Hm := Lib.hid hm
    rw [← hm] at hrow4 ⊢
    clear hm
    have hb4 : Below w1.heap.size w1 w4 := (hb.trans (hb3.mono hb.size)).grown hg4 (by have := hb.size; have := hb3.size; omega) (fun k hk => by have := row_ge hrow3 k hk; have := hb.size; omega)
    go_wp2_with fail
    go_ret
    rw [Hv.out, ← Hm.out, HN2.out]
    exact ⟨ret_bool (by rw [Bool.eq_iff_iff]; simp; omega), hb4⟩
set_option maxRecDepth 8000 in
set_option maxHeartbeats 3200000 in
theorem walkExactIsRuler (A : Option Addr) (n c : Nat) (zs : List Int) (w : World) (hr : Rd w w.heap.size A n c (zs.map I)) :
    Calls Try.prog 7 #[.slice A n c] w (RetVal w (.bool true)) := by
  by_cases hbig : 1048576 < n
  · go_enter Try.func7, Try.ntmps7
    go_wp2_with fail
    go_ret
    exact ⟨rfl, Below.refl _ _⟩
  · have hn : n ≤ 1048576 := by omega
    have hRR : ((RU zs) != (RU zs)) = false := by simp
    go_enter Try.func7, Try.ntmps7
    go_wp2_with fail
    refine (toIntS_any A n c zs w hr hn).mono ?_
    rintro e w1 ⟨A1, n1, c1, rfl, ho1, hb1⟩
    go_wp2_with fail
    refine (specIsRuler_any A1 n1 c1 zs w1 ho1.rd).mono ?_
    rintro e w2 ⟨rfl, hb2⟩
    have B2 : Below w.heap.size w w2 := hb1.trans (hb2.mono hb1.size)
    have s2 := B2.size
    clear ho1 hb1 hb2
    go_wp2_with fail
    refine (toIntS_any A n c zs w2 ((hr.below B2).more s2) hn).mono ?_
    rintro e w3 ⟨A3, n3, c3, rfl, ho3, hb3⟩
    have B3 := B2.trans (hb3.mono s2)
    have s3 := hb3.size
    have o3 := ho3.win
    go_wp2_with fail
    refine (IsRuler_any A3 n3 c3 zs w3 ho3.rd).mono ?_
    rintro e w4 ⟨rfl, hb4⟩
    have B4 := B3.trans (hb4.mono (by omega))
    have s4 := hb4.size
    have o3 := o3.below hb4 (Nat.le_refl _)
    clear ho3 B2 B3 hb3 hb4
    go_wp2_with fail
    refine (toIntS_any A n c zs w4 ((hr.below B4).more (by omega)) hn).mono ?_
    rintro e w6 ⟨A6, n6, c6, rfl, ho6, hb6⟩
    have s6 := hb6.size
    have B6 := B4.trans (hb6.mono (by omega))
    have o3 := o3.below hb6 (by omega)
    go_wp2_with fail
    refine (eqIntS_same A3 n3 c3 zs A6 n6 c6 w6 _ _ o3.rd ho6.rd).mono ?_
    rintro e w7 ⟨rfl, hq7⟩
    have B7 := B6.trans (hq7.bel _)
    go_wp2_with fail
    go_ret
    exact ⟨rfl, B7⟩
end Go.Proofs.Ytopmifidhabobaa
