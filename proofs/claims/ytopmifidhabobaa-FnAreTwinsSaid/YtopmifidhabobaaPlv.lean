/-
  Points with distances: what is asked of a list; lists compared.
-/
import Derived.Test.YtopmifidhabobaaPlw
namespace Go.Proofs.Ytopmifidhabobaa
open Go.RowKit Go.Sort
set_option linter.unusedVariables false
set_option linter.unusedSimpArgs false

theorem adj_iff (zs : List Int) : (∀ i, i + 1 < zs.length → zs.getD i 0 ≤ zs.getD (i + 1) 0) ↔ zs.Pairwise (fun a b => a ≤ b) := by
  induction zs with
  | nil => simp
  | cons a zs ih =>
    rw [List.pairwise_cons]
    constructor
    · intro h
      have h2 := ih.1 (fun i hi => by have := h (i + 1) (by simp; omega); simpa using this)
      refine ⟨fun b hb => ?_, h2⟩
      cases zs with
      | nil => cases hb
      | cons c zs =>
        have h0 := h 0 (by simp)
        simp at h0
        rw [List.mem_cons] at hb
        rcases hb with rfl | hb
        · exact h0
        · have := (List.pairwise_cons.1 h2).1 b hb
          omega
    · rintro ⟨h1, h2⟩ i hi
      cases i with
      | zero =>
        cases zs with
        | nil => simp at hi
        | cons c zs => simpa using h1 c (by simp)
      | succ i => have := ih.2 h2 i (by simp at hi; omega); simpa using this
def asc (zs : List Int) : Bool := decide (zs.Pairwise (fun a b => a ≤ b))
theorem asc_yes {zs : List Int} (h : ∀ i, i + 1 < zs.length → zs.getD i 0 ≤ zs.getD (i + 1) 0) : asc zs = true := decide_eq_true ((adj_iff zs).1 h)
theorem asc_no {zs : List Int} {i : Nat} {x y : Int} (hx : zs[i]? = some x) (hy : zs[i + 1]? = some y) (h : y < x) : asc zs = false := by
  refine decide_eq_false fun hp => ?_
  have h1 := (adj_iff zs).2 hp i (List.getElem?_eq_some_iff.1 hy).1
  rw [getD_at hx, getD_at hy] at h1
  omega
set_option maxRecDepth 8000 in
set_option maxHeartbeats 800000 in
theorem IsSorted_any (A : Option Addr) (n c : Nat) (zs : List Int) (w : World) (B : Nat) (hr : Rd w B A n c (zs.map I)) :
    Calls Try.prog 50 #[.slice A n c] w fun e w' => e = .returned (.bool (asc zs)) ∧ Quiet w w' := by
  have hm := hr.2.2.1
  have hnc := hr.2.1
  have Hn := Lib.hid hr.ilen
  unfold maxLen at hm
  rcases Nat.eq_zero_or_pos n with h0 | h0
  · subst h0
    have Hv := Lib.hid (show asc zs = true from asc_yes (fun i hi => by have := Hn.out; omega))
    have e0 : IntKind.i64.wrap ((0 : Int) - 1) = -1 := by decide
    go_enter Try.func50, Try.ntmps50
    go_wp2_with fail
    go_loopw [3] (fun i wr => i = .int .i64 (-1) ∧ wr = w) (fun i _ => 0)
    case atStart => exact ⟨rfl, rfl⟩
    case round =>
      obtain ⟨rfl, rfl⟩ := hrel
      go_wp2_with fail
      go_ret
      rw [Hv.out]
      exact ⟨rfl, Quiet.refl _⟩
  have e0 : IntKind.i64.wrap ((n : Int) - 1) = (n : Int) - 1 := by rw [IntKind.wrap_i64]; omega
  go_enter Try.func50, Try.ntmps50
  go_wp2_with fail
  go_loopw [3] (fun i wr => ∃ k : Nat, k + 1 ≤ n ∧ i = .int .i64 k ∧ (∀ j : Nat, k < j + 1 → j + 1 < n → zs.getD j 0 ≤ zs.getD (j + 1) 0) ∧ Quiet w wr) (fun i _ => (intOf i).toNat)
  case atStart => exact ⟨n - 1, by omega, by congr 1; omega, fun j h1 h2 => by omega, Quiet.refl _⟩
  case round =>
    obtain ⟨k, h2, rfl, hall, hq⟩ := hrel
    have Hall := Lib.hid hall
    clear hall
    by_cases hlt : 0 < k
    · obtain ⟨m, rfl⟩ : ∃ m : Nat, k = m + 1 := ⟨k - 1, by omega⟩
      obtain ⟨b, o, x, rfl, hb, hx, hcx⟩ := (hq.rd hr).int (show m + 1 < n by omega)
      obtain ⟨y, hy, hcy⟩ := (hq.rd hr).int_at (show m < n by omega)
      have Hx := Lib.hid hx
      have Hy := Lib.hid hy
      have b0 : (m : Int) < (n : Int) := by omega
      have b1 : (m : Int) + 1 < (n : Int) := by omega
      have b2 : (0 : Int) ≤ (m : Int) + 1 := by omega
      have b3 : (0 : Int) ≤ (m : Int) := by omega
      have e1 : IntKind.i64.wrap ((m : Int) + 1 - 1) = (m : Int) := by rw [IntKind.wrap_i64]; omega
      have e2 : ((m : Int) + 1 - 1) = (m : Int) := by omega
      have e3 : IntKind.i64.wrap (m : Int) = (m : Int) := by rw [IntKind.wrap_i64]; omega
      have hL := fun w' => Try.cmp_Less_int2 x y w'
      clear hx hy
      by_cases hxy : x < y
      · have hd : decide (x < y) = true := decide_eq_true hxy
        have Hv := Lib.hid (asc_no Hy.out Hx.out hxy)
        rw [hd] at hL
        clear hd hxy
        go_wp2_with fail
        go_quiet ((go_at_call 84; exact Calls.quiet_of_same (hL _)))
        go_wp2_with fail
        go_ret
        rw [Hv.out]
        exact ⟨rfl, hq.drewN _⟩
      · have hd : decide (x < y) = false := decide_eq_false hxy
        have Hd := Lib.hid hxy
        rw [hd] at hL
        clear hd hxy
        go_wp2_with fail
        go_quiet ((go_at_call 84; exact Calls.quiet_of_same (hL _)))
        go_wp2_with fail
        go_roundw
        case rel =>
          refine ⟨m, by omega, rfl, fun j g1 g2 => ?_, hq.drewN _⟩
          rcases (show m + 1 < j + 1 ∨ j = m by omega) with h | rfl
          · exact Hall.out j (by omega) g2
          · rw [getD_at Hx.out, getD_at Hy.out]
            have := Hd.out
            omega
        case measure => simp [intOf] <;> omega
    · have Hv := Lib.hid (show asc zs = true from asc_yes (fun i hi => Hall.out i (by omega) (by have := Hn.out; omega)))
      go_wp2_with fail
      go_ret
      rw [Hv.out]
      exact ⟨rfl, hq⟩
theorem placesTest_any (x : Int) (w : World) : Calls Try.prog 52 #[.int .i64 x] w fun e w' => e = .returned (.bool (!inR x 1 60)) ∧ w' = w := by
  go_enter Try.func52, Try.ntmps52
  go_wp2_with fail
  refine (within_any _ _ _ _).mono ?_
  rintro e w' ⟨rfl, rfl⟩
  go_wp2_with fail
  go_ret
  exact ⟨rfl, rfl⟩
/-- How lists compare. -/
def cmpL (a b : List Int) : Int := if ltL a b then -1 else if ltL b a then 1 else 0
theorem ltL_app (p a b : List Int) : ltL (p ++ a) (p ++ b) = ltL a b := by
  induction p with
  | nil => rfl
  | cons x p ih => rw [List.cons_append, List.cons_append, ltL, if_pos rfl, ih]
theorem split_at {us bs : List Int} {k : Nat} (he : us.take k = bs.take k) : us = us.take k ++ us.drop k ∧ bs = us.take k ++ bs.drop k :=
  ⟨(List.take_append_drop k us).symm, by rw [he]; exact (List.take_append_drop k bs).symm⟩
theorem ltL_diff {us bs : List Int} {k : Nat} {x y : Int} (he : us.take k = bs.take k) (hx : us[k]? = some x) (hy : bs[k]? = some y) (hne : x ≠ y) : ltL us bs = decide (x < y) ∧ ltL bs us = decide (y < x) := by
  obtain ⟨h1, h2⟩ := split_at he
  obtain ⟨a1, rfl⟩ := List.getElem?_eq_some_iff.1 hx
  obtain ⟨a2, rfl⟩ := List.getElem?_eq_some_iff.1 hy
  constructor
  · conv => lhs; rw [h1, h2]
    rw [ltL_app, List.drop_eq_getElem_cons a1, List.drop_eq_getElem_cons a2, ltL, if_neg hne]
  · conv => lhs; rw [h1, h2]
    rw [ltL_app, List.drop_eq_getElem_cons a1, List.drop_eq_getElem_cons a2, ltL, if_neg (fun e => hne e.symm)]
theorem ltL_end {us bs : List Int} {k : Nat} (he : us.take k = bs.take k) (hk : k = us.length ∨ k = bs.length) (hk1 : k ≤ us.length) (hk2 : k ≤ bs.length) : ltL us bs = decide (us.length < bs.length) ∧ ltL bs us = decide (bs.length < us.length) := by
  obtain ⟨h1, h2⟩ := split_at he
  have key : ∀ d : List Int, ltL d [] = false ∧ ltL [] d = decide (0 < d.length) := fun d => ⟨by cases d <;> rfl, by cases d <;> rfl⟩
  have l1 : (us.drop k).length = us.length - k := List.length_drop
  have l2 : (bs.drop k).length = bs.length - k := List.length_drop
  rcases hk with hk | hk
  · have hd : us.drop k = [] := List.eq_nil_of_length_eq_zero (by omega)
    constructor
    · conv => lhs; rw [h1, h2]
      rw [ltL_app, hd, (key _).2, l2]
      rw [decide_eq_decide]; omega
    · conv => lhs; rw [h1, h2]
      rw [ltL_app, hd, (key _).1]
      symm; rw [decide_eq_false_iff_not]; omega
  · have hd : bs.drop k = [] := List.eq_nil_of_length_eq_zero (by omega)
    constructor
    · conv => lhs; rw [h1, h2]
      rw [ltL_app, hd, (key _).1]
      symm; rw [decide_eq_false_iff_not]; omega
    · conv => lhs; rw [h1, h2]
      rw [ltL_app, hd, (key _).2, l1]
      rw [decide_eq_decide]; omega
theorem cmpL_diff {us bs : List Int} {k : Nat} {x y : Int} (he : us.take k = bs.take k) (hx : us[k]? = some x) (hy : bs[k]? = some y) (hne : x ≠ y) : cmpL us bs = Lib.compareInt x y := by
  obtain ⟨h1, h2⟩ := ltL_diff he hx hy hne
  unfold cmpL Lib.compareInt
  rw [h1, h2]
  simp
theorem cmpL_end {us bs : List Int} {k : Nat} (he : us.take k = bs.take k) (hk : k = us.length ∨ k = bs.length) (hk1 : k ≤ us.length) (hk2 : k ≤ bs.length) : cmpL us bs = if us.length < bs.length then -1 else if bs.length < us.length then 1 else 0 := by
  obtain ⟨h1, h2⟩ := ltL_end he hk hk1 hk2
  unfold cmpL
  rw [h1, h2]
  simp
set_option maxRecDepth 8000 in
set_option maxHeartbeats 800000 in
theorem CompareI_any (A : Option Addr) (n c : Nat) (us : List Int) (A2 : Option Addr) (n2 c2 : Nat) (bs : List Int) (w : World) (B B2 : Nat) (hr : Rd w B A n c (us.map I)) (hr2 : Rd w B2 A2 n2 c2 (bs.map I)) :
    Calls Try.prog 56 #[.slice A n c, .slice A2 n2 c2] w fun e w' => e = .returned (.int .i64 (cmpL us bs)) ∧ w' = w := by
  have hm := hr.2.2.1
  have hnc := hr.2.1
  have hm2 := hr2.2.2.1
  have hnc2 := hr2.2.1
  have Hn := Lib.hid hr.ilen
  have Hn2 := Lib.hid hr2.ilen
  unfold maxLen at hm hm2
  go_enter Try.func56, Try.ntmps56
  go_wp2_with fail
  go_loopw [11] (fun i wr => ∃ k : Nat, k ≤ n ∧ k ≤ n2 ∧ i = .int .i64 k ∧ us.take k = bs.take k ∧ wr = w) (fun i _ => n - (intOf i).toNat)
  case atStart => exact ⟨0, Nat.zero_le _, Nat.zero_le _, rfl, rfl, rfl⟩
  case round =>
    obtain ⟨k, hk, hk2, rfl, he, rfl⟩ := hrel
    have He := Lib.hid he
    clear he
    by_cases hlt : k < n
    · obtain ⟨b, o, x, rfl, hb, hx, hcx⟩ := hr.int hlt
      have Hx := Lib.hid hx
      have k0 : (0 : Int) ≤ (k : Int) := by omega
      have k1 : (k : Int) < (n : Int) := by omega
      clear hx
      by_cases hlt2 : k < n2
      · obtain ⟨b2, o2, y, rfl, hb2, hy, hcy⟩ := hr2.int hlt2
        have Hy := Lib.hid hy
        have k2 : (k : Int) < (n2 : Int) := by omega
        have e5 : IntKind.i64.wrap ((k : Int) + 1) = (k : Int) + 1 := by rw [IntKind.wrap_i64]; omega
        clear hy
        obtain ⟨r, hr0⟩ : ∃ r, r = Lib.compareInt x y := ⟨_, rfl⟩
        have hC := fun w' => Try.cmp_Compare_int x y w'
        rw [← hr0] at hC
        by_cases hxy : x = y
        · have hz : r = 0 := by rw [hr0, hxy]; unfold Lib.compareInt; simp
          have Hxy := Lib.hid hxy
          subst hz
          clear hr0 hxy
          go_wp2_with fail
          refine (hC _).mono ?_
          rintro e w2 ⟨rfl, rfl⟩
          go_wp2_with fail
          go_roundw
          case rel => exact ⟨k + 1, by omega, by omega, by go_num, take_eq_succI Hx.out (by rw [Hxy.out]; exact Hy.out) He.out, trivial⟩
          case measure => simp [intOf]; omega
        · have hz : ¬ r = 0 := by
            rw [hr0]
            unfold Lib.compareInt
            split
            · omega
            · split
              · omega
              · omega
          have hz2 : (r != 0) = true := by simpa using hz
          have Hv := Lib.hid (show cmpL us bs = r by rw [hr0]; exact cmpL_diff He.out Hx.out Hy.out hxy)
          clear hr0 hxy
          go_wp2_with fail
          refine (hC _).mono ?_
          rintro e w2 ⟨rfl, rfl⟩
          go_wp2_with fail
          go_ret
          rw [Hv.out]
          exact ⟨rfl, rfl⟩
      · have k2 : (n2 : Int) ≤ (k : Int) := by omega
        have Hv := Lib.hid (show cmpL us bs = 1 by
          rw [cmpL_end He.out (.inr (by have := Hn2.out; omega)) (by have := Hn.out; omega) (by have := Hn2.out; omega), Hn.out, Hn2.out, if_neg (by omega), if_pos (by omega)])
        go_wp2_with fail
        go_ret
        rw [Hv.out]
        exact ⟨rfl, rfl⟩
    · obtain rfl : k = n := by omega
      have hlt' : ¬ (k : Int) < (k : Int) := by omega
      by_cases hlt2 : k < n2
      · have k2 : (k : Int) < (n2 : Int) := by omega
        have Hv := Lib.hid (show cmpL us bs = -1 by
          rw [cmpL_end He.out (.inl Hn.out.symm) (by have := Hn.out; omega) (by have := Hn2.out; omega), Hn.out, Hn2.out, if_pos (by omega)])
        go_wp2_with fail
        go_ret
        rw [Hv.out]
        exact ⟨rfl, rfl⟩
      · have k2 : ¬ (k : Int) < (n2 : Int) := by omega
        have Hv := Lib.hid (show cmpL us bs = 0 by
          rw [cmpL_end He.out (.inl Hn.out.symm) (by have := Hn.out; omega) (by have := Hn2.out; omega), Hn.out, Hn2.out, if_neg (by omega), if_neg (by omega)])
        go_wp2_with fail
        go_ret
        rw [Hv.out]
        exact ⟨rfl, rfl⟩
theorem ClipSS_any (A : Option Addr) (n c : Nat) (hnc : n ≤ c) (w : World) :
    Calls Try.prog 57 #[.slice A n c] w fun e w' => e = .returned (.slice A n n) ∧ w = w' := by
  go_enter Try.func57, Try.ntmps57
  go_wp2
  go_ret
  exact ⟨rfl, rfl⟩
set_option maxRecDepth 8000 in
set_option maxHeartbeats 800000 in
theorem lessInts_any (A : Option Addr) (n c : Nat) (us : List Int) (A2 : Option Addr) (n2 c2 : Nat) (bs : List Int) (w : World) (B B2 : Nat) (hr : Rd w B A n c (us.map I)) (hr2 : Rd w B2 A2 n2 c2 (bs.map I)) :
    Calls Try.prog 82 #[.slice A n c, .slice A2 n2 c2] w fun e w' => e = .returned (.bool (ltL us bs)) ∧ Quiet w w' := by
  have hm := hr.2.2.1
  have hnc := hr.2.1
  have hm2 := hr2.2.2.1
  have hnc2 := hr2.2.1
  have Hn := Lib.hid hr.ilen
  have Hn2 := Lib.hid hr2.ilen
  unfold maxLen at hm hm2
  go_enter Try.func82, Try.ntmps82
  go_wp2_with fail
  go_loopw [5] (fun i wr => ∃ k : Nat, k ≤ n ∧ k ≤ n2 ∧ i = .int .i64 k ∧ us.take k = bs.take k ∧ Quiet w wr) (fun i _ => n - (intOf i).toNat)
  case atStart => exact ⟨0, Nat.zero_le _, Nat.zero_le _, rfl, rfl, Quiet.refl _⟩
  case round =>
    obtain ⟨k, hk, hk2, rfl, he, hq⟩ := hrel
    have He := Lib.hid he
    clear he
    by_cases hlt : k < n ∧ k < n2
    · obtain ⟨l1, l2⟩ := hlt
      obtain ⟨b, o, x, rfl, hb, hx, hcx⟩ := (hq.rd hr).int l1
      obtain ⟨b2, o2, y, rfl, hb2, hy, hcy⟩ := (hq.rd hr2).int l2
      have Hx := Lib.hid hx
      have Hy := Lib.hid hy
      have k0 : (0 : Int) ≤ (k : Int) := by omega
      have k1 : (k : Int) < (n : Int) := by omega
      have k2 : (k : Int) < (n2 : Int) := by omega
      have e5 : IntKind.i64.wrap ((k : Int) + 1) = (k : Int) + 1 := by rw [IntKind.wrap_i64]; omega
      clear hx hy
      by_cases hxy : x = y
      · have Hxy := Lib.hid hxy
        have hne : (x != y) = false := by simp [hxy]
        clear hxy
        go_wp2_with fail
        go_quiet (fail)
        go_wp2_with fail
        go_roundw
        case rel => exact ⟨k + 1, by omega, by omega, by go_num, take_eq_succI Hx.out (by rw [Hxy.out]; exact Hy.out) He.out, hq.drewN _⟩
        case measure => simp [intOf]; omega
      · have hne : (x != y) = true := by simpa using hxy
        have Hv := Lib.hid (show ltL us bs = decide (x < y) from (ltL_diff He.out Hx.out Hy.out hxy).1)
        have hcx2 := fun m => (hq.rd hr).drewN m
        clear hxy
        go_wp2_with fail
        go_quiet (fail)
        obtain ⟨w2, hw2⟩ : ∃ w2, w2 = wr.drewN nq := ⟨_, rfl⟩
        have hq2 : Quiet w w2 := by rw [hw2]; exact hq.drewN nq
        have hcx3 : w2.cell? ⟨b, o + k, none⟩ = some (.int .i64 x) := by rw [hw2]; exact hcx
        have hcy3 : w2.cell? ⟨b2, o2 + k, none⟩ = some (.int .i64 y) := by rw [hw2]; exact hcy
        rw [← hw2]
        clear hw2 hcx hcy hcx2
        go_wp2_with fail
        go_quiet (fail)
        go_wp2_with fail
        go_ret
        rw [Hv.out]
        exact ⟨rfl, hq2.drewN _⟩
    · have Hv := Lib.hid (show ltL us bs = decide (n < n2) by
        rw [(ltL_end He.out (by have := Hn.out; have := Hn2.out; omega) (by have := Hn.out; omega) (by have := Hn2.out; omega)).1, Hn.out, Hn2.out])
      have hend : ∀ K : Prop, (¬ (k : Int) < (n : Int) → K) → ((k : Int) < (n : Int) → ¬ (k : Int) < (n2 : Int) → K) → K := fun K k1 k2 => by
        by_cases h : k < n
        · exact k2 (by omega) (by omega)
        · exact k1 (by omega)
      refine hend _ (fun g1 => ?_) (fun g1 g2 => ?_)
      all_goals
        go_wp2_with fail
        go_ret
        rw [Hv.out]
        exact ⟨rfl, hq⟩
end Go.Proofs.Ytopmifidhabobaa
