/-
  Contracts of the laws' own small functions on lists of texts.
-/
import Derived.Test.YtfbmcfdmffpfmaaWords
namespace Go.Proofs.Ytfbmcfdmffpfmaa
open Go.RowKit
set_option linter.unusedVariables false
set_option linter.unusedSimpArgs false

theorem ne_at {α : Type} {us bs : List α} {k : Nat} {x y : α} (hx : us[k]? = some x) (hy : bs[k]? = some y) (h : x ≠ y) : us ≠ bs := by
  rintro rfl
  rw [hx] at hy
  injection hy with hy
  exact h hy
theorem take_eq_succ {α : Type} {us bs : List α} {k : Nat} {x : α} (hx : us[k]? = some x) (hy : bs[k]? = some x) (h : us.take k = bs.take k) : us.take (k + 1) = bs.take (k + 1) := by
  obtain ⟨h1, rfl⟩ := List.getElem?_eq_some_iff.1 hx
  obtain ⟨h2, h3⟩ := List.getElem?_eq_some_iff.1 hy
  rw [List.take_succ_eq_append_getElem h1, List.take_succ_eq_append_getElem h2, h, h3]
set_option maxHeartbeats 400000 in
theorem equalTexts_any (A : Option Addr) (n c : Nat) (us : List (List UInt8)) (A2 : Option Addr) (n2 c2 : Nat) (bs : List (List UInt8)) (w : World) (B : Nat) (hr : Rd w B A n c (us.map S)) (hr2 : Rd w B A2 n2 c2 (bs.map S)) :
    Calls Try.prog 30 #[.slice A n c, .slice A2 n2 c2] w fun e w' => e = .returned (.bool (decide (us = bs))) ∧ Quiet w w' := by
  have hm := hr.2.2.1
  have hnc := hr.2.1
  have hm2 := hr2.2.2.1
  have hnc2 := hr2.2.1
  have Hn := Lib.hid hr.slen
  have Hn2 := Lib.hid hr2.slen
  unfold maxLen at hm hm2
  by_cases hnn : n = n2
  · subst hnn
    go_enter Try.func30, Try.ntmps30
    go_wp2
    go_loopw [5] (fun i wr => ∃ k : Nat, k ≤ n ∧ i = .int .i64 k ∧ us.take k = bs.take k ∧ Quiet w wr) (fun i _ => n - (intOf i).toNat)
    case atStart => exact ⟨0, Nat.zero_le _, rfl, rfl, Quiet.refl _⟩
    case round =>
      obtain ⟨k, hk, rfl, he, hq⟩ := hrel
      have He := Lib.hid he
      clear he
      by_cases hlt : k < n
      · obtain ⟨b, o, x, rfl, hb, hx, hc⟩ := (hq.rd hr).str hlt
        obtain ⟨b2, o2, y, rfl, hb2, hy, hc2⟩ := (hq.rd hr2).str hlt
        have Hx := Lib.hid hx
        have Hy := Lib.hid hy
        clear hx hy
        have hlt' : (k : Int) < (n : Int) := by omega
        by_cases hxy : x = y
        · subst hxy
          go_wp2_with fail
          go_quiet (fail)
          go_wp2
          go_roundw
          case rel => exact ⟨k + 1, by omega, by go_num, take_eq_succ Hx.out Hy.out He.out, hq.drewN _⟩
          case measure => simp [intOf]; omega
        · have hxy' : (x == y) = false := by simpa using hxy
          have Hv := Lib.hid (show decide (us = bs) = false by simpa using ne_at Hx.out Hy.out hxy)
          clear hxy
          go_wp2_with fail
          go_quiet (fail)
          go_wp2
          go_ret
          exact ⟨ret_bool (Hv.out).symm, hq.drewN _⟩
      · have Hv := Lib.hid (show decide (us = bs) = true by
          have h := He.out
          have h1 := Hn.out
          have h2 := Hn2.out
          rw [List.take_of_length_le (by omega), List.take_of_length_le (by omega)] at h
          simpa using h)
        go_wp2
        go_ret
        exact ⟨ret_bool (Hv.out).symm, hq⟩
  · have Hv := Lib.hid (show decide (us = bs) = false by
      have h1 := Hn.out
      have h2 := Hn2.out
      rw [decide_eq_false_iff_not]
      rintro rfl
      omega)
    have hne : ((n : Int) != (n2 : Int)) = true := by simp; omega
    clear hnn
    go_enter Try.func30, Try.ntmps30
    go_wp2
    go_ret
    exact ⟨ret_bool (Hv.out).symm, Quiet.refl _⟩
end Go.Proofs.Ytfbmcfdmffpfmaa
