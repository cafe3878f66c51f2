/-
  Contracts of the library's functions on lists of numbers, in the words of these walks: sorting, compacting, cloning, comparing, taking out.
-/
import Derived.Test.YtopmifidhabobaaExactI
import Derived.Test.YtopmifidhabobaaDst
import Derived.Sort.Row
import Derived.Test.YtopmifidhabobaaPut
namespace Go.Proofs.Ytopmifidhabobaa
open Go.RowKit Go.Sort
set_option linter.unusedVariables false
set_option linter.unusedSimpArgs false

theorem map_I (l : List Int) : l.map I = l.map (Value.int .i64) := rfl
/-- Cells at an index, as the contracts ask for them. -/
theorem Rd.getD {w : World} {B b o n c : Nat} {zs : List Int} (h : Rd w B (some ⟨b, o, none⟩) n c (zs.map I)) : ∀ j, j < zs.length → w.cell? ⟨b, o + j, none⟩ = some (.int .i64 (zs.getD j 0)) := by
  intro j hj
  have hn := h.ilen
  obtain ⟨x, hx, hc⟩ := h.int_at (k := j) (by omega)
  rw [hc, List.getD_eq_getElem?_getD, hx]
  rfl
/-- Sorting a row of the call's own. -/
theorem SortI_any (B : Nat) (A : Option Addr) (n c : Nat) (zs : List Int) (w : World) (h : Row w B 3 A n c (zs.map I)) (hn : n ≤ 1000000000) :
    Calls Try.prog 93 #[.slice A n c] w fun e w' => e = .returned (.tuple #[]) ∧ Row w' B 3 A n c ((srt zs).map I) ∧ w.grownBy w' (Value.slice A n c).ownBlock := by
  have hl := h.len
  simp at hl
  rcases Nat.eq_zero_or_pos n with h0 | h0
  · subst h0
    have hz : zs = [] := List.eq_nil_of_length_eq_zero hl
    subst hz
    refine (Try.slices_Sort_int_none A c w).mono ?_
    rintro e w' ⟨rfl, rfl⟩
    have : srt [] = [] := List.eq_nil_of_length_eq_zero (srt_len [])
    rw [this]
    exact ⟨rfl, h, ⟨rfl, rfl, rfl, Nat.le_refl _, fun _ _ _ => rfl⟩⟩
  · obtain ⟨g, cur, rfl, hB, hh, ht, hc, hm⟩ := Row.blk (g := 0) h h0
    subst hl
    refine (Try.slices_Sort_int g 0 c zs w (holds_blk _ hh ht) (Array.getElem?_eq_some_iff.1 hh).1 (by omega)).mono ?_
    rintro e w' ⟨rfl, k, os, rfl⟩
    refine ⟨rfl, ?_, grown_put _ _⟩
    have hs := srt_len zs
    have := row_put (Value.int .i64) (n := k) (os := os) h h0 (srt zs) (m := zs.length) (by omega) (by omega)
    rw [List.take_of_length_le (by omega)] at this
    exact this
theorem ClipI_any (A : Option Addr) (n c : Nat) (hnc : n ≤ c) (w : World) :
    Calls Try.prog 94 #[.slice A n c] w fun e w' => e = .returned (.slice A n n) ∧ w = w' := by
  go_enter Try.func94, Try.ntmps94
  go_wp2
  go_ret
  exact ⟨rfl, rfl⟩
theorem EqualI_any (A : Option Addr) (n c : Nat) (us : List Int) (A2 : Option Addr) (n2 c2 : Nat) (bs : List Int) (w : World) (B B2 : Nat) (hr : Rd w B A n c (us.map I)) (hr2 : Rd w B2 A2 n2 c2 (bs.map I)) :
    Calls Try.prog 59 #[.slice A n c, .slice A2 n2 c2] w fun e w' => e = .returned (.bool (decide (us = bs))) ∧ Quiet w w' := by
  have h1 := hr.ilen
  have h2 := hr2.ilen
  have hm := hr.2.2.1
  have hnc := hr.2.1
  have hm2 := hr2.2.2.1
  have hnc2 := hr2.2.1
  unfold maxLen at hm hm2
  by_cases hnn : n = n2
  · rcases Nat.eq_zero_or_pos n with h0 | h0
    · subst hnn
      subst h0
      have e1 : us = [] := List.eq_nil_of_length_eq_zero h1
      have e2 : bs = [] := List.eq_nil_of_length_eq_zero h2
      subst e1 e2
      refine (Try.slices_Equal_int_empty A A2 c 0 c2 w (by omega)).mono ?_
      rintro e w' ⟨rfl, rfl⟩
      exact ⟨by simp, Quiet.refl _⟩
    · obtain ⟨b, o, rfl, _, _⟩ := hr.2.2.2 h0
      obtain ⟨b2, o2, rfl, _, _⟩ := hr2.2.2.2 (by omega)
      refine (Try.slices_Equal_int b o n c b2 o2 n2 c2 us bs w (by omega) (by omega) (by omega) (by omega) hr.getD hr2.getD).mono ?_
      rintro e w' ⟨rfl, q, rfl⟩
      refine ⟨?_, ⟨q, rfl⟩⟩
      rw [List.take_of_length_le (by omega), List.take_of_length_le (by omega)]
      exact ret_bool (by rw [Bool.eq_iff_iff]; simp)
  · refine (Try.slices_Equal_int_lens A A2 n c n2 c2 w hnn).mono ?_
    rintro e w' ⟨rfl, rfl⟩
    refine ⟨ret_bool ?_, Quiet.refl _⟩
    symm
    rw [decide_eq_false_iff_not]
    rintro rfl
    omega
theorem CloneI_any (A : Option Addr) (n c : Nat) (zs : List Int) (w : World) (B : Nat) (hr : Rd w B A n c (zs.map I)) (hn : n ≤ 1000000000) :
    Calls Try.prog 71 #[.slice A n c] w fun e w' => ∃ A' c', e = .returned (.slice A' n c') ∧ Row w' w.heap.size 3 A' n c' (zs.map I) ∧ Below w.heap.size w w' := by
  have h1 := hr.ilen
  rcases Nat.eq_zero_or_pos n with h0 | h0
  · subst h0
    have e1 : zs = [] := List.eq_nil_of_length_eq_zero h1
    subst e1
    cases A with
    | none =>
      refine (Try.slices_Clone_int_nil 0 c w).mono ?_
      rintro e w' ⟨rfl, rfl⟩
      exact ⟨none, 0, rfl, Row.none_ _ _ _, Below.refl _ _⟩
    | some a =>
      refine (Try.slices_Clone_int_zero a c w).mono ?_
      rintro e w' ⟨v, rfl, ho, _, hb⟩
      obtain ⟨A', c', rfl⟩ : ∃ A' c', v = .slice A' 0 c' := by
        obtain ⟨_, ⟨rfl, _⟩ | ⟨g, cap, cur, rfl, _⟩⟩ := ho
        · exact ⟨_, _, rfl⟩
        · exact ⟨_, _, rfl⟩
      exact ⟨A', c', rfl, ho, hb⟩
  · obtain ⟨b, o, rfl, _, _⟩ := hr.2.2.2 h0
    refine (Try.slices_Clone_int b o n c zs w (by omega) (by omega) hr.getD).mono ?_
    rintro e w' ⟨v, rfl, ho, _, hb⟩
    rw [List.take_of_length_le (by omega)] at ho
    obtain ⟨A', c', rfl⟩ : ∃ A' c', v = .slice A' n c' := by
      obtain ⟨_, ⟨rfl, h0⟩ | ⟨g, cap, cur, rfl, _⟩⟩ := ho
      · omega
      · exact ⟨_, _, rfl⟩
    exact ⟨A', c', rfl, ho, hb⟩
theorem CompactI_any (B : Nat) (A : Option Addr) (n c : Nat) (zs : List Int) (w : World) (h : Row w B 3 A n c (zs.map I)) (hn : n ≤ 1000000000) :
    Calls Try.prog 70 #[.slice A n c] w fun e w' => e = .returned (.slice A (Lib.compact zs).length c) ∧ Row w' B 3 A (Lib.compact zs).length c ((Lib.compact zs).map I) ∧ w.grownBy w' (Value.slice A n c).ownBlock := by
  have hl := h.len
  simp at hl
  rcases Nat.eq_zero_or_pos n with h0 | h0
  · subst h0
    have hz : zs = [] := List.eq_nil_of_length_eq_zero hl
    subst hz
    refine (Try.slices_Compact_int_empty A c w).mono ?_
    rintro e w' ⟨rfl, rfl⟩
    exact ⟨rfl, h, ⟨rfl, rfl, rfl, Nat.le_refl _, fun _ _ _ => rfl⟩⟩
  · obtain ⟨g, cur, rfl, hB, hh, ht, hc, hm⟩ := Row.blk (g := 0) h h0
    subst hl
    refine (Try.slices_Compact_int g 0 c zs w (holds_blk _ hh ht) (by omega) (by omega)).mono ?_
    rintro e w' ⟨rfl, k, rfl⟩
    have hle : (Lib.compact zs).length ≤ zs.length := Lib.compact_length_le zs
    obtain ⟨ts, hts⟩ : ∃ ts, ts = Lib.compact zs ++ List.replicate (zs.length - (Lib.compact zs).length) 0 := ⟨_, rfl⟩
    have htl : ts.length = zs.length := by rw [hts, List.length_append, List.length_replicate]; omega
    rw [← hts]
    have h2 := row_put (Value.int .i64) (n := k) (os := #[]) h h0 ts (m := (Lib.compact zs).length) (by omega) (by omega)
    have h3 := grown_put (Value.int .i64) (w := w) (g := g) (n := k) (os := #[]) ts.toArray
    rw [grow_none] at h2 h3
    have e : ts.take (Lib.compact zs).length = Lib.compact zs := by rw [hts, List.take_left]
    rw [e] at h2
    exact ⟨rfl, h2, h3⟩
end Go.Proofs.Ytopmifidhabobaa
