/-
  slices.Grow of the nil slice, slices.Concat of two rows of numbers.
-/
import Derived.Test.YtopmifidhabobaaCut5
import Derived.Lib.AppendZerosOnto
import Derived.Lib.SliceRun
import Derived.Lib.Walk
import Derived.WalkKit
namespace Go.Proofs.Ytopmifidhabobaa
open Go.RowKit Go.Lib
set_option linter.unusedVariables false
set_option linter.unusedSimpArgs false

set_option maxHeartbeats 1600000 in
set_option maxRecDepth 8000 in
theorem Grow0_any (k : Nat) (w : World) (h0 : 0 < k) (hk : k ≤ 1000) :
    Calls Try.prog 122 #[.slice none 0 0, .int .i64 k] w fun e w' => ∃ g cap, e = .returned (.slice (some ⟨g, 0, none⟩) 0 cap) ∧ Row w' w.heap.size 3 (some ⟨g, 0, none⟩) 0 cap [] ∧ Below w.heap.size w w' := by
  obtain ⟨i0, hi, hz0, hz1, hz2⟩ := info_parts Try.infoI
  have hrz : ∀ ty, (Builtin.append_ #[22, 3] ty #[.slice none 0 0, .int .i64 (k : Int)]).run Try.prog w =
      .ok (.slice (some ⟨w.heap.size, 0, none⟩) k (grownCap w k 0 3)) (w.drew.alloc (.cells (#[] ++ Builtin.zeroCells (Value.int .i64 0).cells k ++ Builtin.zeroCells (Value.int .i64 0).cells (grownCap w k 0 3 - k)) 3)) := fun ty => by
    have h := Lib.run_append_grow_zeros (P := Try.prog) w 22 3 ty 3 i0 _ .i64 .i64 Try.underlying22 Try.underlying3 hi hz0 none 0 0 [] (run_firstCells_none w.drew i0.size 0 0 0) k h0 (by rw [hz1]; omega) (by omega) (by omega) (by rw [hz2]; omega)
      (by have := growslice_fits (old := 0) (need := k) (bytes := i0.bytes) (by omega) (by rw [hz2]; omega); simpa using this)
    simpa using h
  have hGn : k ≤ grownCap w k 0 3 := grownCap_ge w _ _ _
  have hGm := grownCap_le_maxLen w k 0 3 (by unfold maxLen; omega)
  obtain ⟨G, hG⟩ : ∃ G, G = grownCap w k 0 3 := ⟨_, rfl⟩
  rw [← hG] at hrz hGn hGm
  have hG63 : G ≤ 9223372036854775807 := by unfold maxLen at hGm; omega
  have HGm := Lib.hid hGm
  have k1 : ¬ ((k : Int) < 0) := by omega
  have k2 : (k : Int) > 0 := by omega
  clear hG hGm
  go_enter Try.func122, Try.ntmps122
  go_wp2_with (at_builtin; refine Lib.wpList_append_run _ rfl _ _ _ _ rfl _ _ rfl rfl _ _ (hrz _) ?_)
  go_ret
  refine ⟨w.heap.size, G, rfl, ?_, ?_⟩
  · refine ⟨rfl, .inr ⟨w.heap.size, G, _, rfl, Nat.le_refl _, heap_al0 _ _, Nat.zero_le _, HGm.out, ?_, by simp⟩⟩
    simp [Builtin.zeroCells, Value.cells]
    omega
  · exact ((Below.refl _ w).drew).alloc (Nat.le_refl _) _
set_option maxHeartbeats 1600000 in
set_option maxRecDepth 8000 in
theorem Concat2_any (b g1 n1 c1 g2 n2 c2 : Nat) (us bs : List Int) (w : World) (hc0 : w.cell? ⟨b, 0, none⟩ = some (.slice (some ⟨g1, 0, none⟩) n1 c1)) (hc1 : w.cell? ⟨b, 1, none⟩ = some (.slice (some ⟨g2, 0, none⟩) n2 c2)) (hb : b < w.heap.size)
    (hr1 : Rd w w.heap.size (some ⟨g1, 0, none⟩) n1 c1 (us.map I)) (hr2 : Rd w w.heap.size (some ⟨g2, 0, none⟩) n2 c2 (bs.map I)) (h1 : 0 < n1) (hn1 : n1 ≤ 400) (hn2 : n2 ≤ 400) :
    Calls Try.prog 100 #[.slice (some ⟨b, 0, none⟩) 2 2] w fun e w' => ∃ A n c, e = .returned (.slice A n c) ∧ Row w' w.heap.size 3 A n c ((us ++ bs).map I) ∧ Below w.heap.size w w' := by
  have hl1 := hr1.ilen
  have hl2 := hr2.ilen
  have hd1 := hr1.2.1
  have hd2 := hr2.2.1
  obtain ⟨i0, hi, hz0, hz1, hz2⟩ := info_parts Try.infoI
  go_enter Try.func100, Try.ntmps100
  go_wp2_with fail
  go_loopw [3, 11] (fun t i wr => ((i = .int .i64 0 ∧ t = .int .i64 0) ∨ (i = .int .i64 1 ∧ t = .int .i64 n1) ∨ (i = .int .i64 2 ∧ t = .int .i64 ((n1 : Int) + (n2 : Int)))) ∧ wr = w) (fun _ i _ => 2 - (intOf i).toNat)
  case atStart => exact ⟨.inl ⟨rfl, rfl⟩, rfl⟩
  case round =>
    obtain ⟨h3, rfl⟩ := hrel
    rcases h3 with ⟨rfl, rfl⟩ | ⟨rfl, rfl⟩ | ⟨rfl, rfl⟩
    · have e0 : ¬ ((n1 : Int) < 0) := by omega
      go_wp2_with fail
      go_roundw
      case rel => exact ⟨.inr (.inl ⟨by go_num, by go_num⟩), trivial⟩
      case measure => simp [intOf]
    · have e0 : ¬ ((n1 : Int) + (n2 : Int) < 0) := by omega
      go_wp2_with fail
      go_roundw
      case rel => exact ⟨.inr (.inr ⟨by go_num, by go_num⟩), trivial⟩
      case measure => simp [intOf]
    · have hG := Grow0_any (n1 + n2) wr (by omega) (by omega)
      rw [Int.natCast_add] at hG
      obtain ⟨wo, rfl⟩ : ∃ wo : World, wo = wr := ⟨_, rfl⟩
      go_wp2_with fail
      refine hG.mono ?_
      rintro e w2 ⟨g, cap, rfl, hrow0, hb0⟩
      go_wp2_with fail
      go_loopw [6, 27] (fun v i wz => ∃ (A : Option Addr) (n c : Nat) (xs : List Int), v = .slice A n c ∧ Row wz wo.heap.size 3 A n c (xs.map I) ∧ Below wo.heap.size wo wz ∧ ((i = .int .i64 0 ∧ xs = [] ∧ n = 0) ∨ (i = .int .i64 1 ∧ xs = us ∧ n = n1) ∨ (i = .int .i64 2 ∧ xs = us ++ bs))) (fun _ i _ => 2 - (intOf i).toNat)
      case atStart => exact ⟨_, 0, cap, [], rfl, hrow0, hb0, .inl ⟨rfl, rfl, rfl⟩⟩
      case round =>
        clear hG hrow0 hb0
        obtain ⟨A, n, c, xs, rfl, hrow, hbw, h3⟩ := hrel
        have hsz := hbw.size
        have hc0' := (hbw.cell (p := ⟨b, 0, none⟩) hb).trans hc0
        have hc1' := (hbw.cell (p := ⟨b, 1, none⟩) hb).trans hc1
        have hq1 := hr1.below hbw
        have hq2 := hr2.below hbw
        rcases h3 with ⟨rfl, rfl, rfl⟩ | ⟨rfl, rfl, rfl⟩ | ⟨rfl, rfl⟩
        · go_wp2_with (at_builtin; refine wpList_appN _ rfl _ _ 22 rfl wo.heap.size 3 i0 (.int .i64 0) 8 Try.underlying22 hi hz0 hz1 hz2 rfl _ _ _ _ rfl hrow ⟨g1, 0, none⟩ n1 c1 _ rfl hq1.len (rd_news hq1) (oneIs _) (n1) (by omega) (by omega) (by omega) hsz ?_; intro A6 c6 w6 hrow6 hgrow6 _)
          have hbw6 : Below wo.heap.size wo w6 := kp_grown hbw (Nat.le_refl _) hgrow6 (row_ge hrow)
          go_wp2_with fail
          go_roundw
          case rel => exact ⟨A6, n1, c6, us, rfl, by simpa using hrow6, hbw6, .inr (.inl ⟨by go_num, rfl, rfl⟩)⟩
          case measure => simp [intOf]
        · go_wp2_with (at_builtin; refine wpList_appN _ rfl _ _ 22 rfl wo.heap.size 3 i0 (.int .i64 0) 8 Try.underlying22 hi hz0 hz1 hz2 rfl _ _ _ _ rfl hrow ⟨g2, 0, none⟩ n2 c2 _ rfl hq2.len (rd_news hq2) (oneIs _) (n + n2) (by omega) (by omega) (by omega) hsz ?_; intro A6 c6 w6 hrow6 hgrow6 _)
          have hbw6 : Below wo.heap.size wo w6 := kp_grown hbw (Nat.le_refl _) hgrow6 (row_ge hrow)
          go_wp2_with fail
          go_roundw
          case rel => exact ⟨A6, n + n2, c6, xs ++ bs, rfl, by simpa using hrow6, hbw6, .inr (.inr ⟨by go_num, rfl⟩)⟩
          case measure => simp [intOf]
        · go_wp2_with fail
          go_ret
          exact ⟨A, n, c, rfl, hrow, hbw⟩
end Go.Proofs.Ytopmifidhabobaa
