/-
  slices.Grow of the nil slice, slices.Concat of two rows of texts.
-/
import Derived.Test.YtfbmcfdmffpfmaaXs
import Derived.Test.YtfbmcfdmffpfmaaAppN
import Derived.Lib.AppendZerosOnto
import Derived.Lib.SliceRun
import Derived.Lib.Walk
import Derived.WalkKit
namespace Go.Proofs.Ytfbmcfdmffpfmaa
open Go.RowKit Go.Lib
set_option linter.unusedVariables false
set_option linter.unusedSimpArgs false

theorem oneSt (zs : List (List UInt8)) : ∀ u ∈ zs.map S, u.oneCell' = true := by
  intro u hu
  obtain ⟨z, _, rfl⟩ := List.mem_map.1 hu
  rfl
theorem rd_newsA {w : World} {B : Nat} {A : Option Addr} {m c : Nat} {xs : List Value} (h : Rd w B A m c xs) : ∀ ad, A = some ad → ∀ j u, xs[j]? = some u → w.cell? (ad.add j) = some u := by
  rintro ad rfl j u hu
  have hj : j < m := by
    have := (List.getElem?_eq_some_iff.1 hu).1
    rw [h.1] at this
    exact this
  obtain ⟨b, o, e, hb, hc⟩ := h.2.2.2 (by omega)
  injection e with e
  subst e
  have hadd : (⟨b, o, none⟩ : Addr).add j = ⟨b, o + j, none⟩ := by unfold Addr.add; split <;> simp_all
  rw [hadd]
  exact hc j u hu
set_option maxHeartbeats 1600000 in
set_option maxRecDepth 8000 in
theorem GrowT_any (k : Nat) (w : World) (hk : k ≤ 1000) :
    Calls Try.prog 115 #[.slice none 0 0, .int .i64 k] w fun e w' => ∃ A cap, e = .returned (.slice A 0 cap) ∧ Row w' w.heap.size 9 A 0 cap [] ∧ Below w.heap.size w w' := by
  rcases Nat.eq_zero_or_pos k with h0 | h0
  · subst h0
    go_enter Try.func115, Try.ntmps115
    go_wp2_with fail
    go_ret
    exact ⟨none, 0, rfl, Row.none_ _ _ _, Below.refl _ _⟩
  obtain ⟨i0, hi, hz0, hz1, hz2⟩ := info_parts Try.infoXs
  have hrz : ∀ ty, (Builtin.append_ #[24, 3] ty #[.slice none 0 0, .int .i64 (k : Int)]).run Try.prog w =
      .ok (.slice (some ⟨w.heap.size, 0, none⟩) k (grownCap w k 0 9)) (w.drew.alloc (.cells (#[] ++ Builtin.zeroCells (Value.string ⟨#[]⟩).cells k ++ Builtin.zeroCells (Value.string ⟨#[]⟩).cells (grownCap w k 0 9 - k)) 9)) := fun ty => by
    have h := Lib.run_append_grow_zeros (P := Try.prog) w 24 3 ty 9 i0 _ .i64 .i64 Try.underlying24 Try.underlying3 hi hz0 none 0 0 [] (run_firstCells_none w.drew i0.size 0 0 0) k h0 (by rw [hz1]; omega) (by omega) (by omega) (by rw [hz2]; omega)
      (by have := growslice_fits (old := 0) (need := k) (bytes := i0.bytes) (by omega) (by rw [hz2]; omega); simpa using this)
    simpa using h
  have hGn : k ≤ grownCap w k 0 9 := grownCap_ge w _ _ _
  have hGm := grownCap_le_maxLen w k 0 9 (by unfold maxLen; omega)
  obtain ⟨G, hG⟩ : ∃ G, G = grownCap w k 0 9 := ⟨_, rfl⟩
  rw [← hG] at hrz hGn hGm
  have hG63 : G ≤ 9223372036854775807 := by unfold maxLen at hGm; omega
  have HGm := Lib.hid hGm
  have k1 : ¬ ((k : Int) < 0) := by omega
  have k2 : (k : Int) > 0 := by omega
  clear hG hGm
  go_enter Try.func115, Try.ntmps115
  go_wp2_with (at_builtin; refine Lib.wpList_append_run _ rfl _ _ _ _ rfl _ _ rfl rfl _ _ (hrz _) ?_)
  go_ret
  refine ⟨some ⟨w.heap.size, 0, none⟩, G, rfl, ?_, ?_⟩
  · refine ⟨rfl, .inr ⟨w.heap.size, G, _, rfl, Nat.le_refl _, heap_al0 _ _, Nat.zero_le _, HGm.out, ?_, by simp⟩⟩
    simp [Builtin.zeroCells, Value.cells]
    omega
  · exact ((Below.refl _ w).drew).alloc (Nat.le_refl _) _
set_option maxHeartbeats 1600000 in
set_option maxRecDepth 8000 in
theorem ConcatT_any (b : Nat) (a1 : Addr) (n1 c1 : Nat) (a2 : Addr) (n2 c2 : Nat) (us bs : List (List UInt8)) (w : World) (hc0 : w.cell? ⟨b, 0, none⟩ = some (.slice (some a1) n1 c1)) (hc1 : w.cell? ⟨b, 1, none⟩ = some (.slice (some a2) n2 c2)) (hb : b < w.heap.size)
    (hr1 : Rd w w.heap.size (some a1) n1 c1 (us.map S)) (hr2 : Rd w w.heap.size (some a2) n2 c2 (bs.map S)) (hn1 : n1 ≤ 400) (hn2 : n2 ≤ 400) :
    Calls Try.prog 105 #[.slice (some ⟨b, 0, none⟩) 2 2] w fun e w' => ∃ A c, e = .returned (.slice A (n1 + n2) c) ∧ Row w' w.heap.size 9 A (n1 + n2) c ((us ++ bs).map S) ∧ Below w.heap.size w w' := by
  have hl1 := hr1.slen
  have hl2 := hr2.slen
  have hd1 := hr1.2.1
  have hd2 := hr2.2.1
  obtain ⟨i0, hi, hz0, hz1, hz2⟩ := info_parts Try.infoXs
  go_enter Try.func105, Try.ntmps105
  go_wp2_with fail
  go_loopw [3, 11] (fun t i wr => ((i = .int .i64 0 ∧ t = .int .i64 0) ∨ (i = .int .i64 1 ∧ t = .int .i64 n1) ∨ (i = .int .i64 2 ∧ t = .int .i64 ((n1 : Int) + (n2 : Int)))) ∧ wr = w) (fun _ i _ => 2 - (intOf i).toNat)
  case atStart => exact ⟨.inl ⟨rfl, rfl⟩, rfl⟩
  case round =>
    obtain ⟨h3, rfl⟩ := hrel
    rcases h3 with ⟨rfl, rfl⟩ | ⟨rfl, rfl⟩ | ⟨rfl, rfl⟩
    · have e0 : ¬ ((n1 : Int) < 0) := by omega
      go_wp2_with fail
      go_roundw
      case rel => exact ⟨.inr (.inl ⟨by go_num, by go_num⟩), trivial⟩
      case measure => simp [intOf]
    · have e0 : ¬ ((n1 : Int) + (n2 : Int) < 0) := by omega
      go_wp2_with fail
      go_roundw
      case rel => exact ⟨.inr (.inr ⟨by go_num, by go_num⟩), trivial⟩
      case measure => simp [intOf]
    · have hG := GrowT_any (n1 + n2) wr (by omega)
      rw [Int.natCast_add] at hG
      obtain ⟨wo, rfl⟩ : ∃ wo : World, wo = wr := ⟨_, rfl⟩
      go_wp2_with fail
      refine hG.mono ?_
      rintro e w2 ⟨A0, cap, rfl, hrow0, hb0⟩
      go_wp2_with fail
      go_loopw [6, 27] (fun v i wz => ∃ (A : Option Addr) (n c : Nat) (xs : List (List UInt8)), v = .slice A n c ∧ Row wz wo.heap.size 9 A n c (xs.map S) ∧ Below wo.heap.size wo wz ∧ ((i = .int .i64 0 ∧ xs = [] ∧ n = 0) ∨ (i = .int .i64 1 ∧ xs = us ∧ n = n1) ∨ (i = .int .i64 2 ∧ xs = us ++ bs ∧ n = n1 + n2))) (fun _ i _ => 2 - (intOf i).toNat)
      case atStart => exact ⟨_, 0, cap, [], rfl, hrow0, hb0, .inl ⟨rfl, rfl, rfl⟩⟩
      case round =>
        clear hG hrow0 hb0
        obtain ⟨A, n, c, xs, rfl, hrow, hbw, h3⟩ := hrel
        have hsz := hbw.size
        have hc0' := (hbw.cell (p := ⟨b, 0, none⟩) hb).trans hc0
        have hc1' := (hbw.cell (p := ⟨b, 1, none⟩) hb).trans hc1
        have hq1 := hr1.below hbw
        have hq2 := hr2.below hbw
        rcases h3 with ⟨rfl, rfl, rfl⟩ | ⟨rfl, rfl, rfl⟩ | ⟨rfl, rfl, rfl⟩
        · go_wp2_with (at_builtin; refine wpList_appN _ rfl _ _ 24 rfl wo.heap.size 9 i0 (.string ⟨#[]⟩) 16 Try.underlying24 hi hz0 hz1 hz2 rfl _ _ _ _ rfl hrow a1 n1 c1 _ rfl hq1.len (rd_newsA hq1 _ rfl) (oneSt _) (n1) (by omega) (by omega) (by omega) hsz ?_; intro A6 c6 w6 hrow6 hgrow6 _)
          have hbw6 : Below wo.heap.size wo w6 := kp_grown hbw (Nat.le_refl _) hgrow6 (row_ge hrow)
          go_wp2_with fail
          go_roundw
          case rel => exact ⟨A6, n1, c6, us, rfl, by simpa using hrow6, hbw6, .inr (.inl ⟨by go_num, rfl, rfl⟩)⟩
          case measure => simp [intOf]
        · go_wp2_with (at_builtin; refine wpList_appN _ rfl _ _ 24 rfl wo.heap.size 9 i0 (.string ⟨#[]⟩) 16 Try.underlying24 hi hz0 hz1 hz2 rfl _ _ _ _ rfl hrow a2 n2 c2 _ rfl hq2.len (rd_newsA hq2 _ rfl) (oneSt _) (n + n2) (by omega) (by omega) (by omega) hsz ?_; intro A6 c6 w6 hrow6 hgrow6 _)
          have hbw6 : Below wo.heap.size wo w6 := kp_grown hbw (Nat.le_refl _) hgrow6 (row_ge hrow)
          go_wp2_with fail
          go_roundw
          case rel => exact ⟨A6, n + n2, c6, xs ++ bs, rfl, by simpa using hrow6, hbw6, .inr (.inr ⟨by go_num, rfl, rfl⟩)⟩
          case measure => simp [intOf]
        · go_wp2_with fail
          go_ret
          exact ⟨A, c, rfl, hrow, hbw⟩
end Go.Proofs.Ytfbmcfdmffpfmaa
