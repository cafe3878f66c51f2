/-
  Cuts: the program's cutBoth and CutBoth.
-/
import Derived.Test.YtopmifidhabobaaCut7
namespace Go.Proofs.Ytopmifidhabobaa
open Go.RowKit
set_option linter.unusedVariables false
set_option linter.unusedSimpArgs false

set_option maxHeartbeats 1600000 in
theorem implCutBoth_any (A : Option Addr) (n c : Nat) (us : List Int) (A2 : Option Addr) (n2 c2 : Nat) (bs : List Int) (w : World) (hr : Rd w w.heap.size A n c (us.map I)) (hr2 : Rd w w.heap.size A2 n2 c2 (bs.map I)) (hok : okP us bs = true) :
    Calls Try.prog 76 #[.slice A n c, .slice A2 n2 c2] w (RetRow w 3 ((CB us bs).map I)) := by
  obtain ⟨ha, hb, hs⟩ := okP_iff.1 hok
  obtain ⟨a5, a1, _⟩ := pk_bounds ha
  obtain ⟨b5, b1, _⟩ := pk_bounds hb
  have hn := hr.ilen
  have hn2 := hr2.ilen
  have sa : S100 us := fun x hx => by have := (pk_iff.1 ha).2 x hx; omega
  have sb : S100 bs := fun x hx => by have := (pk_iff.1 hb).2 x hx; omega
  have hlen := mks_len hok
  have Hlen := Lib.hid (show 1 ≤ (mks us bs).length ∧ (mks us bs).length ≤ 1000 by omega)
  have Hbd := Lib.hid (show ∀ z ∈ mks us bs, 0 ≤ z ∧ z ≤ 100000 by
    intro z hz
    rcases mem_mks.1 hz with h | h
    · have := enF_bounds a1 h
      have := sum_le60 (fun x hx => ((pk_iff.1 ha).2 x hx).2)
      omega
    · have := enF_bounds b1 h
      have := sum_le60 (fun x hx => ((pk_iff.1 hb).2 x hx).2)
      omega)
  have hE1 := endsOf_any A n c us w hr sa (by omega)
  have hE2 := fun w' hr => endsOf_any A2 n2 c2 bs w' hr sb (by omega)
  have Hn := Lib.hid (show n ≤ 5 ∧ n2 ≤ 5 by omega)
  clear hok ha hb hs a5 a1 b5 b1 hn hn2 sa sb hlen
  go_enter Try.func76, Try.ntmps76
  go_wp2_with fail
  refine hE1.mono ?_
  rintro e w1 ⟨g1, k1, rfl, hrow1, hb1⟩
  go_wp2_with fail
  refine (hE2 w1 ((hr2.below hb1).more hb1.size)).mono ?_
  rintro e w2 ⟨g2, k2, rfl, hrow2, hb2⟩
  have hrd1 := (hrow1.rd.below hb2).more hb2.size
  have hrd2 := hrow2.rd
  have B2 := hb1.trans (hb2.mono hb1.size)
  clear hE1 hE2 hrow1 hrow2
  go_wp2_with fail
  have hc0 : (w2.alloc (.cells #[.slice (some ⟨g1, 0, none⟩) (n + 1) k1, .slice (some ⟨g2, 0, none⟩) (n2 + 1) k2] 22)).cell? ⟨w2.heap.size, 0, none⟩ = some (.slice (some ⟨g1, 0, none⟩) (n + 1) k1) := by
    rw [cell_of_row _ _ 0 #[.slice (some ⟨g1, 0, none⟩) (n + 1) k1, .slice (some ⟨g2, 0, none⟩) (n2 + 1) k2] _ (0, 0) (heap_al0 _ _)]; rfl
  have hc1 : (w2.alloc (.cells #[.slice (some ⟨g1, 0, none⟩) (n + 1) k1, .slice (some ⟨g2, 0, none⟩) (n2 + 1) k2] 22)).cell? ⟨w2.heap.size, 1, none⟩ = some (.slice (some ⟨g2, 0, none⟩) (n2 + 1) k2) := by
    rw [cell_of_row _ _ 1 #[.slice (some ⟨g1, 0, none⟩) (n + 1) k1, .slice (some ⟨g2, 0, none⟩) (n2 + 1) k2] _ (0, 0) (heap_al0 _ _)]; rfl
  have hl1 := hrd1.ilen
  have hl2 := hrd2.ilen
  have hn5 := Hn.out
  refine (Concat2_any w2.heap.size g1 (n + 1) k1 g2 (n2 + 1) k2 (enF us) (enF bs) _ hc0 hc1 (by simp) ((hrd1.alloc (Nat.le_refl _) _).more (by simp)) ((hrd2.alloc (Nat.le_refl _) _).more (by simp)) (by omega) (by omega) (by omega)).mono ?_
  rintro e w3 ⟨A3, n3, c3, rfl, hrow3, hb3⟩
  have B3 : Below w.heap.size w w3 := (B2.alloc B2.size _).trans (hb3.mono (by have := B2.size; simp; omega))
  have hn3 : n3 ≤ 1000000000 := by
    have h := hrow3.len
    rw [List.length_map, List.length_append] at h
    omega
  have hrow3' := hrow3.more (B' := w.heap.size) (by have := B2.size; simp; omega)
  clear hc0 hc1 hl1 hl2 hn5 hrd1 hrd2 hrow3
  go_wp2_with fail
  refine (SortI_any w.heap.size A3 n3 c3 (enF us ++ enF bs) w3 hrow3' hn3).mono ?_
  rintro e w4 ⟨rfl, hrow4, hg4⟩
  have B4 : Below w.heap.size w w4 := kp_grown B3 (Nat.le_refl _) hg4 (row_ge hrow3')
  go_wp2_with fail
  refine (CompactI_any w.heap.size A3 n3 c3 (srt (enF us ++ enF bs)) w4 hrow4 hn3).mono ?_
  rintro e w5 ⟨rfl, hrow5, hg5⟩
  have B5 : Below w.heap.size w w5 := kp_grown B4 (Nat.le_refl _) hg5 (row_ge hrow4)
  have hM := measureC_any A3 (mks us bs).length c3 (mks us bs) w5 hrow5.rd Hlen.out.1 Hlen.out.2 Hbd.out
  go_wp2_with fail
  refine hM.mono ?_
  rintro e w6 ⟨A6, n6, c6, rfl, ho6, hb6⟩
  go_wp2_with fail
  go_ret
  exact ⟨A6, n6, c6, rfl, ho6.more B5.size, B5.trans (hb6.mono B5.size)⟩
set_option maxHeartbeats 800000 in
theorem implCutBothTop_any (A : Option Addr) (n c : Nat) (us : List Int) (A2 : Option Addr) (n2 c2 : Nat) (bs : List Int) (w : World) (hr : Rd w w.heap.size A n c (us.map I)) (hr2 : Rd w w.heap.size A2 n2 c2 (bs.map I)) :
    Calls Try.prog 40 #[.slice A n c, .slice A2 n2 c2] w (RetRow w 3 ((CO us bs).map I)) := by
  have hB := bothOk_any A n c us A2 n2 c2 bs w hr hr2
  cases hok : okP us bs with
  | false =>
    have Hv := Lib.hid (show CO us bs = [] by unfold CO; rw [hok]; rfl)
    rw [hok] at hB
    clear hok
    go_enter Try.func40, Try.ntmps40
    go_wp2_with fail
    refine hB.mono ?_
    rintro e w1 ⟨rfl, hb1⟩
    go_wp2_with fail
    go_ret
    rw [Hv.out]
    exact ⟨none, 0, 0, rfl, ⟨rfl, Nat.le_refl _, by unfold maxLen; omega, fun h => absurd h (by omega)⟩, hb1⟩
  | true =>
    have Hv := Lib.hid (show CO us bs = CB us bs by unfold CO; rw [hok]; rfl)
    have hC := fun w' h1 h2 => implCutBoth_any A n c us A2 n2 c2 bs w' h1 h2 hok
    rw [hok] at hB
    clear hok
    go_enter Try.func40, Try.ntmps40
    go_wp2_with fail
    refine hB.mono ?_
    rintro e w1 ⟨rfl, hb1⟩
    go_wp2_with fail
    refine (hC w1 ((hr.below hb1).more hb1.size) ((hr2.below hb1).more hb1.size)).mono ?_
    rintro e w2 ⟨A3, n3, c3, rfl, ho3, hb3⟩
    go_wp2_with fail
    go_ret
    rw [Hv.out]
    exact ⟨A3, n3, c3, rfl, ho3.more hb1.size, hb1.trans (hb3.mono hb1.size)⟩
end Go.Proofs.Ytopmifidhabobaa
