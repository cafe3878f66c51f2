/-
  The program's texts, TextsOf, IsTold, LeastTold.
-/
import Derived.Test.YtfbmcfdmffpfmaaTxtI
import Derived.Test.YtfbmcfdmffpfmaaToldS
import Derived.Test.YtfbmcfdmffpfmaaWin
import Derived.Laws.EntriesVeiled
namespace Go.Proofs.Ytfbmcfdmffpfmaa
open Go.RowKit
set_option linter.unusedVariables false
set_option linter.unusedSimpArgs false

set_option maxRecDepth 100000 in
set_option maxHeartbeats 3200000 in
theorem texts_any (A : Option Addr) (n c : Nat) (ws : List (List UInt8)) (w : World) (hr : Rd w w.heap.size A n c (ws.map S)) (hv : vwd ws = true) :
    Calls Try.prog 82 #[.slice A n c] w (RetRow w 9 ((txl ws).map S)) := by
  obtain ⟨h1, h2, h3, h4, h5⟩ := vwd_k hv
  have h6 := txs_few hv
  go_enter Try.func82, Try.ntmps82
  go_wp2_with fail
  obtain ⟨W3, hW3⟩ : ∃ W3, W3 = ((w.alloc (.cells #[] 9)).alloc (.cells #[.slice (some ⟨w.heap.size, 0, none⟩) 0 0] 24)).alloc (.cells #[fromV (w.heap.size + 1) (w.heap.size + 1 + 1)] 78) := ⟨_, rfl⟩
  have hs3 : W3.heap.size = w.heap.size + 3 := by rw [hW3]; simp
  have hb3 : Below w.heap.size w W3 := by rw [hW3]; exact kp_alloc _ (kp_alloc _ (kp_alloc _ (Below.refl _ _) (Nat.le_refl _)) (Nat.le_refl _)) (Nat.le_refl _)
  have hO : OutSt W3 (w.heap.size + 1) (w.heap.size + 1 + 1) w.heap.size (some ⟨w.heap.size, 0, none⟩) 0 0 [] := by
    rw [hW3]
    refine ⟨?_, ⟨78, by decide, ?_⟩, (((Row.nil_ w 9).alloc _).alloc _), by omega⟩
    · have h := (Boxed.new (w.alloc (.cells #[] 9)) 24 (.slice (some ⟨w.heap.size, 0, none⟩) 0 0)).alloc (.cells #[fromV (w.heap.size + 1) (w.heap.size + 1 + 1)] 78)
      rw [World.size_alloc] at h
      exact h
    · have h := Boxed.new ((w.alloc (.cells #[] 9)).alloc (.cells #[.slice (some ⟨w.heap.size, 0, none⟩) 0 0] 24)) 78 (fromV (w.heap.size + 1) (w.heap.size + 1 + 1))
      rw [World.size_alloc, World.size_alloc] at h
      exact h
  unfold fromV at hW3
  rw [← hW3]
  have hfr := hO.fr_cell
  have hbfl : w.heap.size + 1 + 1 < W3.heap.size := by omega
  have hV := fun W => callsIn_wide.1 (Values_any 0 A n c W)
  have hr3 := hr.below hb3
  have hn8 : n ≤ 8 := by have := hr.slen; omega
  have Hs3 := Lib.hid hs3
  clear hW3 hr hs3
  go_region_held3 (fun w' => w'.cell? ⟨w.heap.size + 1 + 1, 0, none⟩ = some (.func (.func 103) #[] #[.pointer (some ⟨w.heap.size + 1, 0, none⟩), .pointer (some ⟨w.heap.size + 1 + 1, 0, none⟩)]))
    (assumption)
    (first
    | (go_at_call 89
       with_reducible refine (hV _).mono ?_
       rintro e w4 ⟨rfl, hw4⟩
       have hs4 := Lib.hid (show w4.heap.size = W3.heap.size + 1 by rw [hw4]; simp)
       have hb4 : Below W3.heap.size W3 w4 := by rw [hw4]; exact (Below.refl _ W3).drew.alloc (Nat.le_refl _) _
       have hbx4 : Boxed w4 W3.heap.size 24 (.slice A n c) := by rw [hw4]; exact Boxed.new _ _ _
       have hfr4 := (hb4.cell (p := ⟨w.heap.size + 1 + 1, 0, none⟩) hbfl).trans hfr
       have hSo := Sorted_any W3.heap.size A n c ws w4 hbx4 ((hr3.below' hb4 (by have := Hs3.out; omega)).more (by have := Hs3.out; have := hs4.out; omega)) (by omega)
       clear hw4)
    | (go_at_call 64; go_loud (
       with_reducible refine hSo.mono ?_
       rintro e w5 ⟨A5, n5, c5, rfl, hrow5, hb5⟩
       have hb35 : Below W3.heap.size W3 w5 := hb4.trans (hb5.mono (by have := hs4.out; omega))
       have hfr5 := (hb35.cell (p := ⟨w.heap.size + 1 + 1, 0, none⟩) hbfl).trans hfr
       have hF := from_any (klen ws) h1 h2 (w.heap.size + 1) (w.heap.size + 1 + 1) w.heap.size ws.length h4 [] A5 n5 c5 (stT ws) (some ⟨w.heap.size, 0, none⟩) 0 0 [] w5 (hO.kept hb35) hrow5.rd hrow5.front (fun g hg e => by
         subst e
         have h1 := row_ge hrow5 g rfl
         have := Hs3.out
         have := hs4.out
         exact ⟨by omega, fun e => by have e2 : g = w.heap.size := Option.some.inj (show some g = some w.heap.size from e); omega⟩) (by have := hb5.size; have := Hs3.out; have := hs4.out; omega) (stT_len ws) h3 (fun h => absurd rfl h) (by simp; omega) (by simp; omega)))
    | (go_at_call 103
       with_reducible refine hF.mono ?_
       rintro e w6 ⟨rfl, A6, n6, c6, hO6, hT6, hown6⟩
       have hfr6 := hO6.fr_cell))
  all_goals
    clear hF hSo hV hfr hfr4 hfr5 hfr6
    have hS := Lib.hid (SortS_any w.heap.size A6 n6 c6 _ w6 hO6.row (by have := hO6.row.len; rw [List.length_map, List.nil_append] at this; omega))
    have hbx6 := hO6.box.cell
    go_wp2_with fail
    refine hS.out.mono ?_
    rintro e w7 ⟨rfl, hrow7, hg7⟩
    have hbx7 := (hO6.box.kept hg7 hO6.off_box).cell
    rw [List.nil_append] at hrow7
    have hlen7 := hrow7.len
    rw [List.length_map, stT_len] at hlen7
    have hC := Lib.hid (CompactS_any w.heap.size A6 n6 c6 _ w7 hrow7 (by omega))
    have s6 := hT6.size
    have S5 : w.heap.size + 3 ≤ w5.heap.size := by have := hb35.size; have := Hs3.out; omega
    have hb6 : Below w.heap.size w w6 := (hb3.trans (hb35.mono (by omega))).trans (hT6.below (by omega) (by omega) (fun k hk => by
      have e2 : w.heap.size = k := Option.some.inj (show some w.heap.size = some k from hk)
      omega))
    have hb7 : Below w.heap.size w w7 := kp_grown hb6 (Nat.le_refl _) hg7 (row_ge hO6.row)
    clear hO6 hS hT6 hown6 hbx6 hg7 hb5 hb35
    go_wp2_with fail
    refine hC.out.mono ?_
    rintro e w8 ⟨rfl, hrow8, hg8⟩
    have hb8 : Below w.heap.size w w8 := kp_grown hb7 (Nat.le_refl _) hg8 (row_ge hrow7)
    have hnc8 := hrow8.own.2.1
    rw [compact_dd] at hrow8 hnc8 ⊢
    clear hg8 hC hbx7 hrow7
    go_wp2_with fail
    refine (ClipS_any _ _ _ hnc8 _).mono ?_
    rintro e w9 ⟨rfl, rfl⟩
    go_wp2_with fail
    go_ret
    exact ⟨A6, _, _, rfl, hrow8.own.clip, hb8⟩
end Go.Proofs.Ytfbmcfdmffpfmaa
