/-
  The exact law of the greedy way: its walk.
-/
import Derived.Test.YtfppbfhlmbakoaaExactS
import Derived.Test.YtfppbfhlmbakoaaGreedy2
namespace Go.Proofs.Ytfppbfhlmbakoaa
open Go.RowKit
set_option linter.unusedVariables false
set_option linter.unusedSimpArgs false

set_option maxRecDepth 8000 in
set_option maxHeartbeats 1600000 in
theorem walkExactGreedySuper (A : Option Addr) (n c : Nat) (ws : List (List UInt8)) (w : World) (hr : Rd w w.heap.size A n c (ws.map S)) (hl : ∀ x ∈ ws, x.length ≤ 9223372036854775807) (hvr : Vr w) :
    Calls Try.prog 6 #[.slice A n c] w (RetVal w (.bool true)) := by
  have hZ := szStringS_any A n c ws w _ hr hl
  go_enter Try.func6, Try.ntmps6
  go_wp2_with fail
  refine hZ.mono ?_
  rintro e w' ⟨r, rfl, hsm, rfl⟩
  clear hZ
  by_cases hr0 : r < 0
  · go_wp2_with fail
    go_ret
    exact ⟨rfl, Below.refl _ _⟩
  · obtain ⟨hn, hx⟩ := hsm (by omega)
    have hl47 : Len47 ws := fun x hxm => by have := hx x hxm; omega
    clear hsm hl
    have Hx := Lib.hid hx
    clear hx
    go_wp2_with fail
    refine (toStringS_any A n c ws w hr hn).mono ?_
    rintro e w1 ⟨A1, n1, c1, rfl, ho1, hb1⟩
    go_wp2_with fail
    refine (specGreedySuper_any A1 n1 c1 ws w1 ho1.rd hl47).mono ?_
    rintro e w2 ⟨rfl, hb2⟩
    have B2 := hb1.trans (hb2.mono hb1.size)
    clear ho1 hb1 hb2
    go_wp2_with fail
    refine (toStringS_any A n c ws w2 ((hr.below B2).more B2.size) hn).mono ?_
    rintro e w3 ⟨A3, n3, c3, rfl, ho3, hb3⟩
    have B3 := B2.trans (hb3.mono B2.size)
    go_wp2_with fail
    refine (GreedySuper_any A3 n3 c3 ws w3 ho3.rd hl47 (hvr.keep B3)).mono ?_
    rintro e w4 ⟨rfl, hb4⟩
    have B4 := B3.trans (hb4.mono B3.size)
    have h3 := ho3.rd.below' hb4 (Nat.le_refl _)
    clear ho3 B2 hb3

    have hb : ((vw ws) != (vw ws)) = false := by simp
    have hs : ((GST ws) == (GST ws)) = true := by simp
    have hs2 : ((GST ws) != (GST ws)) = false := by simp
    obtain ⟨X, hX⟩ : ∃ X, X = (GST ws) := ⟨_, rfl⟩
    obtain ⟨B, hBB⟩ : ∃ B, B = (vw ws) := ⟨_, rfl⟩
    rw [← hX] at hs hs2 ⊢
    rw [← hBB] at hb ⊢
    clear hX hBB
    go_wp2_with fail
    refine (toStringS_any A n c ws w4 ((hr.below B4).more B4.size) hn).mono ?_
    rintro e w5 ⟨A5, n5, c5, rfl, ho5, hb5⟩
    have B5 := B4.trans (hb5.mono B4.size)
    have h3' := h3.below' hb5 hb4.size
    go_wp2_with fail
    refine (eqStringS_any A3 n3 c3 ws A5 n5 c5 ws w5 _ _ h3' ho5.rd).mono ?_
    rintro e w6 ⟨rfl, hq⟩
    rw [show decide (ws = ws) = true by simp]
    go_wp2_with fail
    go_ret
    exact ⟨rfl, B5.trans ((hq.bel _).mono B5.size)⟩
end Go.Proofs.Ytfppbfhlmbakoaa
