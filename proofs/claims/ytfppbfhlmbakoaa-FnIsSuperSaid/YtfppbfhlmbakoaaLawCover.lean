/-
  The laws of covers and rings: their walks.
-/
import Derived.Test.YtfppbfhlmbakoaaSupLaw
import Derived.Test.YtfppbfhlmbakoaaGen
namespace Go.Proofs.Ytfppbfhlmbakoaa
open Go.RowKit
set_option linter.unusedVariables false
set_option linter.unusedSimpArgs false

theorem short47 {ws : List (List UInt8)} {k : Nat} (h : Short ws k) (hk : k ≤ 1000) : Len47 ws := fun x hx => by have := h x hx; omega
set_option maxRecDepth 8000 in
set_option maxHeartbeats 1600000 in
theorem walkCoverLength (A : Option Addr) (n c : Nat) (zs : List Int) (w : World) (hr : Rd w w.heap.size A n c (zs.map U8)) (hz : ∀ z ∈ zs, 0 ≤ z ∧ z ≤ 255) (hvr : Vr w) :
    Calls Try.prog 7 #[.slice A n c] w (RetVal w (.bool true)) := by
  by_cases hbig : 1048576 < n
  · go_enter Try.func7, Try.ntmps7
    go_wp2_with fail
    go_ret
    exact ⟨rfl, Below.refl _ _⟩
  · have HD := Lib.hid (DrawCoverLength_any A n c zs w hr hz)
    go_enter Try.func7, Try.ntmps7
    go_wp2_with fail
    refine HD.out.mono ?_
    rintro e w1 ⟨A1, n1, c1, ws, rfl, ho1, hsh, hn1, hb1⟩
    have hvr1 := hvr.keep hb1
    have hr1 := ho1.rd
    have hl47 := short47 hsh (by omega)
    have hC := fun W hW hV => CoverLength_any A1 n1 c1 ws W hW hl47 hV
    have hS := fun W hW => specCoverLength_any A1 n1 c1 ws W hW hl47
    have hR := fun W hW hV => RingLength_any A1 n1 c1 ws W hW hl47 hV
    have hW := fun W hW hV => ReduceWords_any A1 n1 c1 ws W hW hl47 hV
    clear ho1
    cases hv : vw ws with
    | false =>
      rw [WY_neg bhC hv] at hC hS
      clear hv
      go_wp2_with fail
      refine (hC _ hr1 hvr1).mono ?_
      rintro e w2 ⟨rfl, hb2⟩
      have B2 := hb1.trans (hb2.mono hb1.size)
      have hr2 := (hr1.below hb2).more hb2.size
      go_wp2_with fail
      refine (hS _ hr2).mono ?_
      rintro e w3 ⟨rfl, hb3⟩
      have B3 := B2.trans (hb3.mono B2.size)
      have hr3 := (hr2.below hb3).more hb3.size
      go_wp2_with fail
      refine (hS _ hr3).mono ?_
      rintro e w4 ⟨rfl, hb4⟩
      have B4 := B3.trans (hb4.mono B3.size)
      go_wp2_with fail
      go_ret
      exact ⟨rfl, B4⟩
    | true =>
      have h1 := cover_ge hv
      have h2 := cover_le_ring hv
      rw [RW_yes hv] at hW
      obtain ⟨x, hx⟩ : ∃ x, x = WY ws bhC := ⟨_, rfl⟩
      obtain ⟨y, hy⟩ : ∃ y, y = WY ws bhR := ⟨_, rfl⟩
      rw [← hx] at h1 h2 hC hS
      rw [← hy] at h2 hR
      clear hx hy hv
      have x0 : ¬ x < 0 := by omega
      have xx : (x != x) = false := by simp
      go_wp2_with fail
      refine (hC _ hr1 hvr1).mono ?_
      rintro e w2 ⟨rfl, hb2⟩
      have B2 := hb1.trans (hb2.mono hb1.size)
      have hr2 := (hr1.below hb2).more hb2.size
      have hvr2 := hvr1.keep hb2
      go_wp2_with fail
      refine (hS _ hr2).mono ?_
      rintro e w3 ⟨rfl, hb3⟩
      have B3 := B2.trans (hb3.mono B2.size)
      have hr3 := (hr2.below hb3).more hb3.size
      have hvr3 := hvr2.keep hb3
      go_wp2_with fail
      refine (hW _ hr3 hvr3).mono ?_
      rintro e w4 ⟨A4, n4, c4, rfl, ho4, hb4⟩
      have hn4 : (red ws).length = n4 := by have := ho4.1; simpa using this
      have B4 := B3.trans (hb4.mono B3.size)
      have hr4 := (hr3.below hb4).more hb4.size
      have hvr4 := hvr3.keep hb4
      have x4 : (n4 : Int) ≤ x := by omega
      clear hn4 h1
      go_wp2_with fail
      refine (hR _ hr4 hvr4).mono ?_
      rintro e w5 ⟨rfl, hb5⟩
      have B5 := B4.trans (hb5.mono B4.size)
      go_wp2_with fail
      go_ret
      exact ⟨ret_bool (by simp), B5⟩
end Go.Proofs.Ytfppbfhlmbakoaa
