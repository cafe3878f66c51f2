/-
  The laws of shortest texts and of the greedy way: their walks.
-/
import Derived.Test.YtfppbfhlmbakoaaLawRing
import Derived.Test.YtfppbfhlmbakoaaGreedy2
import Derived.Test.YtfppbfhlmbakoaaIsSup
namespace Go.Proofs.Ytfppbfhlmbakoaa
open Go.RowKit
set_option linter.unusedVariables false
set_option linter.unusedSimpArgs false

theorem sst_no {ws : List (List UInt8)} (hv : vw ws = false) : SST ws = [] := by unfold SST; rw [hv]; rfl
theorem gst_no {ws : List (List UInt8)} (hv : vw ws = false) : GST ws = [] := by unfold GST; rw [hv]; rfl
set_option maxRecDepth 8000 in
set_option maxHeartbeats 1600000 in
theorem walkShortestSuper (A : Option Addr) (n c : Nat) (zs : List Int) (w : World) (hr : Rd w w.heap.size A n c (zs.map U8)) (hz : ∀ z ∈ zs, 0 ≤ z ∧ z ≤ 255) (hvr : Vr w) :
    Calls Try.prog 11 #[.slice A n c] w (RetVal w (.bool true)) := by
  by_cases hbig : 1048576 < n
  · go_enter Try.func11, Try.ntmps11
    go_wp2_with fail
    go_ret
    exact ⟨rfl, Below.refl _ _⟩
  · have HD := Lib.hid (DrawShortestSuper_any A n c zs w hr hz)
    go_enter Try.func11, Try.ntmps11
    go_wp2_with fail
    refine HD.out.mono ?_
    rintro e w1 ⟨A1, n1, c1, ws, rfl, ho1, hsh, hn1, hb1⟩
    have hvr1 := hvr.keep hb1
    have hr1 := ho1.rd
    have hl47 := short47 hsh (by omega)
    have hC := fun W hW hV => ShortestSuper_any A1 n1 c1 ws W hW hl47 hV
    have hS := fun W hW => specShortestSuper_any A1 n1 c1 ws W hW hl47
    have hG := fun W hW hV => GreedySuper_any A1 n1 c1 ws W hW hl47 hV
    have hR := fun W hW hV => RingLength_any A1 n1 c1 ws W hW hl47 hV
    clear ho1
    cases hv : vw ws with
    | false =>
      rw [sst_no hv, hv] at hC hS
      clear hv
      go_wp2_with fail
      refine (hC _ hr1 hvr1).mono ?_
      rintro e w2 ⟨rfl, hb2⟩
      have B2 := hb1.trans (hb2.mono hb1.size)
      have hr2 := (hr1.below hb2).more hb2.size
      go_wp2_with fail
      refine (hS _ hr2).mono ?_
      rintro e w3 ⟨rfl, hb3⟩
      have B3 := B2.trans (hb3.mono B2.size)
      go_wp2_with fail
      go_ret
      exact ⟨rfl, B3⟩
    | true =>
      have h1 := sst_le_gst hv
      have h2 := ring_le_sst hv
      have h3 := sst_len hv
      have h4 := gst_len hv
      have hI := fun W hW hV => IsSuper_any (SST ws) A1 n1 c1 ws W hW hl47 (by omega) hV
      rw [iss_fit hv (sst_fit hv)] at hI
      rw [hv] at hC hS hG
      obtain ⟨s, hs⟩ : ∃ s, s = SST ws := ⟨_, rfl⟩
      obtain ⟨g, hg⟩ : ∃ g, g = GST ws := ⟨_, rfl⟩
      obtain ⟨x, hx⟩ : ∃ x, x = WY ws bhR := ⟨_, rfl⟩
      rw [← hs] at h1 h2 h3 hC hS hI
      rw [← hg] at h1 h4 hG
      rw [← hx] at h2 hR
      have g1 : (s.length : Int) ≤ (g.length : Int) := by omega
      have g2 : (s.length : Int) ≥ x := h2
      clear hs hg hx hv
      go_wp2_with fail
      refine (hC _ hr1 hvr1).mono ?_
      rintro e w2 ⟨rfl, hb2⟩
      have B2 := hb1.trans (hb2.mono hb1.size)
      have hr2 := (hr1.below hb2).more hb2.size
      have hvr2 := hvr1.keep hb2
      go_wp2_with fail
      refine (hS _ hr2).mono ?_
      rintro e w3 ⟨rfl, hb3⟩
      have B3 := B2.trans (hb3.mono B2.size)
      have hr3 := (hr2.below hb3).more hb3.size
      have hvr3 := hvr2.keep hb3
      go_wp2_with fail
      refine (hG _ hr3 hvr3).mono ?_
      rintro e w4 ⟨rfl, hb4⟩
      have B4 := B3.trans (hb4.mono B3.size)
      have hr4 := (hr3.below hb4).more hb4.size
      have hvr4 := hvr3.keep hb4
      go_wp2_with fail
      refine (hI _ hr4 hvr4).mono ?_
      rintro e w5 ⟨rfl, hb5⟩
      have B5 := B4.trans (hb5.mono B4.size)
      have hr5 := (hr4.below hb5).more hb5.size
      have hvr5 := hvr4.keep hb5
      go_wp2_with fail
      refine (hR _ hr5 hvr5).mono ?_
      rintro e w6 ⟨rfl, hb6⟩
      have B6 := B5.trans (hb6.mono B5.size)
      go_wp2_with fail
      go_ret
      exact ⟨ret_bool (by simp), B6⟩
set_option maxRecDepth 8000 in
set_option maxHeartbeats 1600000 in
theorem walkGreedySuper (A : Option Addr) (n c : Nat) (zs : List Int) (w : World) (hr : Rd w w.heap.size A n c (zs.map U8)) (hz : ∀ z ∈ zs, 0 ≤ z ∧ z ≤ 255) (hvr : Vr w) :
    Calls Try.prog 10 #[.slice A n c] w (RetVal w (.bool true)) := by
  by_cases hbig : 1048576 < n
  · go_enter Try.func10, Try.ntmps10
    go_wp2_with fail
    go_ret
    exact ⟨rfl, Below.refl _ _⟩
  · have HD := Lib.hid (DrawGreedySuper_any A n c zs w hr hz)
    go_enter Try.func10, Try.ntmps10
    go_wp2_with fail
    refine HD.out.mono ?_
    rintro e w1 ⟨A1, n1, c1, ws, rfl, ho1, hsh, hn1, hb1⟩
    have hvr1 := hvr.keep hb1
    have hr1 := ho1.rd
    have hl47 := short47 hsh (by omega)
    have hC := fun W hW hV => ShortestSuper_any A1 n1 c1 ws W hW hl47 hV
    have hS := fun W hW => specGreedySuper_any A1 n1 c1 ws W hW hl47
    have hG := fun W hW hV => GreedySuper_any A1 n1 c1 ws W hW hl47 hV
    have hW := fun W hW hV => ReduceWords_any A1 n1 c1 ws W hW hl47 hV
    clear ho1
    cases hv : vw ws with
    | false =>
      rw [gst_no hv, hv] at hG hS
      clear hv
      go_wp2_with fail
      refine (hG _ hr1 hvr1).mono ?_
      rintro e w2 ⟨rfl, hb2⟩
      have B2 := hb1.trans (hb2.mono hb1.size)
      have hr2 := (hr1.below hb2).more hb2.size
      go_wp2_with fail
      refine (hS _ hr2).mono ?_
      rintro e w3 ⟨rfl, hb3⟩
      have B3 := B2.trans (hb3.mono B2.size)
      go_wp2_with fail
      go_ret
      exact ⟨rfl, B3⟩
    | true =>
      have h1 := gst_half hv
      have h3 := sst_len hv
      have h4 := gst_len hv
      have h5 := ltr36 hv
      have h6 : ∀ x ∈ red ws, x.length ≤ 1000 := fun x hx => by have := (wOk_len (red_ok hv x hx)).2; omega
      have h7 := red_le ws
      have h8 := vw_len hv
      have hI := fun W hW hV => IsSuper_any (GST ws) A1 n1 c1 ws W hW hl47 (by omega) hV
      rw [iss_fit hv (gst_fit hv)] at hI
      rw [RW_yes hv] at hW
      rw [hv] at hC hS hG
      obtain ⟨s, hs⟩ : ∃ s, s = SST ws := ⟨_, rfl⟩
      obtain ⟨g, hg⟩ : ∃ g, g = GST ws := ⟨_, rfl⟩
      obtain ⟨R, hR⟩ : ∃ R, R = red ws := ⟨_, rfl⟩
      rw [← hs] at h1 h3 hC
      rw [← hg] at h1 h4 hS hG hI
      rw [← hR] at h1 h5 h6 h7 hW
      have hL := fun A2 n2 c2 W hW => letters_any A2 n2 c2 R W W.heap.size hW h6
      obtain ⟨x, hx⟩ : ∃ x, x = ltr R := ⟨_, rfl⟩
      rw [← hx] at h1 h5 hL
      have w1' : IntKind.i64.wrap ((x : Int) - (g.length : Int)) = (x : Int) - (g.length : Int) := by rw [IntKind.wrap_i64]; omega
      have w2' : IntKind.i64.wrap (2 * ((x : Int) - (g.length : Int))) = 2 * ((x : Int) - (g.length : Int)) := by rw [IntKind.wrap_i64]; omega
      have w3' : IntKind.i64.wrap ((x : Int) - (s.length : Int)) = (x : Int) - (s.length : Int) := by rw [IntKind.wrap_i64]; omega
      have g2 : 2 * ((x : Int) - (g.length : Int)) ≥ (x : Int) - (s.length : Int) := h1
      have hRl := Lib.hid (show R.length ≤ 6 by omega)
      clear hs hg hx hv hR
      go_wp2_with fail
      refine (hG _ hr1 hvr1).mono ?_
      rintro e w2 ⟨rfl, hb2⟩
      have B2 := hb1.trans (hb2.mono hb1.size)
      have hr2 := (hr1.below hb2).more hb2.size
      have hvr2 := hvr1.keep hb2
      go_wp2_with fail
      refine (hS _ hr2).mono ?_
      rintro e w3 ⟨rfl, hb3⟩
      have B3 := B2.trans (hb3.mono B2.size)
      have hr3 := (hr2.below hb3).more hb3.size
      have hvr3 := hvr2.keep hb3
      go_wp2_with fail
      refine (hC _ hr3 hvr3).mono ?_
      rintro e w4 ⟨rfl, hb4⟩
      have B4 := B3.trans (hb4.mono B3.size)
      have hr4 := (hr3.below hb4).more hb4.size
      have hvr4 := hvr3.keep hb4
      go_wp2_with fail
      refine (hW _ hr4 hvr4).mono ?_
      rintro e w5 ⟨A5, n5, c5, rfl, ho5, hb5⟩
      have B5 := B4.trans (hb5.mono B4.size)
      have hr5 := (hr4.below hb5).more hb5.size
      have hvr5 := hvr4.keep hb5
      have hn5 : n5 ≤ 1000 := by have := ho5.rd.slen; have := hRl.out; omega
      go_wp2_with fail
      refine (hL A5 n5 c5 _ ho5.rd hn5).mono ?_
      rintro e w6 ⟨rfl, rfl⟩
      go_wp2_with fail
      refine (hI _ hr5 hvr5).mono ?_
      rintro e w7 ⟨rfl, hb7⟩
      have B7 := B5.trans (hb7.mono B5.size)
      go_wp2_with fail
      go_ret
      exact ⟨ret_bool (by simp), B7⟩
end Go.Proofs.Ytfppbfhlmbakoaa
