/-
  Cuts: the program's bothOk.
-/
import Derived.Test.YtopmifidhabobaaCut4
import Derived.Deep.RegionWith
namespace Go.Proofs.Ytopmifidhabobaa
open Go.RowKit
set_option linter.unusedVariables false
set_option linter.unusedSimpArgs false

theorem row_at {w : World} {B g c n k : Nat} {t : TypeId} {zs : List Int} {v : Int} (h : Row w B t (some ⟨g, 0, none⟩) n c (zs.map I)) (hk : zs[k]? = some v) : w.cell? ⟨g, k, none⟩ = some (.int .i64 v) ∧ g < w.heap.size := by
  have hl : k < n := by
    have h1 := (List.getElem?_eq_some_iff.1 hk).1
    have h2 := h.len
    rw [List.length_map] at h2
    omega
  obtain ⟨b, o, x, e, hb, hx, hc⟩ := h.rd.int hl
  injection e with e
  injection e with e1 e2
  subst e1 e2
  rw [hk] at hx
  injection hx with hx
  subst hx
  rw [Nat.zero_add] at hc
  exact ⟨hc, hb⟩
theorem enF_last (zs : List Int) : (enF zs)[zs.length]? = some zs.sum := by
  unfold enF upto
  simp
set_option maxRecDepth 8000 in
set_option maxHeartbeats 800000 in
theorem bothOk_any (A : Option Addr) (n c : Nat) (us : List Int) (A2 : Option Addr) (n2 c2 : Nat) (bs : List Int) (w : World) (hr : Rd w w.heap.size A n c (us.map I)) (hr2 : Rd w w.heap.size A2 n2 c2 (bs.map I)) :
    Calls Try.prog 75 #[.slice A n c, .slice A2 n2 c2] w (RetVal w (.bool (okP us bs))) := by
  cases ha : pk us with
  | false =>
    have Hv := Lib.hid (show okP us bs = false by unfold okP; rw [ha]; rfl)
    have Ha := Lib.hid ha
    have h1 := fun w' hr => piecesOk_any A n c us w' w.heap.size hr
    rw [ha] at h1
    clear ha
    go_enter Try.func75, Try.ntmps75
    go_wp2_with fail
    go_quiet ((go_at_call 98; exact Calls.quiet_of_same (h1 _ hr)))
    go_wp2_with fail
    go_ret
    exact ⟨ret_bool Hv.out.symm, bel_drewN (Below.refl _ _) _⟩
  | true =>
  cases hb : pk bs with
  | false =>
    have Hv := Lib.hid (show okP us bs = false by unfold okP; rw [ha, hb]; rfl)
    have h1 := fun m => piecesOk_any A n c us (w.drewN m) w.heap.size (hr.drewN m)
    have h2 := fun m => piecesOk_any A2 n2 c2 bs (w.drewN m) w.heap.size (hr2.drewN m)
    rw [ha] at h1
    rw [hb] at h2
    clear ha hb
    go_enter Try.func75, Try.ntmps75
    go_wp2_with fail
    go_quiet ((go_at_call 98; (first | with_reducible exact Calls.quiet_of_same (h1 _) | with_reducible exact Calls.quiet_of_same (h2 _))))
    go_wp2_with fail
    go_ret
    exact ⟨ret_bool Hv.out.symm, bel_drewN (Below.refl _ _) _⟩
  | true =>
    have Hv := Lib.hid (show okP us bs = (us.sum == bs.sum) by unfold okP; rw [ha, hb, Bool.true_and, Bool.true_and]; rfl)
    obtain ⟨a5, a1, _⟩ := pk_bounds ha
    obtain ⟨b5, b1, _⟩ := pk_bounds hb
    have hn := hr.ilen
    have hn2 := hr2.ilen
    have sa : S100 us := fun x hx => by have := (pk_iff.1 ha).2 x hx; omega
    have sb : S100 bs := fun x hx => by have := (pk_iff.1 hb).2 x hx; omega
    have hE1 := endsOf_any A n c us w.drew hr sa (by omega)
    have hP1 := piecesOk_any A n c us w.drew w.heap.size hr
    have hP2 := piecesOk_any A2 n2 c2 bs w.drew w.heap.size hr2
    rw [ha] at hP1
    rw [hb] at hP2
    have hE2 := fun w' hr => endsOf_any A2 n2 c2 bs w' hr sb (by omega)
    have el1 := enF_last us
    have el2 := enF_last bs
    rw [hn] at el1
    rw [hn2] at el2
    obtain ⟨x, hx⟩ : ∃ x, x = us.sum := ⟨_, rfl⟩
    obtain ⟨y, hy⟩ : ∃ y, y = bs.sum := ⟨_, rfl⟩
    rw [← hx] at el1 Hv
    rw [← hy] at el2 Hv
    have El1 := Lib.hid el1
    have El2 := Lib.hid el2
    have i1 : (n : Int) < ((n + 1 : Nat) : Int) := by omega
    have i2 : (n2 : Int) < ((n2 + 1 : Nat) : Int) := by omega
    have i3 : (n : Int) < (n : Int) + 1 := by omega
    have i4 : (n2 : Int) < (n2 : Int) + 1 := by omega
    have j1 : (0 : Int) ≤ (n : Int) := by omega
    have j2 : (0 : Int) ≤ (n2 : Int) := by omega
    have hrd : Rd w.drew w.heap.size A n c (us.map I) := hr
    have hrd2 : Rd w.drew w.heap.size A2 n2 c2 (bs.map I) := hr2
    clear ha hb hx hy a1 b1 sa sb hn hn2 el1 el2 a5 b5
    go_enter Try.func75, Try.ntmps75
    go_wp2_with fail
    go_region_with
      (first
      | (go_at_call 98; (first | with_reducible refine hP1.mono ?_ | with_reducible refine hP2.mono ?_); rintro e w' ⟨rfl, rfl⟩)
      | (go_at_call 99
         have hq := hE2 _ ((hrd2.below hb1).more hb1.size)
         with_reducible refine hq.mono ?_
         clear hq
         rintro e w2 ⟨g2, k2, rfl, hrow2, hb2⟩
         obtain ⟨d3, d4⟩ := row_at hrow2 El2.out
         have d5 := (hb2.cell (p := ⟨g1, n, none⟩) d2).trans d1)
      | (go_at_call 99
         with_reducible refine hE1.mono ?_
         rintro e w1 ⟨g1, k1, rfl, hrow1, hb1⟩
         obtain ⟨d1, d2⟩ := row_at hrow1 El1.out))
    all_goals
      go_wp2_with fail
      go_ret
      have B1 : Below w.heap.size w w1 := ⟨hb1.os, hb1.tape, hb1.output, hb1.size, hb1.block⟩
      exact ⟨ret_bool Hv.out.symm, B1.trans (hb2.mono B1.size)⟩
end Go.Proofs.Ytopmifidhabobaa
