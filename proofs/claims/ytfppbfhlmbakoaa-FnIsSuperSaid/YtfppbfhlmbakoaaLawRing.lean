/-
  The law of rings: its walk.
-/
import Derived.Test.YtfppbfhlmbakoaaLawCover
import Derived.Test.YtfppbfhlmbakoaaRing
namespace Go.Proofs.Ytfppbfhlmbakoaa
open Go.RowKit
set_option linter.unusedVariables false
set_option linter.unusedSimpArgs false

theorem ltr_take {ws : List (List UInt8)} {k : Nat} {x : List UInt8} (hx : ws[k]? = some x) : ltr (ws.take (k + 1)) = ltr (ws.take k) + x.length := by
  obtain ⟨h, rfl⟩ := List.getElem?_eq_some_iff.1 hx
  rw [List.take_succ_eq_append_getElem h]
  unfold ltr
  rw [List.map_append, List.sum_append]
  simp
theorem ltr_le {ws : List (List UInt8)} {L : Nat} (h : ∀ x ∈ ws, x.length ≤ L) (k : Nat) : ltr (ws.take k) ≤ L * k := by
  induction k with
  | zero => simp [ltr]
  | succ k ih =>
    cases hx : ws[k]? with
    | none =>
      have hl : ws.length ≤ k := List.getElem?_eq_none_iff.1 hx
      rw [List.take_of_length_le (by omega)] at ih ⊢
      rw [Nat.mul_succ]
      omega
    | some x =>
      rw [ltr_take hx, Nat.mul_succ]
      have := h x (List.mem_of_getElem? hx)
      omega
set_option maxHeartbeats 800000 in
theorem letters_any (A : Option Addr) (n c : Nat) (ws : List (List UInt8)) (w : World) (B : Nat) (hr : Rd w B A n c (ws.map S)) (hl : ∀ x ∈ ws, x.length ≤ 1000) (hn3 : n ≤ 1000) :
    Calls Try.prog 26 #[.slice A n c] w fun e w' => e = .returned (.int .i64 (ltr ws : Nat)) ∧ w' = w := by
  have hm := hr.2.2.1
  have hnc := hr.2.1
  have Hn := Lib.hid hr.slen
  unfold maxLen at hm
  go_enter Try.func26, Try.ntmps26
  go_wp2
  go_loopw [3, 4] (fun v i wr => ∃ k : Nat, k ≤ n ∧ i = .int .i64 k ∧ v = .int .i64 (ltr (ws.take k) : Nat) ∧ wr = w) (fun _ i _ => n - (intOf i).toNat)
  case atStart => exact ⟨0, Nat.zero_le _, rfl, rfl, rfl⟩
  case round =>
    obtain ⟨k, hk, rfl, rfl, rfl⟩ := hrel
    have h1 := ltr_le hl k
    have h2 : 1000 * k ≤ 1000000 := by omega
    obtain ⟨s, hs⟩ : ∃ s, s = ltr (ws.take k) := ⟨_, rfl⟩
    rw [← hs] at h1 ⊢
    have Hs := Lib.hid hs
    clear hs
    by_cases hlt : k < n
    · obtain ⟨b, o, y, rfl, hb, hy, hc⟩ := hr.str hlt
      have hlt' : (k : Int) < (n : Int) := by omega
      have hy6 := hl y (List.mem_of_getElem? hy)
      have Hst := Lib.hid (show ltr (ws.take (k + 1)) = s + y.length by rw [ltr_take hy, Hs.out])
      clear hy
      go_wp2_with fail
      go_roundw
      case rel => exact ⟨k + 1, by omega, by go_num, by rw [Hst.out]; go_num, trivial⟩
      case measure => simp [intOf]; omega
    · obtain rfl : k = n := by omega
      have hlt' : ¬ (k : Int) < (k : Int) := by omega
      have He := Lib.hid (show ws.take k = ws from List.take_of_length_le (by have := Hn.out; omega))
      go_wp2_with fail
      go_ret
      exact ⟨ret_int (by rw [Hs.out, He.out]), rfl⟩
set_option maxRecDepth 8000 in
set_option maxHeartbeats 1600000 in
theorem walkRingLength (A : Option Addr) (n c : Nat) (zs : List Int) (w : World) (hr : Rd w w.heap.size A n c (zs.map U8)) (hz : ∀ z ∈ zs, 0 ≤ z ∧ z ≤ 255) (hvr : Vr w) :
    Calls Try.prog 8 #[.slice A n c] w (RetVal w (.bool true)) := by
  by_cases hbig : 1048576 < n
  · go_enter Try.func8, Try.ntmps8
    go_wp2_with fail
    go_ret
    exact ⟨rfl, Below.refl _ _⟩
  · have HD := Lib.hid (DrawRingLength_any A n c zs w hr hz)
    go_enter Try.func8, Try.ntmps8
    go_wp2_with fail
    refine HD.out.mono ?_
    rintro e w1 ⟨A1, n1, c1, ws, rfl, ho1, hsh, hn1, hb1⟩
    have hvr1 := hvr.keep hb1
    have hr1 := ho1.rd
    have hl47 := short47 hsh (by omega)
    have hC := fun W hW hV => CoverLength_any A1 n1 c1 ws W hW hl47 hV
    have hS := fun W hW => specRingLength_any A1 n1 c1 ws W hW hl47
    have hR := fun W hW hV => RingLength_any A1 n1 c1 ws W hW hl47 hV
    have hL := fun W hW => letters_any A1 n1 c1 ws W W.heap.size hW (fun x hx => by have := hsh x hx; omega) (by omega)
    have hlen : ws.length = n1 := hr1.slen
    clear ho1
    cases hv : vw ws with
    | false =>
      rw [WY_neg bhR hv] at hR hS
      clear hv hlen
      go_wp2_with fail
      refine (hR _ hr1 hvr1).mono ?_
      rintro e w2 ⟨rfl, hb2⟩
      have B2 := hb1.trans (hb2.mono hb1.size)
      have hr2 := (hr1.below hb2).more hb2.size
      go_wp2_with fail
      refine (hS _ hr2).mono ?_
      rintro e w3 ⟨rfl, hb3⟩
      have B3 := B2.trans (hb3.mono B2.size)
      have hr3 := (hr2.below hb3).more hb3.size
      go_wp2_with fail
      refine (hS _ hr3).mono ?_
      rintro e w4 ⟨rfl, hb4⟩
      have B4 := B3.trans (hb4.mono B3.size)
      go_wp2_with fail
      go_ret
      exact ⟨rfl, B4⟩
    | true =>
      have h0 := cover_ge hv
      have h1 := cover_le_ring hv
      have h2 := ring_le hv
      have h3 := ring_zero hv
      have h4 : ltr ws ≤ 100000 := by have := ltr_le (fun x hx => hsh x hx) ws.length; rw [List.take_length] at this; omega
      have hnil : ws = [] ↔ n1 = 0 := by
        rw [← hlen]
        exact List.length_eq_zero_iff.symm
      rw [hnil] at h3
      obtain ⟨x, hx⟩ : ∃ x, x = WY ws bhR := ⟨_, rfl⟩
      obtain ⟨y, hy⟩ : ∃ y, y = WY ws bhC := ⟨_, rfl⟩
      obtain ⟨t, ht⟩ : ∃ t, t = ltr ws := ⟨_, rfl⟩
      rw [← hx] at h1 h2 h3 hR hS
      rw [← hy] at h0 h1 hC
      rw [← ht] at h2 h4 hL
      have x0 : ¬ x < 0 := by omega
      have x1 : y ≤ x := h1
      have xx : (x != x) = false := by simp
      have heq : ((x == 0) == ((n1 : Int) == 0)) = true := by
        by_cases hz : n1 = 0
        · rw [h3.2 hz, hz]; rfl
        · have : x ≠ 0 := fun h => hz (h3.1 h)
          have e1 : (x == 0) = false := by simpa using this
          have e2 : ((n1 : Int) == 0) = false := by simp; omega
          rw [e1, e2]; rfl
      clear hx hy hv ht h0 h3 hlen hnil
      go_wp2_with fail
      refine (hR _ hr1 hvr1).mono ?_
      rintro e w2 ⟨rfl, hb2⟩
      have B2 := hb1.trans (hb2.mono hb1.size)
      have hr2 := (hr1.below hb2).more hb2.size
      have hvr2 := hvr1.keep hb2
      go_wp2_with fail
      refine (hS _ hr2).mono ?_
      rintro e w3 ⟨rfl, hb3⟩
      have B3 := B2.trans (hb3.mono B2.size)
      have hr3 := (hr2.below hb3).more hb3.size
      have hvr3 := hvr2.keep hb3
      go_wp2_with fail
      refine (hC _ hr3 hvr3).mono ?_
      rintro e w4 ⟨rfl, hb4⟩
      have B4 := B3.trans (hb4.mono B3.size)
      have hr4 := (hr3.below hb4).more hb4.size
      go_wp2_with fail
      refine (hL _ hr4).mono ?_
      rintro e w5 ⟨rfl, rfl⟩
      go_wp2_with fail
      go_ret
      exact ⟨ret_bool (by simp), B4⟩
end Go.Proofs.Ytfppbfhlmbakoaa
