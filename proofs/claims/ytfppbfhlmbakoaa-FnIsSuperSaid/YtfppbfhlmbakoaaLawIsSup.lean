/-
  The law of IsSuper: its walk.
-/
import Derived.Test.YtfppbfhlmbakoaaMutate
namespace Go.Proofs.Ytfppbfhlmbakoaa
open Go.RowKit
set_option linter.unusedVariables false
set_option linter.unusedSimpArgs false

def DrawnIs (w : World) (e : Ending) (w' : World) : Prop :=
  ∃ (s : List UInt8) (A : Option Addr) (n c : Nat) (ws : List (List UInt8)), e = .returned (.tuple #[.string ⟨s.toArray⟩, .slice A n c]) ∧ s.length ≤ 41 ∧ Own w' w.heap.size 9 A n c (ws.map S) ∧ Short ws 100 ∧ n ≤ 7 ∧ Below w.heap.size w w'
theorem own_aside {w w' : World} {B R : Nat} {e : TypeId} {A : Option Addr} {n c : Nat} {xs : List Value} (h : Own w B e A n c xs) (hg : w.grownBy w' (some R)) (hR : R < B) : Own w' B e A n c xs :=
  ⟨h.1, h.2.1, h.2.2.1, fun hn => by
    obtain ⟨g, cur, e', hB, hh, ht⟩ := h.2.2.2 hn
    exact ⟨g, cur, e', hB, (hg.block g (h.block_lt hh) (fun e2 => by injection e2 with e2; omega)).trans hh, ht⟩⟩
theorem gst_short (ws : List (List UInt8)) : (GST ws).length ≤ 40 := by
  cases hv : vw ws with
  | true => exact gst_len hv
  | false => rw [gst_no hv]; simp
set_option maxHeartbeats 800000 in
theorem DrawIsSuper_any (A : Option Addr) (n c : Nat) (zs : List Int) (w : World) (hr : Rd w w.heap.size A n c (zs.map U8)) (hz : ∀ z ∈ zs, 0 ≤ z ∧ z ≤ 255) :
    Calls Try.prog 27 #[.slice A n c] w (DrawnIs w) := by
  have H := Lib.hid (newReader_any A n c zs w hr hz)
  clear hr hz
  go_enter Try.func27, Try.ntmps27
  go_wp2_with fail
  refine H.out.mono ?_
  rintro e w1 ⟨R, zs', rfl, hR, hb1⟩
  have hBR := hR.1
  have hlt1 := hR.lt
  go_wp2_with fail
  refine (someWords_any _ R zs' 0 _ hR (by omega)).mono ?_
  rintro e w2 ⟨A2, n2, c2, ws, q, rfl, ho, hsh, hn, hq, hR2, hg⟩
  have hl47 := short47 hsh (by omega)
  go_wp2_with fail
  refine (specGreedySuper_any A2 n2 c2 ws _ ho.rd hl47).mono ?_
  rintro e w3 ⟨rfl, hb3⟩
  have hR3 := hR2.kept hb3
  have ho3 := ho.below hb3 (Nat.le_refl _)
  have hg3 := grown_below hg hb3
  have hgs := gst_short ws
  obtain ⟨s, hs⟩ : ∃ s, s = GST ws := ⟨_, rfl⟩
  rw [← hs] at hgs ⊢
  clear hs hb3 hg hR2 ho
  go_wp2_with fail
  refine (pick_any _ R zs' q 2 _ hR3 (by omega) (by omega) (by omega)).mono ?_
  rintro e w4 ⟨v, rfl, _, _, hR4, hg4⟩
  have hg5 := grown_trans hg3 hg4
  have ho4 := own_aside ho3 hg4 hlt1
  clear hg4 ho3 hg3
  by_cases hv : v = 0
  · subst hv
    go_wp2_with fail
    refine (mutate_any _ R zs' (q + 1) s _ hR4 (by omega) (by omega)).mono ?_
    rintro e w5 ⟨l, q2, rfl, hl, hR5, hg6⟩
    have ho5 := own_aside ho4 hg6 hlt1
    have hg7 := grown_trans hg5 hg6
    go_wp2_with fail
    go_ret2
    exact ⟨l, A2, n2, c2, ws, rfl, by omega, ho5.more hb1.size, hsh, hn, grown_bel hb1 hBR hg7⟩
  · go_wp2_with fail
    go_ret2
    exact ⟨s, A2, n2, c2, ws, rfl, by omega, ho4.more hb1.size, hsh, hn, grown_bel hb1 hBR hg5⟩
set_option maxRecDepth 8000 in
set_option maxHeartbeats 1600000 in
theorem walkIsSuper (A : Option Addr) (n c : Nat) (zs : List Int) (w : World) (hr : Rd w w.heap.size A n c (zs.map U8)) (hz : ∀ z ∈ zs, 0 ≤ z ∧ z ≤ 255) (hvr : Vr w) :
    Calls Try.prog 9 #[.slice A n c] w (RetVal w (.bool true)) := by
  by_cases hbig : 1048576 < n
  · go_enter Try.func9, Try.ntmps9
    go_wp2_with fail
    go_ret
    exact ⟨rfl, Below.refl _ _⟩
  · have HD := Lib.hid (DrawIsSuper_any A n c zs w hr hz)
    go_enter Try.func9, Try.ntmps9
    go_wp2_with fail
    refine HD.out.mono ?_
    rintro e w1 ⟨s, A1, n1, c1, ws, rfl, hsl, ho1, hsh, hn1, hb1⟩
    have hvr1 := hvr.keep hb1
    have hr1 := ho1.rd
    have hl47 := short47 hsh (by omega)
    have hlen : ws.length = n1 := hr1.slen
    have hI := fun A2 n2 c2 ws' W hW h4 hV => IsSuper_any s A2 n2 c2 ws' W hW h4 (by omega) hV
    have hS := fun W hW => specIsSuper_any s A1 n1 c1 ws W hW hl47 (by omega)
    have hC := fun W hW hV => CoverLength_any A1 n1 c1 ws W hW hl47 hV
    have hV := fun W => ValidText_any s W (by omega)
    have hW := fun W hW hV => ReduceWords_any A1 n1 c1 ws W hW hl47 hV
    have hI1 := fun W hW hV => hI A1 n1 c1 ws W hW hl47 hV
    obtain ⟨b, hb⟩ : ∃ b, b = ISS s ws := ⟨_, rfl⟩
    rw [← hb] at hS hI1
    have Hb := Lib.hid hb
    have bb : (b != b) = false := by simp
    have bb2 : (b == b) = true := by simp
    clear ho1 hb
    go_wp2_with fail
    refine (hI1 _ hr1 hvr1).mono ?_
    rintro e w2 ⟨rfl, hb2⟩
    have B2 := hb1.trans (hb2.mono hb1.size)
    have hr2 := (hr1.below hb2).more hb2.size
    have hvr2 := hvr1.keep hb2
    go_wp2_with fail
    refine (hS _ hr2).mono ?_
    rintro e w3 ⟨rfl, hb3⟩
    have B3 := B2.trans (hb3.mono B2.size)
    have hr3 := (hr2.below hb3).more hb3.size
    have hvr3 := hvr2.keep hb3
    cases hvt : vt s with
    | false =>
      rw [hvt] at hV
      clear hvt
      go_wp2_with fail
      refine (hV _).mono ?_
      rintro e w4 ⟨rfl, hb4⟩
      have B4 := B3.trans (hb4.mono B3.size)
      have hr4 := (hr3.below hb4).more hb4.size
      go_wp2_with fail
      refine (hS _ hr4).mono ?_
      rintro e w5 ⟨rfl, hb5⟩
      have B5 := B4.trans (hb5.mono B4.size)
      go_wp2_with fail
      go_ret
      exact ⟨ret_bool (by simp), B5⟩
    | true =>
      rw [hvt] at hV
      clear hvt
      cases hv : vw ws with
      | false =>
        rw [WY_neg bhC hv] at hC
        clear hv
        go_wp2_with fail
        refine (hV _).mono ?_
        rintro e w4 ⟨rfl, hb4⟩
        have B4 := B3.trans (hb4.mono B3.size)
        have hr4 := (hr3.below hb4).more hb4.size
        have hvr4 := hvr3.keep hb4
        go_wp2_with fail
        refine (hC _ hr4 hvr4).mono ?_
        rintro e w5 ⟨rfl, hb5⟩
        have B5 := B4.trans (hb5.mono B4.size)
        have hr5 := (hr4.below hb5).more hb5.size
        go_wp2_with fail
        refine (hS _ hr5).mono ?_
        rintro e w6 ⟨rfl, hb6⟩
        have B6 := B5.trans (hb6.mono B5.size)
        go_wp2_with fail
        go_ret
        exact ⟨ret_bool (by simp), B6⟩
      | true =>
        have h0 := cover_ge hv
        have hred := iss_red s hv
        rw [← Hb.out] at hred
        rw [RW_yes hv] at hW
        have hl47' : Len47 (red ws) := fun x hx => hl47 x (red_sub hx)
        have hI2 := fun A2 n2 c2 W hW hV => hI A2 n2 c2 (red ws) W hW hl47' hV
        rw [hred] at hI2
        obtain ⟨y, hy⟩ : ∃ y, y = WY ws bhC := ⟨_, rfl⟩
        rw [← hy] at h0 hC
        have y0 : ¬ y < 0 := by omega
        clear hy h0 hred
        go_wp2_with fail
        refine (hV _).mono ?_
        rintro e w4 ⟨rfl, hb4⟩
        have B4 := B3.trans (hb4.mono B3.size)
        have hr4 := (hr3.below hb4).more hb4.size
        have hvr4 := hvr3.keep hb4
        go_wp2_with fail
        refine (hC _ hr4 hvr4).mono ?_
        rintro e w5 ⟨rfl, hb5⟩
        have B5 := B4.trans (hb5.mono B4.size)
        have hr5 := (hr4.below hb5).more hb5.size
        have hvr5 := hvr4.keep hb5
        go_wp2_with fail
        refine (hW _ hr5 hvr5).mono ?_
        rintro e w6 ⟨A6, n6, c6, rfl, ho6, hb6⟩
        have B6 := B5.trans (hb6.mono B5.size)
        have hr6 := (hr5.below hb6).more hb6.size
        have hvr6 := hvr5.keep hb6
        go_wp2_with fail
        refine (hI2 A6 n6 c6 _ ho6.rd hvr6).mono ?_
        rintro e w7 ⟨rfl, hb7⟩
        have B7 := B6.trans (hb7.mono B6.size)
        have hr7 := (hr6.below hb7).more hb7.size
        have hvr7 := hvr6.keep hb7
        clear hI2 ho6 hW hC hV hS hI1
        by_cases hn0 : n1 = 0
        · have hn0' : ((n1 : Int) == 0) = true := by simp; omega
          go_wp2_with fail
          go_ret
          exact ⟨ret_bool (by simp), B7⟩
        · have hn0' : ((n1 : Int) == 0) = false := by simp; omega
          obtain ⟨m, hm⟩ : ∃ m, m = n1 - 1 := ⟨_, rfl⟩
          have hr8 := hr7.take_ (m := m) (by omega)
          rw [← List.map_take] at hr8
          have hnc := hr7.2.1
          have hcm := hr7.2.2.1
          unfold maxLen at hcm
          have hI3 := hI A1 m c1 (ws.take m) _ hr8 (fun x hx => hl47 x (List.mem_of_mem_take hx)) hvr7
          have e1 : IntKind.i64.wrap ((n1 : Int) - 1) = (m : Int) := by rw [IntKind.wrap_i64]; omega
          have e2 : ((n1 : Int) - 1) = (m : Int) := by omega
          have m0 : (0 : Int) ≤ (m : Int) := by omega
          have m1 : (m : Int) ≤ (c1 : Int) := by omega
          have hb3' := Lib.hid (fun h : b = true => iss_take (s := s) (ws := ws) m (by rw [← Hb.out]; exact h))
          obtain ⟨b3, hb3e⟩ : ∃ b3, b3 = ISS s (ws.take m) := ⟨_, rfl⟩
          rw [← hb3e] at hI3
          have Hb3 := Lib.hid hb3e
          clear hr8 hb3e hm
          cases b3 with
          | true =>
            go_wp2_with fail
            refine hI3.mono ?_
            rintro e w8 ⟨rfl, hb8⟩
            have B8 := B7.trans (hb8.mono B7.size)
            go_wp2_with fail
            go_ret
            exact ⟨ret_bool (by simp), B8⟩
          | false =>
            have hbf : b = false := by
              cases hbt : b with
              | false => rfl
              | true => have h1 := hb3'.out hbt; rw [← Hb3.out] at h1; cases h1
            subst hbf
            go_wp2_with fail
            refine hI3.mono ?_
            rintro e w8 ⟨rfl, hb8⟩
            have B8 := B7.trans (hb8.mono B7.size)
            go_wp2_with fail
            go_ret
            exact ⟨ret_bool (by simp), B8⟩
end Go.Proofs.Ytfppbfhlmbakoaa
