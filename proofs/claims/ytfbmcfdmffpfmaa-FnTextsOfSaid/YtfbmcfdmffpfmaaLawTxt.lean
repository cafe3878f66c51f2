/-
  The law on texts (FnTextsOf): its walk.
-/
import Derived.Test.YtfbmcfdmffpfmaaTold
import Derived.Test.YtfbmcfdmffpfmaaSomeW
import Derived.Test.YtfbmcfdmffpfmaaLawFacs
import Derived.Deep.RegionHeld3
namespace Go.Proofs.Ytfbmcfdmffpfmaa
open Go.RowKit
set_option linter.unusedVariables false
set_option linter.unusedSimpArgs false

theorem bel_callT {N : Nat} {w0 w1 w2 : World} (hb : Below w1.heap.size w1 w2) (h : Below N w0 w1) (hN : N ≤ w0.heap.size) : Below N w0 w2 := h.trans (hb.mono (Nat.le_trans hN h.size))
theorem Short.len47 {ws : List (List UInt8)} (h : Short ws 50) : Len47 ws := fun x hx => by have := h x hx; omega
set_option maxRecDepth 8000 in
set_option maxHeartbeats 3200000 in
theorem walkTextsOf (A : Option Addr) (nc c : Nat) (zs : List Int) (w : World) (hr : Rd w w.heap.size A nc c (zs.map U8)) (hz : ∀ z ∈ zs, 0 ≤ z ∧ z ≤ 255) (hvr : Vr w) :
    Calls Try.prog 19 #[.slice A nc c] w (RetVal w (.bool true)) := by
  by_cases hbig : 1048576 < nc
  · go_enter Try.func19, Try.ntmps19
    go_wp2_with fail
    go_ret
    exact ⟨rfl, Below.refl _ _⟩
  have HD := Lib.hid (DrawTextsOf_any A nc c zs w hr hz)
  clear hr hz hvr
  go_enter Try.func19, Try.ntmps19
  go_wp2_with fail
  refine HD.out.mono ?_
  rintro e w1 ⟨A1, n1, c1, ws, rfl, hrow1, hsh, hn1, B1⟩
  have s1 := B1.size
  have o1 := hrow1.own.win
  have hl47 := hsh.len47
  clear HD hbig hrow1
  obtain ⟨R, hRe⟩ : ∃ R, R = TX ws := ⟨_, rfl⟩
  have HR := Lib.hid hRe
  have hRl : R.length ≤ 40320 := by rw [hRe]; exact TX_len ws
  clear hRe
  have H2 := Lib.hid (TextsOf_any A1 n1 c1 ws w1 (o1.rd' (by omega)) hl47)
  rw [← HR.out] at H2
  go_wp2_with fail
  refine H2.out.mono ?_
  rintro e w2 ⟨A2, n2, c2, rfl, ho2, hb2⟩
  have s2 := hb2.size
  have B2 := B1.trans (hb2.mono (by omega))
  have o2 := ho2.win
  have o1 := o1.below hb2 (by omega)
  have H3 := Lib.hid (specTextsOf_any A1 n1 c1 ws w2 (o1.rd' (by omega)) hl47)
  rw [← HR.out] at H3
  clear H2 ho2 hb2 B1
  go_wp2_with fail
  refine H3.out.mono ?_
  rintro e w3 ⟨A3, n3, c3, rfl, ho3, hb3⟩
  have s3 := hb3.size
  have B3 := B2.trans (hb3.mono (by omega))
  have o3 := ho3.win
  have o2 := o2.below hb3 (by omega)
  have o1 := o1.below hb3 (by omega)
  clear H3 ho3 hb3 B2
  go_wp2_with fail
  refine (equalTexts_same A2 n2 c2 R A3 n3 c3 w3 _ _ o2.rd o3.rd).mono ?_
  rintro e w4 ⟨rfl, hq4⟩
  have hb4 := hq4.bel w3.heap.size
  have s4 := hb4.size
  have B4 := B3.trans (hb4.mono (by omega))
  have o2 := o2.below hb4 (by omega)
  have o1 := o1.below hb4 (by omega)
  clear hq4 hb4 B3 o3
  have hl2 := o2.rd.slen
  have hm2 := o2.rd.2.2.1
  have hnc2 := o2.rd.2.1
  unfold maxLen at hm2
  have hn2 : n2 ≤ 40320 := by omega
  by_cases h0 : n2 = 0
  · have hn0 : ((n2 : Int) == 0) = true := by simp [h0]
    have H5 := Lib.hid (specTextsOf_any A1 n1 c1 ws w4 (o1.rd' (by omega)) hl47)
    rw [← HR.out] at H5
    clear h0
    go_wp2_with fail
    refine H5.out.mono ?_
    rintro e w6 ⟨A6, n6, c6, rfl, ho6, hb6⟩
    have s6 := hb6.size
    have B6 := B4.trans (hb6.mono (by omega))
    have o6 := ho6.win
    have o2 := o2.below hb6 (by omega)
    clear H5 ho6 hb6 B4
    go_wp2_with fail
    refine (equalTexts_same A2 n2 c2 R A6 n6 c6 w6 _ _ o2.rd o6.rd).mono ?_
    rintro e w7 ⟨rfl, hq7⟩
    have B7 := B6.trans ((hq7.bel w6.heap.size).mono (by omega))
    clear hq7
    go_wp2_with fail
    go_ret
    exact ⟨rfl, B7⟩
  have hn0 : ((n2 : Int) == 0) = false := by simp; omega
  obtain ⟨y0, hy0⟩ : ∃ y, R[0]? = some y := ⟨_, List.getElem?_eq_getElem (by omega)⟩
  have hW0 := TX_winds (ws := ws) (y := y0) (by rw [← HR.out]; exact List.mem_of_getElem? hy0)
  obtain ⟨hvw, _, hk1, hk6, _⟩ := hW0
  have hn1' : 1 ≤ n1 := by
    have := (vwd_k hvw).2.2.2.2
    have h2 := o1.rd.slen
    omega
  obtain ⟨b1, o1', x0, rfl, hbb1, hx0, hcx0⟩ := o1.rd.str (k := 0) (by omega)
  rw [Nat.add_zero] at hcx0
  have hK := Lib.hid (klen_at hx0)
  rw [klen_at hx0] at hk1 hk6
  have Hvw := Lib.hid hvw
  have hn1i : (0 : Int) < (n1 : Int) := by omega
  have hn1j : 0 < n1 := by omega
  clear hx0 hy0 h0 hvw
  go_wp2_with fail
  go_loopw [5] (fun t wr => ∃ i : Nat, i ≤ n2 ∧ t = .int .i64 i ∧ Below w4.heap.size w4 wr) (fun t _ => n2 - (intOf t).toNat)
  case atStart => exact ⟨0, Nat.zero_le _, rfl, Below.refl _ _⟩
  case round =>
    obtain ⟨i, hi8, rfl, hbr⟩ := hrel
    have hsz := hbr.size
    have o2r := o2.below hbr (by omega)
    have o1r := o1.below hbr (by omega)
    by_cases hlt : i < n2
    · obtain ⟨b, o, y, rfl, hb, hy, hcy⟩ := o2r.rd.str hlt
      have hcx := (hbr.cell (p := ⟨b1, o1', none⟩) (World.block_lt_of_cell? _ _ hcx0)).trans hcx0
      have hltY := World.block_lt_of_cell? _ _ hcy
      have hltX := World.block_lt_of_cell? _ _ hcx
      have hyR : y ∈ TX ws := by rw [← HR.out]; exact List.mem_of_getElem? hy
      obtain ⟨_, hvy, _, _, hwy⟩ := TX_winds hyR
      have hy40 := vt_len hvy
      have hW := WindowsOf_any y (x0.length : Int) wr.drew (by omega)
      rw [WO_yes hvy hk1 hk6, ← hK.out, hwy] at hW
      have h0 : (i : Int) < (n2 : Int) := by omega
      have h00 : (0 : Int) ≤ (i : Int) := by omega
      have hbd : Below wr.heap.size wr wr.drew := (Below.refl _ wr).drew
      clear hwy hvy hyR hy
      rw [hK.out] at hW
      go_wp2_with fail
      go_region_held3 (fun w' => w'.cell? ⟨b, o + i, none⟩ = some (.string ⟨y.toArray⟩) ∧ w'.cell? ⟨b1, o1', none⟩ = some (.string ⟨x0.toArray⟩) ∧ Below wr.heap.size wr w')
        ((refine kp_two hcy hltY hcx hltX ?_; focus (repeat (first | assumption | exact hbd | refine bel_callT hb12 ?_ (Nat.le_refl _) | refine bel_callT hb11 ?_ (Nat.le_refl _) | refine bel_callT hb10 ?_ (Nat.le_refl _) | apply Below.drew))))
        (first
        | (go_at_call 23
           with_reducible refine hW.mono ?_
           rintro e w10 ⟨A10, n10, c10, rfl, ho10, hb10⟩
           have o1s := o1r.below (bel_callT hb10 hbd (Nat.le_refl _)) (by omega)
           have s10 := hb10.size
           have hA := alphabetical_any _ n1 c1 ws w10 (o1s.rd' (by have := (bel_callT hb10 hbd (Nat.le_refl _)).size; omega)) (by omega))
        | (go_at_call 58
           with_reducible refine hA.mono ?_
           rintro e w11 ⟨A11, n11, c11, rfl, ho11, hb11⟩
           have hE := equalTexts_same A10 n10 c10 (stT ws) A11 n11 c11 w11 _ _ (ho10.rd.below hb11) ho11.rd)
        | (go_at_call 30
           with_reducible refine hE.mono ?_
           rintro e w12 ⟨rfl, hq12⟩
           have hb12 := hq12.bel w11.heap.size))
      all_goals
        have B12 := hbr.trans ((bel_callT hb12 (bel_callT hb11 (bel_callT hb10 hbd (Nat.le_refl _)) (Nat.le_refl _)) (Nat.le_refl _)).mono hsz)
        clear hW hA hE hcx hcy hb10 hb11 hb12 hq12 ho10 ho11 o1s hbd
        go_wp2_with fail
        go_roundw
        case rel => exact ⟨i + 1, by omega, by go_num, B12⟩
        case measure => simp [intOf]; omega
    · obtain rfl : i = n2 := by omega
      go_wp2_with fail
      refine (rises_any A2 i c2 R wr _ o2r.rd (by rw [HR.out]; exact TX_asc ws)).mono ?_
      rintro e w7 ⟨rfl, hq7⟩
      have B7 := B4.trans ((bel_callT (hq7.bel wr.heap.size) hbr (Nat.le_refl _)).mono (by omega))
      clear hq7
      go_wp2_with fail
      go_ret
      exact ⟨rfl, B7⟩
end Go.Proofs.Ytfbmcfdmffpfmaa
