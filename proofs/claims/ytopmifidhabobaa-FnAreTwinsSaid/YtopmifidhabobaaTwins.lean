/-
  Points turned round, and twins: of the reference and of the program.
-/
import Derived.Test.YtopmifidhabobaaRuler
import Derived.Test.YtopmifidhabobaaBack
namespace Go.Proofs.Ytopmifidhabobaa
open Go.RowKit
set_option linter.unusedVariables false
set_option linter.unusedSimpArgs false

/-- The points turned round, the first k of them. -/
def tnTo (zs : List Int) (top : Int) (k : Nat) : List Int := upto (fun j => top - zs.getD (zs.length - 1 - j) 0) k
theorem tnTo_all (zs : List Int) : tnTo zs (zs.getD (zs.length - 1) 0) zs.length = turn zs := by
  refine List.ext_getElem (by simp [tnTo, upto, turn, trn]) fun i h1 h2 => ?_
  have hi : i < zs.length := by simpa [tnTo, upto] using h1
  have hj : zs.length - 1 - i < zs.length := by omega
  simp [tnTo, upto, turn, trn, List.getElem?_eq_getElem hj]
def TP (zs : List Int) : List Int := if vp zs then turn zs else []
theorem vp_pos {zs : List Int} (h : vp zs = true) : 1 ≤ zs.length := by
  obtain ⟨_, ⟨r, rfl⟩, _⟩ := (vp_iff zs).1 h
  simp
theorem TurnPoints_any (A : Option Addr) (n c : Nat) (zs : List Int) (w : World) (hr : Rd w w.heap.size A n c (zs.map I)) :
    Calls Try.prog 29 #[.slice A n c] w (RetRow w 3 ((TP zs).map I)) := by
  cases hv : vp zs with
  | false =>
    have Hv := Lib.hid (show TP zs = [] by unfold TP; rw [hv]; rfl)
    have HV := Lib.hid hv
    clear hv
    go_enter Try.func29, Try.ntmps29
    go_wp2_with fail
    refine (ValidPoints_any A n c zs w _ hr).mono ?_
    rintro e w1 ⟨rfl, rfl⟩
    rw [HV.out]
    go_wp2_with fail
    go_ret
    rw [Hv.out]
    exact retRow_none _ _ _ (Below.refl _ _)
  | true =>
    have hs := vp_small hv
    have hl := vp_len hv
    have hp := vp_pos hv
    have hn := hr.ilen
    have Hv := Lib.hid (show TP zs = turn zs by unfold TP; rw [hv]; rfl)
    have HV := Lib.hid hv
    clear hv
    obtain ⟨b, o, rfl, hb, _⟩ := hr.2.2.2 (by omega)
    have hn1 : 1 ≤ n := by omega
    have hn3 : n ≤ 1000 := by omega
    clear hn hl hp
    go_enter Try.func29, Try.ntmps29
    go_wp2_with fail
    refine (ValidPoints_any _ n c zs w _ hr).mono ?_
    rintro e w1 ⟨rfl, rfl⟩
    rw [HV.out]
    go_wp2_with fail
    refine (turned_any b o n c zs w1 hr hn1 hn3 hs).mono ?_
    rintro e w2 ⟨A2, n2, c2, rfl, ho, hb⟩
    go_wp2_with fail
    go_ret
    rw [Hv.out]
    exact ⟨_, _, _, rfl, ho, hb⟩
set_option maxRecDepth 8000 in
set_option maxHeartbeats 1600000 in
theorem specTurn_any (b o n c : Nat) (zs : List Int) (w : World) (hr : Rd w w.heap.size (some ⟨b, o, none⟩) n c (zs.map I)) (hn1 : 1 ≤ n) (hn3 : n ≤ 1000) (hs : Small zs) :
    Calls Try.prog 64 #[.slice (some ⟨b, o, none⟩) n c] w (RetRow w 3 ((turn zs).map I)) := by
  have hm := hr.2.2.1
  have hnc := hr.2.1
  have Hn := Lib.hid hr.ilen
  unfold maxLen at hm
  obtain ⟨i0, hi, hz0, hz1, hz2⟩ := info_parts Try.infoI
  obtain ⟨m, rfl⟩ : ∃ m, n = m + 1 := ⟨n - 1, by omega⟩
  obtain ⟨top, htop, hctop⟩ := hr.int_at (show m < m + 1 by omega)
  have htop6 := hs.at_ htop
  have Htop := Lib.hid (show tnTo zs top (m + 1) = turn zs by
    have := tnTo_all zs
    rw [Hn.out, show m + 1 - 1 = m by omega, getD_at htop] at this
    exact this)
  clear htop
  have hbb : b < w.heap.size := by
    obtain ⟨b', o', e, hb, _⟩ := hr.2.2.2 (by omega)
    injection e with e
    injection e with e1 e2
    omega
  have hctA : ∀ o1, (w.alloc o1).cell? ⟨b, o + m, none⟩ = some (.int .i64 top) := fun o1 => (((Below.refl w.heap.size w).alloc (Nat.le_refl _) o1).cell (p := ⟨b, o + m, none⟩) hbb).trans hctop
  have e0 : IntKind.i64.wrap (((m + 1 : Nat) : Int) - 1) = (m : Int) := by rw [IntKind.wrap_i64]; omega
  have e1 : ((m + 1 : Nat) : Int) - 1 = (m : Int) := by omega
  have e1' : ((m : Int) + 1 - 1) = (m : Int) := by omega
  have b0 : (m : Int) < ((m + 1 : Nat) : Int) := by omega
  have b1 : (0 : Int) ≤ (m : Int) := by omega
  go_enter Try.func64, Try.ntmps64
  go_wp2_with fail
  go_loopw [3, 5] (fun v i wr => ∃ (k : Nat) (A' : Option Addr) (n' c' : Nat), k ≤ m + 1 ∧ i = .int .i64 ((m : Int) - (k : Int)) ∧ v = .slice A' n' c' ∧ Row wr w.heap.size 3 A' n' c' ((tnTo zs top k).map I) ∧ Below w.heap.size w wr) (fun _ i _ => (intOf i + 1).toNat)
  case atStart =>
    refine ⟨0, some ⟨w.heap.size, 0, none⟩, 0, 0, Nat.zero_le _, by simp, rfl, ?_, ?_⟩
    · exact Row.nil_ w 3
    · exact (Below.refl _ _).alloc (Nat.le_refl _) _
  case round =>
    obtain ⟨k, A', n', c', hk, rfl, rfl, hown, hbw⟩ := hrel
    have hlen := hown.len
    simp [tnTo, upto_length] at hlen
    by_cases hkm : k < m + 1
    · obtain ⟨q, hq⟩ : ∃ q, q = m - k := ⟨_, rfl⟩
      have hqk : (m : Int) - (k : Int) = (q : Int) := by omega
      obtain ⟨y, hy, hcy⟩ := (hr.below hbw).int_at (show q < m + 1 by omega)
      have hy60 := hs.at_ hy
      have Hst := Lib.hid (show (tnTo zs top (k + 1)).map I = (tnTo zs top k).map I ++ [.int .i64 (top - y)] by
        unfold tnTo
        rw [upto_succ, map_snocI, Hn.out, show m + 1 - 1 - k = q by omega, getD_at hy])
      have Hq := Lib.hid hqk
      rw [hqk]
      have hqm : (q : Int) < ((m + 1 : Nat) : Int) := by omega
      have hqm' : (q : Int) < (m : Int) + 1 := by omega
      have q0 : (0 : Int) ≤ (q : Int) := by omega
      have hn' : n' ≤ 1000 := by omega
      clear hy hq hqk hlen
      have hsz := hbw.size
      have e2 : IntKind.i64.wrap (top - y) = top - y := by rw [IntKind.wrap_i64]; omega
      have e3 : IntKind.i64.wrap ((q : Int) - 1) = (q : Int) - 1 := by rw [IntKind.wrap_i64]; omega
      go_wp2_with (at_builtin; refine wpList_app1 _ rfl _ _ 22 rfl w.heap.size 3 i0 (.int .i64 0) 8 Try.underlying22 hi hz0 hz1 hz2 rfl _ _ _ _ rfl (hown.alloc _) _ (.int .i64 (top - y)) rfl (cell_one_new _ _ _) rfl (by omega) (by omega) (by simp; omega) ?_; intro A2 c2 w2 hown2 hgrow2)
      have hbw2 : Below w.heap.size w w2 := kp_grown (kp_alloc _ hbw (Nat.le_refl _)) (Nat.le_refl _) hgrow2 (row_ge hown)
      clear hgrow2
      go_wp2_with fail
      go_roundw
      case rel => exact ⟨k + 1, A2, n' + 1, c2, by omega, by have := Hq.out; congr 1; omega, rfl, by rw [Hst.out]; exact hown2, hbw2⟩
      case measure => simp [intOf] <;> omega
    · obtain rfl : k = m + 1 := by omega
      have hneg : (m : Int) - ((m + 1 : Nat) : Int) = -1 := by omega
      rw [hneg]
      go_wp2_with fail
      go_ret
      rw [Htop.out] at hown
      exact ⟨_, _, _, rfl, Row.own hown, hbw⟩
/-- Twins: the same distances, neither the same points nor the same turned round. -/
def TW (us bs : List Int) : Bool := vp us && vp bs && decide (dsr us = dsr bs) && !decide (us = bs) && !decide (us = turn bs)
set_option maxRecDepth 8000 in
set_option maxHeartbeats 3200000 in
theorem specAreTwins_any (A : Option Addr) (n c : Nat) (us : List Int) (A2 : Option Addr) (n2 c2 : Nat) (bs : List Int) (w : World) (hr : Rd w w.heap.size A n c (us.map I)) (hr2 : Rd w w.heap.size A2 n2 c2 (bs.map I)) :
    Calls Try.prog 25 #[.slice A n c, .slice A2 n2 c2] w (RetVal w (.bool (TW us bs))) := by
  cases hv : vp us with
  | false =>
    have Hv := Lib.hid (show TW us bs = false by unfold TW; rw [hv]; rfl)
    have HV := Lib.hid hv
    clear hv
    go_enter Try.func25, Try.ntmps25
    go_wp2_with fail
    refine (validPoints_any A n c us w _ hr).mono ?_
    rintro e w1 ⟨rfl, hq⟩
    rw [HV.out]
    go_wp2_with fail
    go_ret
    rw [Hv.out]
    exact ⟨rfl, hq.bel _⟩
  | true =>
  cases hv2 : vp bs with
  | false =>
    have Hv := Lib.hid (show TW us bs = false by unfold TW; rw [hv, hv2]; rfl)
    have HV := Lib.hid hv
    have HV2 := Lib.hid hv2
    clear hv hv2
    go_enter Try.func25, Try.ntmps25
    go_wp2_with fail
    refine (validPoints_any A n c us w _ hr).mono ?_
    rintro e w1 ⟨rfl, hq⟩
    rw [HV.out]
    go_wp2_with fail
    refine (validPoints_any A2 n2 c2 bs w1 _ (hr2.below (hq.bel _))).mono ?_
    rintro e w2 ⟨rfl, hq2⟩
    rw [HV2.out]
    go_wp2_with fail
    go_ret
    rw [Hv.out]
    exact ⟨rfl, (hq.bel w.heap.size).trans (hq2.bel _)⟩
  | true =>
  have hs := vp_small hv
  have hs2 := vp_small hv2
  have hl := vp_len hv
  have hl2 := vp_len hv2
  have hp2 := vp_pos hv2
  have hn := hr.ilen
  have hn2 := hr2.ilen
  obtain ⟨b, o, rfl, hb, _⟩ := hr2.2.2.2 (by omega)
  have hn3 : n ≤ 1000 := by omega
  have hn3' : n2 ≤ 1000 := by omega
  have hn1 : 1 ≤ n2 := by omega
  obtain ⟨x, hx⟩ : ∃ x, x = decide (dsr us = dsr bs) := ⟨_, rfl⟩
  obtain ⟨y, hy⟩ : ∃ y, y = decide (us = bs) := ⟨_, rfl⟩
  obtain ⟨z, hz⟩ : ∃ z, z = decide (us = turn bs) := ⟨_, rfl⟩
  have Hv := Lib.hid (show TW us bs = (x && !y && !z) by unfold TW; rw [hv, hv2, hx, hy, hz]; rfl)
  have HV := Lib.hid hv
  have HV2 := Lib.hid hv2
  have Hx := Lib.hid hx
  have Hy := Lib.hid hy
  have Hz := Lib.hid hz
  clear hv hv2 hx hy hz hl hl2 hp2 hn hn2
  go_enter Try.func25, Try.ntmps25
  go_wp2_with fail
  refine (validPoints_any A n c us w _ hr).mono ?_
  rintro e w1 ⟨rfl, hq⟩
  rw [HV.out]
  go_wp2_with fail
  refine (validPoints_any _ n2 c2 bs w1 _ (hr2.below (hq.bel _))).mono ?_
  rintro e w2 ⟨rfl, hq2⟩
  rw [HV2.out]
  have hb2 : Below w.heap.size w w2 := (hq.bel w.heap.size).trans (hq2.bel _)
  go_wp2_with fail
  refine (distances_any A n c us w2 ((hr.below hb2).more hb2.size) hn3 hs).mono ?_
  rintro e w3 h3
  obtain ⟨A3, n3, c3, rfl, ho3, hb3⟩ := retRow_from hb2 h3
  have o3 := ho3.win
  have s3 := hb3.size
  go_wp2_with fail
  refine (distances_any _ n2 c2 bs w3 ((hr2.below hb3).more s3) hn3' hs2).mono ?_
  rintro e w4 ⟨A4, n4, c4, rfl, ho4, hb4'⟩
  have hb4 := hb3.trans (hb4'.mono s3)
  have s4 := hb4.size
  have o3 := o3.below hb4' (Nat.le_refl _)
  go_wp2_with fail
  refine (sameInts_any A3 n3 c3 (dsr us) A4 n4 c4 (dsr bs) w4 _ _ o3.rd ho4.rd).mono ?_
  rintro e w5 ⟨rfl, hq5⟩
  rw [← Hx.out]
  have hb5 := hb4.trans (hq5.bel _)
  clear hb4' hb3 hb4 o3 ho3 ho4 h3 hb2 hq hq2
  cases x with
  | false =>
    go_wp2_with fail
    go_ret
    rw [Hv.out]
    exact ⟨rfl, hb5⟩
  | true =>
  go_wp2_with fail
  refine (sameInts_any A n c us _ n2 c2 bs w5 _ _ (hr.below hb5) (hr2.below hb5)).mono ?_
  rintro e w6 ⟨rfl, hq6⟩
  rw [← Hy.out]
  have hb6 := hb5.trans (hq6.bel _)
  cases y with
  | true =>
    go_wp2_with fail
    go_ret
    rw [Hv.out]
    exact ⟨rfl, hb6⟩
  | false =>
  go_wp2_with fail
  refine (specTurn_any b o n2 c2 bs w6 ((hr2.below hb6).more hb6.size) hn1 hn3' hs2).mono ?_
  rintro e w7 h7
  obtain ⟨A7, n7, c7, rfl, ho7, hb7⟩ := retRow_from hb6 h7
  go_wp2_with fail
  refine (sameInts_any A n c us A7 n7 c7 (turn bs) w7 _ _ (hr.below hb7) ho7.rd).mono ?_
  rintro e w8 ⟨rfl, hq8⟩
  rw [← Hz.out]
  have hb8 := hb7.trans (hq8.bel _)
  cases z <;> (go_wp2_with fail; go_ret; rw [Hv.out]; exact ⟨rfl, hb8⟩)
set_option maxRecDepth 8000 in
set_option maxHeartbeats 3200000 in
theorem AreTwins_any (A : Option Addr) (n c : Nat) (us : List Int) (A2 : Option Addr) (n2 c2 : Nat) (bs : List Int) (w : World) (hr : Rd w w.heap.size A n c (us.map I)) (hr2 : Rd w w.heap.size A2 n2 c2 (bs.map I)) :
    Calls Try.prog 24 #[.slice A n c, .slice A2 n2 c2] w (RetVal w (.bool (TW us bs))) := by
  cases hv : vp us with
  | false =>
    have Hv := Lib.hid (show TW us bs = false by unfold TW; rw [hv]; rfl)
    have HV := Lib.hid hv
    clear hv
    go_enter Try.func24, Try.ntmps24
    go_wp2_with fail
    refine (ValidPoints_any A n c us w _ hr).mono ?_
    rintro e w1 ⟨rfl, rfl⟩
    rw [HV.out]
    go_wp2_with fail
    go_ret
    rw [Hv.out]
    exact ⟨rfl, Below.refl _ _⟩
  | true =>
  cases hv2 : vp bs with
  | false =>
    have Hv := Lib.hid (show TW us bs = false by unfold TW; rw [hv, hv2]; rfl)
    have HV := Lib.hid hv
    have HV2 := Lib.hid hv2
    clear hv hv2
    go_enter Try.func24, Try.ntmps24
    go_wp2_with fail
    refine (ValidPoints_any A n c us w _ hr).mono ?_
    rintro e w1 ⟨rfl, rfl⟩
    rw [HV.out]
    go_wp2_with fail
    refine (ValidPoints_any A2 n2 c2 bs w1 _ hr2).mono ?_
    rintro e w2 ⟨rfl, rfl⟩
    rw [HV2.out]
    go_wp2_with fail
    go_ret
    rw [Hv.out]
    exact ⟨rfl, Below.refl _ _⟩
  | true =>
  have hs := vp_small hv
  have hs2 := vp_small hv2
  have hl := vp_len hv
  have hl2 := vp_len hv2
  have hp2 := vp_pos hv2
  have hn := hr.ilen
  have hn2 := hr2.ilen
  obtain ⟨b, o, rfl, hb, _⟩ := hr2.2.2.2 (by omega)
  have hn3 : n ≤ 1000 := by omega
  have hn3' : n2 ≤ 1000 := by omega
  have hn1 : 1 ≤ n2 := by omega
  obtain ⟨x, hx⟩ : ∃ x, x = decide (dsr us = dsr bs) := ⟨_, rfl⟩
  obtain ⟨y, hy⟩ : ∃ y, y = decide (us = bs) := ⟨_, rfl⟩
  obtain ⟨z, hz⟩ : ∃ z, z = decide (us = turn bs) := ⟨_, rfl⟩
  have Hv := Lib.hid (show TW us bs = (x && !y && !z) by unfold TW; rw [hv, hv2, hx, hy, hz]; rfl)
  have HV := Lib.hid hv
  have HV2 := Lib.hid hv2
  have Hx := Lib.hid hx
  have Hy := Lib.hid hy
  have Hz := Lib.hid hz
  clear hv hv2 hx hy hz hl hl2 hp2 hn hn2
  go_enter Try.func24, Try.ntmps24
  go_wp2_with fail
  refine (ValidPoints_any A n c us w _ hr).mono ?_
  rintro e w1 ⟨rfl, rfl⟩
  rw [HV.out]
  go_wp2_with fail
  refine (ValidPoints_any _ n2 c2 bs w1 _ hr2).mono ?_
  rintro e w2 ⟨rfl, rfl⟩
  rw [HV2.out]
  go_wp2_with fail
  refine (measureP_any A n c us w2 hr hn3 hs).mono ?_
  rintro e w3 ⟨A3, n3, c3, rfl, ho3, hb3⟩
  have o3 := ho3.win
  have s3 := hb3.size
  go_wp2_with fail
  refine (measureP_any _ n2 c2 bs w3 ((hr2.below hb3).more s3) hn3' hs2).mono ?_
  rintro e w4 ⟨A4, n4, c4, rfl, ho4, hb4'⟩
  have hb4 := hb3.trans (hb4'.mono s3)
  have s4 := hb4.size
  have o3 := o3.below hb4' (Nat.le_refl _)
  go_wp2_with fail
  refine (EqualI_any A3 n3 c3 (dsr us) A4 n4 c4 (dsr bs) w4 _ _ o3.rd ho4.rd).mono ?_
  rintro e w5 ⟨rfl, hq5⟩
  rw [← Hx.out]
  have hb5 := hb4.trans (hq5.bel _)
  clear hb4' hb3 hb4 o3 ho3 ho4
  cases x with
  | false =>
    go_wp2_with fail
    go_ret
    rw [Hv.out]
    exact ⟨rfl, hb5⟩
  | true =>
  go_wp2_with fail
  refine (EqualI_any A n c us _ n2 c2 bs w5 _ _ (hr.below hb5) (hr2.below hb5)).mono ?_
  rintro e w6 ⟨rfl, hq6⟩
  rw [← Hy.out]
  have hb6 := hb5.trans (hq6.bel _)
  cases y with
  | true =>
    go_wp2_with fail
    go_ret
    rw [Hv.out]
    exact ⟨rfl, hb6⟩
  | false =>
  go_wp2_with fail
  refine (turned_any b o n2 c2 bs w6 ((hr2.below hb6).more hb6.size) hn1 hn3' hs2).mono ?_
  rintro e w7 h7
  obtain ⟨A7, n7, c7, rfl, ho7, hb7⟩ := retRow_from hb6 h7
  go_wp2_with fail
  refine (EqualI_any A n c us A7 n7 c7 (turn bs) w7 _ _ (hr.below hb7) ho7.rd).mono ?_
  rintro e w8 ⟨rfl, hq8⟩
  rw [← Hz.out]
  have hb8 := hb7.trans (hq8.bel _)
  cases z <;> (go_wp2_with fail; go_ret; rw [Hv.out]; exact ⟨rfl, hb8⟩)
set_option maxRecDepth 8000 in
set_option maxHeartbeats 3200000 in
theorem walkExactAreTwins (A : Option Addr) (n c : Nat) (zs : List Int) (A' : Option Addr) (n' c' : Nat) (zs' : List Int) (w : World) (hr : Rd w w.heap.size A n c (zs.map I)) (hr' : Rd w w.heap.size A' n' c' (zs'.map I)) :
    Calls Try.prog 8 #[.slice A n c, .slice A' n' c'] w (RetVal w (.bool true)) := by
  by_cases hbig : 1048576 < n
  · go_enter Try.func8, Try.ntmps8
    go_wp2_with fail
    go_ret
    exact ⟨rfl, Below.refl _ _⟩
  by_cases hbig' : 1048576 < n'
  · go_enter Try.func8, Try.ntmps8
    go_wp2_with fail
    go_ret
    exact ⟨rfl, Below.refl _ _⟩
  · have hn : n ≤ 1048576 := by omega
    have hn' : n' ≤ 1048576 := by omega
    have hRR : ((TW zs zs') != (TW zs zs')) = false := by simp
    go_enter Try.func8, Try.ntmps8
    go_wp2_with fail
    refine (toIntS_any A n c zs w hr hn).mono ?_
    rintro e w1 ⟨A1, n1, c1, rfl, ho1, hb1⟩
    have s1 := hb1.size
    have o1 := ho1.win
    go_wp2_with fail
    refine (toIntS_any A' n' c' zs' w1 ((hr'.below hb1).more s1) hn').mono ?_
    rintro e w2 ⟨A2, n2, c2, rfl, ho2, hb2⟩
    have B2 : Below w.heap.size w w2 := hb1.trans (hb2.mono s1)
    have s2 := hb2.size
    have o1 := o1.below hb2 (Nat.le_refl _)
    go_wp2_with fail
    refine (specAreTwins_any A1 n1 c1 zs A2 n2 c2 zs' w2 (o1.rd' s2) ho2.rd).mono ?_
    rintro e w3 ⟨rfl, hb3⟩
    have B3 := B2.trans (hb3.mono B2.size)
    clear ho1 ho2 hb1 hb2 o1 B2 s1 s2 hb3
    go_wp2_with fail
    refine (toIntS_any A n c zs w3 ((hr.below B3).more B3.size) hn).mono ?_
    rintro e w4 ⟨A4, n4, c4, rfl, ho4, hb4⟩
    have B4 := B3.trans (hb4.mono B3.size)
    have s4 := hb4.size
    have o4 := ho4.win
    go_wp2_with fail
    refine (toIntS_any A' n' c' zs' w4 ((hr'.below B4).more B4.size) hn').mono ?_
    rintro e w5 ⟨A5, n5, c5, rfl, ho5, hb5⟩
    have B5 := B4.trans (hb5.mono B4.size)
    have s5 := hb5.size
    have o4 := o4.below hb5 (Nat.le_refl _)
    have o5 := ho5.win
    go_wp2_with fail
    refine (AreTwins_any A4 n4 c4 zs A5 n5 c5 zs' w5 (o4.rd' s5) ho5.rd).mono ?_
    rintro e w6 ⟨rfl, hb6⟩
    have B6 := B5.trans (hb6.mono B5.size)
    have s6 := hb6.size
    have o4 := o4.below hb6 s5
    have o5 := o5.below hb6 (Nat.le_refl _)
    clear ho4 ho5 B3 B4 B5 hb4 hb5 hb6
    go_wp2_with fail
    refine (toIntS_any A n c zs w6 ((hr.below B6).more B6.size) hn).mono ?_
    rintro e w7 ⟨A7, n7, c7, rfl, ho7, hb7⟩
    have B7 := B6.trans (hb7.mono B6.size)
    have s7 := hb7.size
    have o4 := o4.below hb7 (by omega)
    have o5 := o5.below hb7 (by omega)
    go_wp2_with fail
    refine (eqIntS_same A4 n4 c4 zs A7 n7 c7 w7 _ _ o4.rd ho7.rd).mono ?_
    rintro e w8 ⟨rfl, hq8⟩
    have B8 := B7.trans (hq8.bel _)
    have o5 := o5.below (hq8.bel w7.heap.size) (by omega)
    have s8 := (hq8.bel w7.heap.size).size
    go_wp2_with fail
    refine (toIntS_any A' n' c' zs' w8 ((hr'.below B8).more B8.size) hn').mono ?_
    rintro e w9 ⟨A9, n9, c9, rfl, ho9, hb9⟩
    have B9 := B8.trans (hb9.mono B8.size)
    have o5 := o5.below hb9 (by omega)
    go_wp2_with fail
    refine (eqIntS_same A5 n5 c5 zs' A9 n9 c9 w9 _ _ o5.rd ho9.rd).mono ?_
    rintro e w10 ⟨rfl, hq10⟩
    have B10 := B9.trans (hq10.bel _)
    go_wp2_with fail
    go_ret
    exact ⟨rfl, B10⟩
end Go.Proofs.Ytopmifidhabobaa
