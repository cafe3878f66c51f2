/-
  The distances of points: DistancesOf, of the reference and of the program.
-/
import Derived.Test.YtopmifidhabobaaDist2
namespace Go.Proofs.Ytopmifidhabobaa
open Go.RowKit
set_option linter.unusedVariables false
set_option linter.unusedSimpArgs false

theorem retRow_none (w w' : World) (t : TypeId) (h : Below w.heap.size w w') : RetRow w t [] (.returned (.slice none 0 0)) w' :=
  ⟨none, 0, 0, rfl, ⟨rfl, Nat.le_refl _, by unfold maxLen; omega, fun h => absurd h (by omega)⟩, h⟩
theorem retRow_from {w w1 w2 : World} {t : TypeId} {xs : List Value} {e : Ending} (hb : Below w.heap.size w w1) (h : RetRow w1 t xs e w2) : RetRow w t xs e w2 := by
  obtain ⟨A, n, c, rfl, ho, hb2⟩ := h
  exact ⟨A, n, c, rfl, ho.more hb.size, hb.trans (hb2.mono hb.size)⟩
def DO (zs : List Int) : List Int := if vp zs then dsr zs else []
theorem vp_small {zs : List Int} (h : vp zs = true) : Small zs := (vp_iff zs).1 h |>.2.2.1
theorem vp_len {zs : List Int} (h : vp zs = true) : zs.length ≤ 6 := (vp_iff zs).1 h |>.1
theorem specDistancesOf_any (A : Option Addr) (n c : Nat) (zs : List Int) (w : World) (hr : Rd w w.heap.size A n c (zs.map I)) :
    Calls Try.prog 32 #[.slice A n c] w (RetRow w 3 ((DO zs).map I)) := by
  cases hv : vp zs with
  | false =>
    have Hv := Lib.hid (show DO zs = [] by unfold DO; rw [hv]; rfl)
    have HV := Lib.hid hv
    clear hv
    go_enter Try.func32, Try.ntmps32
    go_wp2_with fail
    refine (validPoints_any A n c zs w _ hr).mono ?_
    rintro e w1 ⟨rfl, hq⟩
    rw [HV.out]
    go_wp2_with fail
    go_ret
    rw [Hv.out]
    exact retRow_none _ _ _ (hq.bel _)
  | true =>
    have hs := vp_small hv
    have hl := vp_len hv
    have hn := hr.ilen
    have hn3 : n ≤ 1000 := by omega
    have Hv := Lib.hid (show DO zs = dsr zs by unfold DO; rw [hv]; rfl)
    have HV := Lib.hid hv
    clear hv
    go_enter Try.func32, Try.ntmps32
    go_wp2_with fail
    refine (validPoints_any A n c zs w _ hr).mono ?_
    rintro e w1 ⟨rfl, hq⟩
    rw [HV.out]
    go_wp2_with fail
    refine (distances_any A n c zs w1 ((hr.below (hq.bel _)).more (hq.bel w.heap.size).size) hn3 hs).mono ?_
    rintro e w2 h2
    obtain ⟨A2, n2, c2, rfl, ho, hb⟩ := retRow_from (hq.bel _) h2
    go_wp2_with fail
    go_ret
    rw [Hv.out]
    exact ⟨_, _, _, rfl, ho, hb⟩
theorem ta_points (v : Value) (w : World) : (Instr.typeAssert (.iface 60 v) 76 60 true).run Try.prog w = .ok (.tuple #[v, .bool true]) w := by
  unfold Instr.typeAssert
  simp [go_sem, Try.underlying60]
theorem ta_cut (v : Value) (w : World) : (Instr.typeAssert (.iface 77 v) 76 77 true).run Try.prog w = .ok (.tuple #[v, .bool true]) w := by
  unfold Instr.typeAssert
  simp [go_sem, Try.underlying77]
theorem ta_cut_points (v : Value) (w : World) : (Instr.typeAssert (.iface 77 v) 76 60 true).run Try.prog w = .ok (.tuple #[.slice none 0 0, .bool false]) w := by
  unfold Instr.typeAssert
  simp [go_sem, Try.underlying60]
set_option maxRecDepth 8000 in
set_option maxHeartbeats 1600000 in
theorem measureP_any (A : Option Addr) (n c : Nat) (zs : List Int) (w : World) (hr : Rd w w.heap.size A n c (zs.map I)) (hn3 : n ≤ 1000) (hs : Small zs) :
    Calls Try.prog 65 #[.iface 60 (.slice A n c)] w (RetRow w 3 ((dsr zs).map I)) := by
  have hm := hr.2.2.1
  have hnc := hr.2.1
  have Hn := Lib.hid hr.ilen
  unfold maxLen at hm
  obtain ⟨i0, hi, hz0, hz1, hz2⟩ := info_parts Try.infoI
  have hta := ta_points (.slice A n c)
  go_enter Try.func65, Try.ntmps65
  go_wp2
  go_loopw [3, 18] (fun v i wr => ∃ (i' : Nat) (A' : Option Addr) (n' c' : Nat), i' ≤ n ∧ i = .int .i64 i' ∧ v = .slice A' n' c' ∧ Row wr w.heap.size 3 A' n' c' ((dTo zs i').map I) ∧ Below w.heap.size w wr) (fun _ i _ => n - (intOf i).toNat)
  case atStart =>
    refine ⟨0, some ⟨w.heap.size, 0, none⟩, 0, 0, Nat.zero_le _, rfl, rfl, ?_, ?_⟩
    · exact Row.nil_ w 3
    · exact (Below.refl _ _).alloc (Nat.le_refl _) _
  case round =>
    obtain ⟨i, A', n', c', hi', rfl, rfl, hown, hbw⟩ := hrel
    by_cases hin : i < n
    · obtain ⟨b, o, x, rfl, hb, hx, hc⟩ := (hr.below hbw).int hin
      have hx60 := hs.at_ hx
      have Hx := Lib.hid hx
      clear hx
      have hin' : (i : Int) < (n : Int) := by omega
      have i0' : (0 : Int) ≤ (i : Int) := by omega
      have hic : (i : Int) ≤ (c : Int) := by omega
      go_wp2_with fail
      go_loopw [3, 27] (fun v j wr => ∃ (j' : Nat) (A' : Option Addr) (n' c' : Nat), j' ≤ i ∧ j = .int .i64 j' ∧ v = .slice A' n' c' ∧ Row wr w.heap.size 3 A' n' c' ((dTo zs i ++ dRow zs i j').map I) ∧ Below w.heap.size w wr) (fun _ j _ => i - (intOf j).toNat)
      case atStart => exact ⟨0, _, _, _, Nat.zero_le _, rfl, rfl, by simpa [dRow] using hown, hbw⟩
      case round =>
        obtain ⟨j, A', n', c', hj, rfl, rfl, hown, hbw⟩ := hrel
        by_cases hji : j < i
        · obtain ⟨y, hy, hcy⟩ := (hr.below hbw).int_at (show j < n by omega)
          have hy60 := hs.at_ hy
          have Hst := Lib.hid (show (dTo zs i ++ dRow zs i (j + 1)).map I = (dTo zs i ++ dRow zs i j).map I ++ [.int .i64 (x - y)] by rw [dRow_at Hx.out hy, ← List.append_assoc, map_snocI])
          clear hy hc
          have hlen := hown.len
          have hl1 := dTo_len_le zs i (by have := Hn.out; omega)
          have hl2 := dRow_len_le zs i j
          have hl3 := sq_le (i := i) (by omega)
          have hn' : n' ≤ 2000000 := by
            simp at hlen
            omega
          clear hlen hl1 hl2 hl3
          have hji' : (j : Int) < (i : Int) := by omega
          have j0' : (0 : Int) ≤ (j : Int) := by omega
          have hjn' : (j : Int) < (n : Int) := by omega
          have hsz := hbw.size
          have e1 : IntKind.i64.wrap (x - y) = x - y := by rw [IntKind.wrap_i64]; omega
          go_wp2_with (at_builtin; refine wpList_app1 _ rfl _ _ 22 rfl w.heap.size 3 i0 (.int .i64 0) 8 Try.underlying22 hi hz0 hz1 hz2 rfl _ _ _ _ rfl (hown.alloc _) _ (.int .i64 (x - y)) rfl (cell_one_new _ _ _) rfl (by omega) (by omega) (by simp; omega) ?_; intro A2 c2 w2 hown2 hgrow2)
          have hbw2 : Below w.heap.size w w2 := kp_grown (kp_alloc _ hbw (Nat.le_refl _)) (Nat.le_refl _) hgrow2 (row_ge hown)
          clear hgrow2
          go_wp2_with fail
          go_roundw
          case rel => exact ⟨j + 1, A2, n' + 1, c2, by omega, by go_num, rfl, by rw [Hst.out]; exact hown2, hbw2⟩
          case measure => simp [intOf]; omega
        · have hji' : ¬ (j : Int) < (i : Int) := by omega
          obtain rfl : j = i := by omega
          clear hc
          go_wp2_with fail
          go_roundw
          case rel => exact ⟨j + 1, A', n', c', by omega, by go_num, rfl, hown, hbw⟩
          case measure => simp [intOf]; omega
    · have hin' : ¬ (i : Int) < (n : Int) := by omega
      obtain rfl : i = n := by omega
      have hlen := hown.len
      have hl1 := dTo_len_le zs i (by have := Hn.out; omega)
      have hl3 := sq_le hn3
      have hn' : n' ≤ 1000000 := by
        simp at hlen
        omega
      clear hlen hl1 hl3
      have hsz := hbw.size
      go_wp2_with fail
      refine (SortI_any w.heap.size A' n' c' (dTo zs i) wr hown (by omega)).mono ?_
      rintro e w2 ⟨rfl, hown2, hg2⟩
      have hbw2 : Below w.heap.size w w2 := kp_grown hbw (Nat.le_refl _) hg2 (row_ge hown)
      go_wp2_with fail
      refine (ClipI_any A' n' c' hown2.rd.2.1 w2).mono ?_
      rintro e w3 ⟨rfl, rfl⟩
      go_wp2_with fail
      go_ret
      refine ⟨A', n', n', rfl, ?_, hbw2⟩
      have := hown2.own.clip
      unfold dsr dst
      rw [Hn.out]
      exact this
theorem DistancesOf_any (A : Option Addr) (n c : Nat) (zs : List Int) (w : World) (hr : Rd w w.heap.size A n c (zs.map I)) :
    Calls Try.prog 27 #[.slice A n c] w (RetRow w 3 ((DO zs).map I)) := by
  cases hv : vp zs with
  | false =>
    have Hv := Lib.hid (show DO zs = [] by unfold DO; rw [hv]; rfl)
    have HV := Lib.hid hv
    clear hv
    go_enter Try.func27, Try.ntmps27
    go_wp2_with fail
    refine (ValidPoints_any A n c zs w _ hr).mono ?_
    rintro e w1 ⟨rfl, rfl⟩
    rw [HV.out]
    go_wp2_with fail
    go_ret
    rw [Hv.out]
    exact retRow_none _ _ _ (Below.refl _ _)
  | true =>
    have hs := vp_small hv
    have hl := vp_len hv
    have hn := hr.ilen
    have hn3 : n ≤ 1000 := by omega
    have Hv := Lib.hid (show DO zs = dsr zs by unfold DO; rw [hv]; rfl)
    have HV := Lib.hid hv
    clear hv
    go_enter Try.func27, Try.ntmps27
    go_wp2_with fail
    refine (ValidPoints_any A n c zs w _ hr).mono ?_
    rintro e w1 ⟨rfl, rfl⟩
    rw [HV.out]
    go_wp2_with fail
    refine (measureP_any A n c zs w1 hr hn3 hs).mono ?_
    rintro e w2 ⟨A2, n2, c2, rfl, ho, hb⟩
    go_wp2_with fail
    go_ret
    rw [Hv.out]
    exact ⟨_, _, _, rfl, ho, hb⟩
end Go.Proofs.Ytopmifidhabobaa
