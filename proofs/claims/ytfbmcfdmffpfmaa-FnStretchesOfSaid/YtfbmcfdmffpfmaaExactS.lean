/-
  Contracts of the exact laws' own small functions on lists of texts: a copy, equal lists, the sizes.
-/
import Derived.Test.YtfbmcfdmffpfmaaWords
import Derived.Test.YtfbmcfdmffpfmaaArr
namespace Go.Proofs.Ytfbmcfdmffpfmaa
open Go.RowKit
set_option linter.unusedVariables false
set_option linter.unusedSimpArgs false

theorem texts_at {xs : List (List UInt8)} {i : Nat} {x : List UInt8} (h : xs[i]? = some x) : (xs.map S)[i]? = some (.string ⟨x.toArray⟩) := by
  rw [List.getElem?_map, h]
  rfl
theorem texts_set (xs : List (List UInt8)) (i : Nat) (x : List UInt8) : (xs.map S).set i (.string ⟨x.toArray⟩) = (xs.set i x).map S := by
  rw [List.map_set]
  rfl
theorem texts_made (n : Nat) : (madeCells (Value.string ⟨#[]⟩).cells (n * 1)).toList = (List.replicate n ([] : List UInt8)).map S := by
  rw [Nat.mul_one, show (Value.string ⟨#[]⟩).cells = #[Value.string ⟨#[]⟩] from rfl, toList_madeCells_one, List.map_replicate]
  rfl
theorem ne_atS {us bs : List (List UInt8)} {k : Nat} {x y : List UInt8} (hx : us[k]? = some x) (hy : bs[k]? = some y) (h : x ≠ y) : us ≠ bs := by
  rintro rfl
  rw [hx] at hy
  injection hy with hy
  exact h hy
theorem take_eq_succS {us bs : List (List UInt8)} {k : Nat} {x : List UInt8} (hx : us[k]? = some x) (hy : bs[k]? = some x) (h : us.take k = bs.take k) : us.take (k + 1) = bs.take (k + 1) := by
  obtain ⟨h1, rfl⟩ := List.getElem?_eq_some_iff.1 hx
  obtain ⟨h2, h3⟩ := List.getElem?_eq_some_iff.1 hy
  rw [List.take_succ_eq_append_getElem h1, List.take_succ_eq_append_getElem h2, h, h3]
set_option maxHeartbeats 400000 in
theorem eqStringS_any (A : Option Addr) (n c : Nat) (us : List (List UInt8)) (A2 : Option Addr) (n2 c2 : Nat) (bs : List (List UInt8)) (w : World) (B B2 : Nat) (hr : Rd w B A n c (us.map S)) (hr2 : Rd w B2 A2 n2 c2 (bs.map S)) :
    Calls Try.prog 24 #[.slice A n c, .slice A2 n2 c2] w fun e w' => e = .returned (.bool (decide (us = bs))) ∧ Quiet w w' := by
  have hm := hr.2.2.1
  have hnc := hr.2.1
  have hm2 := hr2.2.2.1
  have hnc2 := hr2.2.1
  have Hn := Lib.hid hr.slen
  have Hn2 := Lib.hid hr2.slen
  unfold maxLen at hm hm2
  by_cases hnn : n = n2
  · subst hnn
    go_enter Try.func24, Try.ntmps24
    go_wp2
    go_loopw [5] (fun i wr => ∃ k : Nat, k ≤ n ∧ i = .int .i64 k ∧ us.take k = bs.take k ∧ Quiet w wr) (fun i _ => n - (intOf i).toNat)
    case atStart => exact ⟨0, Nat.zero_le _, rfl, rfl, Quiet.refl _⟩
    case round =>
      obtain ⟨k, hk, rfl, he, hq⟩ := hrel
      have He := Lib.hid he
      clear he
      by_cases hlt : k < n
      · obtain ⟨b, o, x, rfl, hb, hx, hc⟩ := (hq.rd hr).str hlt
        obtain ⟨b2, o2, y, rfl, hb2, hy, hc2⟩ := (hq.rd hr2).str hlt
        have Hx := Lib.hid hx
        have Hy := Lib.hid hy
        clear hx hy
        have hlt' : (k : Int) < (n : Int) := by omega
        by_cases hxy : x = y
        · subst hxy
          go_wp2_with fail
          go_quiet (fail)
          go_wp2
          go_roundw
          case rel => exact ⟨k + 1, by omega, by go_num, take_eq_succS Hx.out Hy.out He.out, hq.drewN _⟩
          case measure => simp [intOf]; omega
        · have hxy' : (x == y) = false := by simpa using hxy
          have hxy2 : (x != y) = true := by simpa using hxy
          have Hv := Lib.hid (show decide (us = bs) = false by simpa using ne_atS Hx.out Hy.out hxy)
          clear hxy
          go_wp2_with fail
          go_quiet (fail)
          go_wp2
          go_ret
          exact ⟨ret_bool (Hv.out).symm, hq.drewN _⟩
      · have Hv := Lib.hid (show decide (us = bs) = true by
          have h := He.out
          have h1 := Hn.out
          have h2 := Hn2.out
          rw [List.take_of_length_le (by omega), List.take_of_length_le (by omega)] at h
          simpa using h)
        go_wp2
        go_ret
        exact ⟨ret_bool (Hv.out).symm, hq⟩
  · have Hv := Lib.hid (show decide (us = bs) = false by
      have h1 := Hn.out
      have h2 := Hn2.out
      rw [decide_eq_false_iff_not]
      rintro rfl
      omega)
    have hne : ((n : Int) != (n2 : Int)) = true := by simp; omega
    clear hnn
    go_enter Try.func24, Try.ntmps24
    go_wp2
    go_ret
    exact ⟨ret_bool (Hv.out).symm, Quiet.refl _⟩
set_option maxHeartbeats 400000 in
theorem toStringS_any (A : Option Addr) (n c : Nat) (zs : List (List UInt8)) (w : World) (hr : Rd w w.heap.size A n c (zs.map S)) (hn20 : n ≤ 1048576) :
    Calls Try.prog 43 #[.slice A n c] w (RetRow w 9 (zs.map S)) := by
  have hm := hr.2.2.1
  have hnc := hr.2.1
  have Hn := Lib.hid hr.slen
  unfold maxLen at hm
  obtain ⟨i0, hi, hi2⟩ : ∃ i, Try.prog.info? 9 = some i ∧ (i.zero = some (.string ⟨#[]⟩) ∧ i.size = 1 ∧ i.bytes = 16) := by
    have := Try.infoS
    cases h : Try.prog.info? 9 with
    | none => rw [h] at this; cases this
    | some i => rw [h] at this; simp at this; exact ⟨i, rfl, this⟩
  go_enter Try.func43, Try.ntmps43
  go_wp2_with (at_make; refine wpList_make_full _ rfl _ _ _ rfl w.heap.size 9 i0 (.string ⟨#[]⟩) 1 Try.underlying24 hi hi2.1 hi2.2.1 .i64 .i64 _ _ n rfl rfl (by simp) (by simp) (by rw [hi2.2.2]; omega) (by unfold maxLen; omega) (Nat.le_refl _) ?_; intro w2 hrow2 hgr2; rw [texts_made] at hrow2)
  have hb2 : Below w.heap.size w w2 := (Below.refl _ w).grown hgr2 (Nat.le_refl _) (by intro k hk; cases hk)
  rcases Nat.eq_zero_or_pos n with h0 | h0
  · subst h0
    have hz : zs = [] := List.eq_nil_of_length_eq_zero Hn.out
    subst hz
    go_loopw [4] (fun i wr => i = .int .i64 0 ∧ wr = w2) (fun _ _ => 0)
    case atStart => exact ⟨rfl, rfl⟩
    case round =>
      obtain ⟨rfl, rfl⟩ := hrel
      go_wp2
      go_ret
      exact ⟨_, _, _, rfl, ⟨rfl, Nat.le_refl _, by unfold maxLen; omega, fun h => absurd h (by omega)⟩, hb2⟩
  · have ha0 := Arr.of_full hrow2 h0
    obtain ⟨g, hg⟩ : ∃ g, g = w.heap.size := ⟨_, rfl⟩
    rw [← hg] at ha0 hb2 ⊢
    have Hg := Lib.hid hg
    clear hrow2 hgr2 hg
    go_loopw [4] (fun i wr => ∃ (j : Nat) (xs : List (List UInt8)), j ≤ n ∧ i = .int .i64 j ∧ xs.length = n ∧ xs.take j = zs.take j ∧ Arr wr g 9 (xs.map S) ∧ Below g w wr) (fun i _ => n - (intOf i).toNat)
    case atStart => exact ⟨0, _, Nat.zero_le _, rfl, List.length_replicate, rfl, ha0, hb2⟩
    case round =>
      obtain ⟨j, xs, hj, rfl, hxl, hxt, ha, hb⟩ := hrel
      have Hxt := Lib.hid hxt
      clear hxt
      by_cases hjn : j < n
      · obtain ⟨b, o, x, rfl, hbb, hx, hc⟩ := (hr.below' hb (by rw [Hg.out]; exact Nat.le_refl _)).str hjn
        obtain ⟨y, hy⟩ : ∃ y, xs[j]? = some y := ⟨_, List.getElem?_eq_getElem (by omega)⟩
        have hcy := ha.cell (texts_at hy)
        have hfy := ha.frozen j
        have hb' : (j : Int) < (n : Int) := by omega
        have Hst := Lib.hid (show (xs.set j x).take (j + 1) = zs.take (j + 1) by
          obtain ⟨h1, rfl⟩ := List.getElem?_eq_some_iff.1 hx
          rw [List.take_succ_eq_append_getElem (by simp; omega), List.take_succ_eq_append_getElem h1, List.take_set_of_le (by omega), Hxt.out, List.getElem_set_self])
        clear hx hy
        go_wp2_with fail
        go_roundw
        case rel =>
          refine ⟨j + 1, xs.set j x, by omega, by go_num, by simpa using hxl, Hst.out, ?_, hb.setCell (Nat.le_refl _) _⟩
          have := ha.set j (.string ⟨x.toArray⟩)
          rw [texts_set] at this
          exact this
        case measure => simp [intOf]; omega
      · obtain rfl : j = n := by omega
        have Hz := Lib.hid (show xs = zs by
          have h := Hxt.out
          have h1 := Hn.out
          rwa [List.take_of_length_le (by omega), List.take_of_length_le (by omega)] at h)
        go_wp2
        go_ret
        refine ⟨_, _, _, rfl, ⟨by simpa using Hn.out, Nat.le_refl _, by unfold maxLen; omega, fun _ => ⟨g, (zs.map S).toArray, rfl, by rw [Hg.out]; exact Nat.le_refl _, ?_, ?_⟩⟩, by rw [Hg.out] at hb; exact hb⟩
        · have := ha
          rw [Hz.out] at this
          exact this
        · rw [List.take_of_length_le]
          simp
          have := Hn.out
          omega
set_option maxHeartbeats 800000 in
/-- The sizes: where what is left is not below zero the list and its texts are small. -/
theorem szStringS_any (A : Option Addr) (n c : Nat) (ws : List (List UInt8)) (w : World) (B : Nat) (hr : Rd w B A n c (ws.map S)) (hl : ∀ x ∈ ws, x.length ≤ 9223372036854775807) :
    Calls Try.prog 41 #[.slice A n c, .int .i64 1048576] w fun e w' => ∃ r : Int, e = .returned (.int .i64 r) ∧ (0 ≤ r → n ≤ 1048576 ∧ ∀ x ∈ ws, x.length ≤ 1048576) ∧ w = w' := by
  have hm := hr.2.2.1
  have hnc := hr.2.1
  have Hn := Lib.hid hr.slen
  unfold maxLen at hm
  by_cases hbig : 1048576 < n
  · go_enter Try.func41, Try.ntmps41
    go_wp2
    go_ret
    exact ⟨-1, rfl, fun h => absurd h (by omega), rfl⟩
  · go_enter Try.func41, Try.ntmps41
    go_wp2
    go_loopw [1, 5] (fun v i wr => ∃ (k : Nat) (r : Int), k ≤ n ∧ i = .int .i64 k ∧ v = .int .i64 r ∧ 0 ≤ r ∧ r ≤ 1048576 ∧ (∀ x ∈ ws.take k, x.length ≤ 1048576) ∧ wr = w) (fun _ i _ => n - (intOf i).toNat)
    case atStart => exact ⟨0, _, Nat.zero_le _, rfl, rfl, by omega, by omega, by simp, rfl⟩
    case round =>
      obtain ⟨k, r, hk, rfl, rfl, hr0, hr1, hall, rfl⟩ := hrel
      have Hall := Lib.hid hall
      clear hall
      by_cases hlt : k < n
      · obtain ⟨b, o, x, rfl, hb, hx, hc⟩ := hr.str hlt
        have hxl := hl x (List.mem_of_getElem? hx)
        have hlt' : (k : Int) < (n : Int) := by omega
        have Hx := Lib.hid hx
        clear hx
        by_cases hxr : (x.length : Int) ≤ r
        · go_wp2
          go_roundw
          case rel =>
            refine ⟨k + 1, _, by omega, by go_num, rfl, by omega, by omega, fun y hy => ?_, trivial⟩
            obtain ⟨h1, h2⟩ := List.getElem?_eq_some_iff.1 Hx.out
            rw [List.take_succ_eq_append_getElem h1, h2, List.mem_append, List.mem_singleton] at hy
            rcases hy with hy | rfl
            · exact Hall.out y hy
            · omega
          case measure => simp [intOf]; omega
        · go_wp2
          go_ret
          exact ⟨-1, rfl, fun h => absurd h (by omega), rfl⟩
      · obtain rfl : k = n := by omega
        have hlt' : ¬ (k : Int) < (k : Int) := by omega
        go_wp2
        go_ret
        refine ⟨r, rfl, fun _ => ⟨by omega, fun x hx => Hall.out x ?_⟩, rfl⟩
        rwa [List.take_of_length_le (by have := Hn.out; omega)]
end Go.Proofs.Ytfbmcfdmffpfmaa
