/-
  Contracts of the exact laws' own small functions on lists of numbers: a copy, equal lists, marks that are written and read again.
-/
import Derived.Test.YtopmifidhabobaaArr
import Derived.Deep.QuietTactic
import Derived.BigQuiet
namespace Go.Proofs.Ytopmifidhabobaa
open Go.RowKit
set_option linter.unusedVariables false
set_option linter.unusedSimpArgs false

/-! ### slices in new memory, each in blocks of its own -/
/-- A slice in a block from lo on and below hi, its first cells xs. -/
def OwnW (w : World) (lo hi : Nat) (t : TypeId) (A : Option Addr) (n c : Nat) (xs : List Value) : Prop :=
  xs.length = n ∧ n ≤ c ∧ c ≤ maxLen ∧ (0 < n → ∃ g cur, A = some ⟨g, 0, none⟩ ∧ lo ≤ g ∧ g < hi ∧ w.heap[g]? = some (.cells cur t (0, 0)) ∧ cur.toList.take n = xs)
/-- Only blocks from lo on and below hi may have turned. -/
structure Turn (lo hi : Nat) (w w' : World) : Prop where
  os : w'.os = w.os
  tape : w'.tape = w.tape
  output : w'.output = w.output
  size : w.heap.size ≤ w'.heap.size
  block : ∀ b, b < w.heap.size → (b < lo ∨ hi ≤ b) → w'.heap[b]? = w.heap[b]?
theorem Turn.of_grown {w w' : World} {lo hi : Nat} {row : Option Nat} (h : w.grownBy w' row) (hr : ∀ k, row = some k → lo ≤ k ∧ k < hi) : Turn lo hi w w' :=
  ⟨h.os, h.tape, h.output, h.size, fun b hb hl => h.block b hb (fun e => by have := hr b e.symm; omega)⟩
theorem Turn.bel {w w' : World} {lo hi B : Nat} (h : Turn lo hi w w') (hB : B ≤ lo) (hw : B ≤ w.heap.size) : Below B w w' :=
  ⟨h.os, h.tape, h.output, h.size, fun b hb => h.block b (by omega) (.inl (by omega))⟩
theorem Own.win {w : World} {B : Nat} {t : TypeId} {A : Option Addr} {n c : Nat} {xs : List Value} (h : Own w B t A n c xs) : OwnW w B w.heap.size t A n c xs :=
  ⟨h.1, h.2.1, h.2.2.1, fun hn => by obtain ⟨g, cur, e, hg, hh, ht⟩ := h.2.2.2 hn; exact ⟨g, cur, e, hg, h.block_lt hh, hh, ht⟩⟩
theorem OwnW.below {w w' : World} {lo hi B : Nat} {t : TypeId} {A : Option Addr} {n c : Nat} {xs : List Value} (h : OwnW w lo hi t A n c xs) (hb : Below B w w') (hB : hi ≤ B) : OwnW w' lo hi t A n c xs :=
  ⟨h.1, h.2.1, h.2.2.1, fun hn => by obtain ⟨g, cur, e, hg, hl, hh, ht⟩ := h.2.2.2 hn; exact ⟨g, cur, e, hg, hl, (hb.block g (by omega)).trans hh, ht⟩⟩
theorem OwnW.turn {w w' : World} {lo hi l k : Nat} {t : TypeId} {A : Option Addr} {n c : Nat} {xs : List Value} (h : OwnW w lo hi t A n c xs) (hb : Turn l k w w') (hB : hi ≤ l ∨ k ≤ lo) : OwnW w' lo hi t A n c xs :=
  ⟨h.1, h.2.1, h.2.2.1, fun hn => by obtain ⟨g, cur, e, hg, hl, hh, ht⟩ := h.2.2.2 hn; exact ⟨g, cur, e, hg, hl, (hb.block g (Array.getElem?_eq_some_iff.1 hh).1 (by omega)).trans hh, ht⟩⟩
theorem OwnW.rd {w : World} {lo hi : Nat} {t : TypeId} {A : Option Addr} {n c : Nat} {xs : List Value} (h : OwnW w lo hi t A n c xs) : Rd w hi A n c xs :=
  ⟨h.1, h.2.1, h.2.2.1, fun hn => by
    obtain ⟨g, cur, e, hg, hl, hh, ht⟩ := h.2.2.2 hn
    refine ⟨g, 0, e, hl, fun j u hu => ?_⟩
    rw [Nat.zero_add, cell_of_row w g j cur _ (0, 0) hh]
    rw [← ht, List.getElem?_take] at hu
    split at hu
    · simpa using hu
    · cases hu⟩
theorem OwnW.rd' {w : World} {lo hi : Nat} {t : TypeId} {A : Option Addr} {n c : Nat} {xs : List Value} (h : OwnW w lo hi t A n c xs) (hh : hi ≤ w.heap.size) : Rd w w.heap.size A n c xs := h.rd.more hh
theorem Rd.turn {w w' : World} {B lo hi : Nat} {A : Option Addr} {n c : Nat} {xs : List Value} (h : Rd w B A n c xs) (hb : Turn lo hi w w') (hB : B ≤ lo) (hw : B ≤ w.heap.size) : Rd w' B A n c xs := h.below (hb.bel hB hw)

/-! ### marks -/
def mk (k : Int) (n : Nat) : List Value := (List.range n).map fun i : Nat => Value.int .i64 (k + (i : Int))
theorem mk_succ (k : Int) (n : Nat) : mk k (n + 1) = mk k n ++ [.int .i64 (k + (n : Int))] := by
  unfold mk
  rw [List.range_succ, List.map_append]
  rfl
theorem mk_len (k : Int) (n : Nat) : (mk k n).length = n := by simp [mk]
theorem mk_at (k : Int) (n j : Nat) (h : j < n) : (mk k n)[j]? = some (.int .i64 (k + (j : Int))) := by
  unfold mk
  rw [List.getElem?_map, List.getElem?_range h]
  rfl
theorem mark_step {cur : Array Value} {n j : Nat} {xs : List Value} {k : Int} (h : cur.toList.take n = mk k j ++ xs.drop j) (hx : xs.length = n) (hj : j < n) : (cur.setIfInBounds j (.int .i64 (k + (j : Int)))).toList.take n = mk k (j + 1) ++ xs.drop (j + 1) := by
  rw [Array.toList_setIfInBounds, List.take_set, h, mk_succ, List.append_assoc, List.set_append_right _ _ (by rw [mk_len]; exact Nat.le_refl _), mk_len, Nat.sub_self]
  congr 1
  rw [List.drop_eq_getElem_cons (by omega)]
  rfl
theorem neq_true {x y : Int} (h : x ≠ y) : (x != y) = true := by simpa using h
set_option maxHeartbeats 400000 in
theorem markIntS_any (A : Option Addr) (n c : Nat) (xs : List Int) (k : Int) (w : World) (lo hi : Nat) (ho : OwnW w lo hi 3 A n c (xs.map I)) (hk : 0 ≤ k ∧ k ≤ 1000000000000) (hn9 : n ≤ 1000000000000) :
    Calls Try.prog 20 #[.slice A n c, .int .i64 k] w fun e w' => e = .returned (.int .i64 (k + (n : Int))) ∧ OwnW w' lo hi 3 A n c (mk k n) ∧ Turn lo hi w w' := by
  obtain ⟨hx, hnc, hcm, ho⟩ := ho
  rcases Nat.eq_zero_or_pos n with h0 | h0
  · subst h0
    go_enter Try.func20, Try.ntmps20
    go_wp2
    go_loopw [1, 5] (fun q i wr => q = .int .i64 k ∧ i = .int .i64 0 ∧ wr = w) (fun _ _ _ => 0)
    case atStart => exact ⟨rfl, rfl, rfl⟩
    case round =>
      obtain ⟨rfl, rfl, rfl⟩ := hrel
      go_wp2
      go_ret
      exact ⟨by simp, ⟨rfl, hnc, hcm, fun h => absurd h (by omega)⟩, ⟨rfl, rfl, rfl, Nat.le_refl _, fun _ _ _ => rfl⟩⟩
  · obtain ⟨g, cur, rfl, hlo, hhi, hh, ht⟩ := ho h0
    have Hx := Lib.hid hx
    have Hh := Lib.hid hh
    have Ht := Lib.hid ht
    clear ho hh ht hx
    go_enter Try.func20, Try.ntmps20
    go_wp2
    go_loopw [1, 5] (fun q i wr => ∃ (j : Nat) (cur' : Array Value), j ≤ n ∧ q = .int .i64 (k + (j : Int)) ∧ i = .int .i64 j ∧ wr.heap[g]? = some (.cells cur' 3 (0, 0)) ∧ cur'.toList.take n = mk k j ++ (xs.map I).drop j ∧ w.grownBy wr (some g)) (fun _ i _ => n - (intOf i).toNat)
    case atStart => exact ⟨0, cur, Nat.zero_le _, by simp, rfl, Hh.out, by rw [Ht.out]; rfl, ⟨rfl, rfl, rfl, Nat.le_refl _, fun _ _ _ => rfl⟩⟩
    case round =>
      obtain ⟨j, cur', hj, rfl, rfl, hh', ht', hg'⟩ := hrel
      have Ht' := Lib.hid ht'
      clear ht'
      by_cases hjn : j < n
      · have hjl : j < cur'.size := by
          have h1 := congrArg List.length Ht'.out
          have h2 := Hx.out
          rw [List.length_take, List.length_append, mk_len, List.length_drop, h2] at h1
          have : cur'.toList.length = cur'.size := by simp
          omega
        have hc := cell_of_row wr g j cur' _ (0, 0) hh'
        rw [Array.getElem?_eq_getElem hjl] at hc
        have hf := frozen_of_row wr g j cur' _ hh'
        have hnew := Go.Joins.block_setCell (i := j) hh' (.int .i64 (k + (j : Int)))
        have e1 : IntKind.i64.wrap (k + (j : Int) + 1) = k + ((j + 1 : Nat) : Int) := by rw [IntKind.wrap_i64]; omega
        have hgs := (Array.getElem?_eq_some_iff.1 hh').1
        have Hnew := Lib.hid hnew
        have Hst := Lib.hid (mark_step Ht'.out Hx.out hjn)
        have hb' : (j : Int) < (n : Int) := by omega
        clear hnew hh'
        go_wp2_with fail
        go_roundw
        case rel => exact ⟨j + 1, _, by omega, by congr 1 <;> omega, by go_num, Hnew.out, Hst.out, ⟨hg'.os, hg'.tape, hg'.output, by simpa using hg'.size, fun b hb hne => (heap_setCell_other wr ⟨g, j, none⟩ b _ (fun e => hne (by simp [e]))).trans (hg'.block b hb hne)⟩⟩
        case measure => simp [intOf]; omega
      · obtain rfl : j = n := by omega
        go_wp2
        go_ret
        refine ⟨rfl, ⟨mk_len _ _, hnc, hcm, fun _ => ⟨g, cur', rfl, hlo, hhi, hh', ?_⟩⟩, Turn.of_grown hg' (fun b e => by injection e with e; subst e; exact ⟨hlo, hhi⟩)⟩
        rw [Ht'.out, List.drop_of_length_le (by rw [Hx.out]; exact Nat.le_refl _), List.append_nil]
set_option maxHeartbeats 400000 in
theorem heldIntS_any (A : Option Addr) (n c : Nat) (k : Int) (w : World) (B : Nat) (hr : Rd w B A n c (mk k n)) (hk : 0 ≤ k ∧ k ≤ 1000000000000) (hn9 : n ≤ 1000000000000) :
    Calls Try.prog 33 #[.slice A n c, .int .i64 k] w fun e w' => e = .returned (.int .i64 (k + (n : Int))) ∧ Quiet w w' := by
  have hm := hr.2.2.1
  have hnc := hr.2.1
  unfold maxLen at hm
  go_enter Try.func33, Try.ntmps33
  go_wp2
  go_loopw [1, 5] (fun q i wr => ∃ j : Nat, j ≤ n ∧ q = .int .i64 (k + (j : Int)) ∧ i = .int .i64 j ∧ Quiet w wr) (fun _ i _ => n - (intOf i).toNat)
  case atStart => exact ⟨0, Nat.zero_le _, by simp, rfl, Quiet.refl _⟩
  case round =>
    obtain ⟨j, hj, rfl, rfl, hq⟩ := hrel
    by_cases hjn : j < n
    · obtain ⟨b, o, rfl, hb, hcc⟩ := (hq.rd hr).2.2.2 (by omega)
      have hc := hcc j _ (mk_at k n j hjn)
      have e1 : IntKind.i64.wrap (k + (j : Int) + 1) = k + (j : Int) + 1 := by rw [IntKind.wrap_i64]; omega
      have e2 : ((k + (j : Int)) != (k + (j : Int))) = false := by simp
      have hb' : (j : Int) < (n : Int) := by omega
      clear hcc
      go_wp2_with fail
      go_roundw
      case rel => exact ⟨j + 1, by omega, by congr 1 <;> omega, by go_num, hq⟩
      case measure => simp [intOf]; omega
    · obtain rfl : j = n := by omega
      go_wp2
      go_ret
      exact ⟨rfl, hq⟩
theorem ne_atI {us bs : List Int} {k : Nat} {x y : Int} (hx : us[k]? = some x) (hy : bs[k]? = some y) (h : x ≠ y) : us ≠ bs := by
  rintro rfl
  rw [hx] at hy
  injection hy with hy
  exact h hy
theorem take_eq_succI {us bs : List Int} {k : Nat} {x : Int} (hx : us[k]? = some x) (hy : bs[k]? = some x) (h : us.take k = bs.take k) : us.take (k + 1) = bs.take (k + 1) := by
  obtain ⟨h1, rfl⟩ := List.getElem?_eq_some_iff.1 hx
  obtain ⟨h2, h3⟩ := List.getElem?_eq_some_iff.1 hy
  rw [List.take_succ_eq_append_getElem h1, List.take_succ_eq_append_getElem h2, h, h3]
set_option maxHeartbeats 400000 in
theorem eqIntS_any (A : Option Addr) (n c : Nat) (us : List Int) (A2 : Option Addr) (n2 c2 : Nat) (bs : List Int) (w : World) (B B2 : Nat) (hr : Rd w B A n c (us.map I)) (hr2 : Rd w B2 A2 n2 c2 (bs.map I)) :
    Calls Try.prog 19 #[.slice A n c, .slice A2 n2 c2] w fun e w' => e = .returned (.bool (decide (us = bs))) ∧ Quiet w w' := by
  have hm := hr.2.2.1
  have hnc := hr.2.1
  have hm2 := hr2.2.2.1
  have hnc2 := hr2.2.1
  have Hn := Lib.hid hr.ilen
  have Hn2 := Lib.hid hr2.ilen
  unfold maxLen at hm hm2
  by_cases hnn : n = n2
  · subst hnn
    go_enter Try.func19, Try.ntmps19
    go_wp2
    go_loopw [5] (fun i wr => ∃ k : Nat, k ≤ n ∧ i = .int .i64 k ∧ us.take k = bs.take k ∧ Quiet w wr) (fun i _ => n - (intOf i).toNat)
    case atStart => exact ⟨0, Nat.zero_le _, rfl, rfl, Quiet.refl _⟩
    case round =>
      obtain ⟨k, hk, rfl, he, hq⟩ := hrel
      have He := Lib.hid he
      clear he
      by_cases hlt : k < n
      · obtain ⟨b, o, x, rfl, hb, hx, hc⟩ := (hq.rd hr).int hlt
        obtain ⟨b2, o2, y, rfl, hb2, hy, hc2⟩ := (hq.rd hr2).int hlt
        have Hx := Lib.hid hx
        have Hy := Lib.hid hy
        clear hx hy
        have hlt' : (k : Int) < (n : Int) := by omega
        by_cases hxy : x = y
        · subst hxy
          go_wp2_with fail
          go_quiet (fail)
          go_wp2
          go_roundw
          case rel => exact ⟨k + 1, by omega, by go_num, take_eq_succI Hx.out Hy.out He.out, hq.drewN _⟩
          case measure => simp [intOf]; omega
        · have hxy' : (x == y) = false := by simpa using hxy
          have hxy2 : (x != y) = true := by simpa using hxy
          have Hv := Lib.hid (show decide (us = bs) = false by simpa using ne_atI Hx.out Hy.out hxy)
          clear hxy
          go_wp2_with fail
          go_quiet (fail)
          go_wp2
          go_ret
          exact ⟨ret_bool (Hv.out).symm, hq.drewN _⟩
      · have Hv := Lib.hid (show decide (us = bs) = true by
          have h := He.out
          have h1 := Hn.out
          have h2 := Hn2.out
          rw [List.take_of_length_le (by omega), List.take_of_length_le (by omega)] at h
          simpa using h)
        go_wp2
        go_ret
        exact ⟨ret_bool (Hv.out).symm, hq⟩
  · have Hv := Lib.hid (show decide (us = bs) = false by
      have h1 := Hn.out
      have h2 := Hn2.out
      rw [decide_eq_false_iff_not]
      rintro rfl
      omega)
    have hne : ((n : Int) != (n2 : Int)) = true := by simp; omega
    clear hnn
    go_enter Try.func19, Try.ntmps19
    go_wp2
    go_ret
    exact ⟨ret_bool (Hv.out).symm, Quiet.refl _⟩
set_option maxHeartbeats 400000 in
theorem equalInts_any (A : Option Addr) (n c : Nat) (us : List Int) (A2 : Option Addr) (n2 c2 : Nat) (bs : List Int) (w : World) (B B2 : Nat) (hr : Rd w B A n c (us.map I)) (hr2 : Rd w B2 A2 n2 c2 (bs.map I)) :
    Calls Try.prog 28 #[.slice A n c, .slice A2 n2 c2] w fun e w' => e = .returned (.bool (decide (us = bs))) ∧ Quiet w w' := by
  have hm := hr.2.2.1
  have hnc := hr.2.1
  have hm2 := hr2.2.2.1
  have hnc2 := hr2.2.1
  have Hn := Lib.hid hr.ilen
  have Hn2 := Lib.hid hr2.ilen
  unfold maxLen at hm hm2
  by_cases hnn : n = n2
  · subst hnn
    go_enter Try.func28, Try.ntmps28
    go_wp2
    go_loopw [5] (fun i wr => ∃ k : Nat, k ≤ n ∧ i = .int .i64 k ∧ us.take k = bs.take k ∧ Quiet w wr) (fun i _ => n - (intOf i).toNat)
    case atStart => exact ⟨0, Nat.zero_le _, rfl, rfl, Quiet.refl _⟩
    case round =>
      obtain ⟨k, hk, rfl, he, hq⟩ := hrel
      have He := Lib.hid he
      clear he
      by_cases hlt : k < n
      · obtain ⟨b, o, x, rfl, hb, hx, hc⟩ := (hq.rd hr).int hlt
        obtain ⟨b2, o2, y, rfl, hb2, hy, hc2⟩ := (hq.rd hr2).int hlt
        have Hx := Lib.hid hx
        have Hy := Lib.hid hy
        clear hx hy
        have hlt' : (k : Int) < (n : Int) := by omega
        by_cases hxy : x = y
        · subst hxy
          go_wp2_with fail
          go_quiet (fail)
          go_wp2
          go_roundw
          case rel => exact ⟨k + 1, by omega, by go_num, take_eq_succI Hx.out Hy.out He.out, hq.drewN _⟩
          case measure => simp [intOf]; omega
        · have hxy' : (x == y) = false := by simpa using hxy
          have hxy2 : (x != y) = true := by simpa using hxy
          have Hv := Lib.hid (show decide (us = bs) = false by simpa using ne_atI Hx.out Hy.out hxy)
          clear hxy
          go_wp2_with fail
          go_quiet (fail)
          go_wp2
          go_ret
          exact ⟨ret_bool (Hv.out).symm, hq.drewN _⟩
      · have Hv := Lib.hid (show decide (us = bs) = true by
          have h := He.out
          have h1 := Hn.out
          have h2 := Hn2.out
          rw [List.take_of_length_le (by omega), List.take_of_length_le (by omega)] at h
          simpa using h)
        go_wp2
        go_ret
        exact ⟨ret_bool (Hv.out).symm, hq⟩
  · have Hv := Lib.hid (show decide (us = bs) = false by
      have h1 := Hn.out
      have h2 := Hn2.out
      rw [decide_eq_false_iff_not]
      rintro rfl
      omega)
    have hne : ((n : Int) != (n2 : Int)) = true := by simp; omega
    clear hnn
    go_enter Try.func28, Try.ntmps28
    go_wp2
    go_ret
    exact ⟨ret_bool (Hv.out).symm, Quiet.refl _⟩
set_option maxHeartbeats 400000 in
theorem sameInts_any (A : Option Addr) (n c : Nat) (us : List Int) (A2 : Option Addr) (n2 c2 : Nat) (bs : List Int) (w : World) (B B2 : Nat) (hr : Rd w B A n c (us.map I)) (hr2 : Rd w B2 A2 n2 c2 (bs.map I)) :
    Calls Try.prog 67 #[.slice A n c, .slice A2 n2 c2] w fun e w' => e = .returned (.bool (decide (us = bs))) ∧ Quiet w w' := by
  have hm := hr.2.2.1
  have hnc := hr.2.1
  have hm2 := hr2.2.2.1
  have hnc2 := hr2.2.1
  have Hn := Lib.hid hr.ilen
  have Hn2 := Lib.hid hr2.ilen
  unfold maxLen at hm hm2
  by_cases hnn : n = n2
  · subst hnn
    go_enter Try.func67, Try.ntmps67
    go_wp2
    go_loopw [5] (fun i wr => ∃ k : Nat, k ≤ n ∧ i = .int .i64 k ∧ us.take k = bs.take k ∧ Quiet w wr) (fun i _ => n - (intOf i).toNat)
    case atStart => exact ⟨0, Nat.zero_le _, rfl, rfl, Quiet.refl _⟩
    case round =>
      obtain ⟨k, hk, rfl, he, hq⟩ := hrel
      have He := Lib.hid he
      clear he
      by_cases hlt : k < n
      · obtain ⟨b, o, x, rfl, hb, hx, hc⟩ := (hq.rd hr).int hlt
        obtain ⟨b2, o2, y, rfl, hb2, hy, hc2⟩ := (hq.rd hr2).int hlt
        have Hx := Lib.hid hx
        have Hy := Lib.hid hy
        clear hx hy
        have hlt' : (k : Int) < (n : Int) := by omega
        by_cases hxy : x = y
        · subst hxy
          go_wp2_with fail
          go_quiet (fail)
          go_wp2
          go_roundw
          case rel => exact ⟨k + 1, by omega, by go_num, take_eq_succI Hx.out Hy.out He.out, hq.drewN _⟩
          case measure => simp [intOf]; omega
        · have hxy' : (x == y) = false := by simpa using hxy
          have hxy2 : (x != y) = true := by simpa using hxy
          have Hv := Lib.hid (show decide (us = bs) = false by simpa using ne_atI Hx.out Hy.out hxy)
          clear hxy
          go_wp2_with fail
          go_quiet (fail)
          go_wp2
          go_ret
          exact ⟨ret_bool (Hv.out).symm, hq.drewN _⟩
      · have Hv := Lib.hid (show decide (us = bs) = true by
          have h := He.out
          have h1 := Hn.out
          have h2 := Hn2.out
          rw [List.take_of_length_le (by omega), List.take_of_length_le (by omega)] at h
          simpa using h)
        go_wp2
        go_ret
        exact ⟨ret_bool (Hv.out).symm, hq⟩
  · have Hv := Lib.hid (show decide (us = bs) = false by
      have h1 := Hn.out
      have h2 := Hn2.out
      rw [decide_eq_false_iff_not]
      rintro rfl
      omega)
    have hne : ((n : Int) != (n2 : Int)) = true := by simp; omega
    clear hnn
    go_enter Try.func67, Try.ntmps67
    go_wp2
    go_ret
    exact ⟨ret_bool (Hv.out).symm, Quiet.refl _⟩
theorem eqIntS_same (A : Option Addr) (n c : Nat) (us : List Int) (A2 : Option Addr) (n2 c2 : Nat) (w : World) (B B2 : Nat) (hr : Rd w B A n c (us.map I)) (hr2 : Rd w B2 A2 n2 c2 (us.map I)) :
    Calls Try.prog 19 #[.slice A n c, .slice A2 n2 c2] w fun e w' => e = .returned (.bool true) ∧ Quiet w w' :=
  (eqIntS_any A n c us A2 n2 c2 us w B B2 hr hr2).mono fun _ _ ⟨h1, h2⟩ => ⟨h1.trans (ret_bool (by simp)), h2⟩
set_option maxHeartbeats 400000 in
theorem toIntS_any (A : Option Addr) (n c : Nat) (zs : List Int) (w : World) (hr : Rd w w.heap.size A n c (zs.map I)) (hn20 : n ≤ 1048576) :
    Calls Try.prog 16 #[.slice A n c] w (RetRow w 3 (zs.map I)) := by
  have hm := hr.2.2.1
  have hnc := hr.2.1
  have Hn := Lib.hid hr.ilen
  unfold maxLen at hm
  obtain ⟨i0, hi, hi2⟩ : ∃ i, Try.prog.info? 3 = some i ∧ (i.zero = some (.int .i64 0) ∧ i.size = 1 ∧ i.bytes = 8) := by
    have := Try.infoI
    cases h : Try.prog.info? 3 with
    | none => rw [h] at this; cases this
    | some i => rw [h] at this; simp at this; exact ⟨i, rfl, this⟩
  go_enter Try.func16, Try.ntmps16
  go_wp2_with (at_make; refine wpList_make_full _ rfl _ _ _ rfl w.heap.size 3 i0 (.int .i64 0) 1 Try.underlying22 hi hi2.1 hi2.2.1 .i64 .i64 _ _ n rfl rfl (by simp) (by simp) (by rw [hi2.2.2]; omega) (by unfold maxLen; omega) (Nat.le_refl _) ?_; intro w2 hrow2 hgr2; rw [ints_made] at hrow2)
  have hb2 : Below w.heap.size w w2 := (Below.refl _ w).grown hgr2 (Nat.le_refl _) (by intro k hk; cases hk)
  rcases Nat.eq_zero_or_pos n with h0 | h0
  · subst h0
    have hz : zs = [] := List.eq_nil_of_length_eq_zero Hn.out
    subst hz
    go_loopw [4] (fun i wr => i = .int .i64 0 ∧ wr = w2) (fun _ _ => 0)
    case atStart => exact ⟨rfl, rfl⟩
    case round =>
      obtain ⟨rfl, rfl⟩ := hrel
      go_wp2
      go_ret
      exact ⟨_, _, _, rfl, ⟨rfl, Nat.le_refl _, by unfold maxLen; omega, fun h => absurd h (by omega)⟩, hb2⟩
  · have ha0 := Arr.of_full hrow2 h0
    obtain ⟨g, hg⟩ : ∃ g, g = w.heap.size := ⟨_, rfl⟩
    rw [← hg] at ha0 hb2 ⊢
    have Hg := Lib.hid hg
    clear hrow2 hgr2 hg
    go_loopw [4] (fun i wr => ∃ (j : Nat) (xs : List Int), j ≤ n ∧ i = .int .i64 j ∧ xs.length = n ∧ xs.take j = zs.take j ∧ Arr wr g 3 (xs.map I) ∧ Below g w wr) (fun i _ => n - (intOf i).toNat)
    case atStart => exact ⟨0, _, Nat.zero_le _, rfl, List.length_replicate, rfl, ha0, hb2⟩
    case round =>
      obtain ⟨j, xs, hj, rfl, hxl, hxt, ha, hb⟩ := hrel
      have Hxt := Lib.hid hxt
      clear hxt
      by_cases hjn : j < n
      · obtain ⟨b, o, x, rfl, hbb, hx, hc⟩ := (hr.below' hb (by rw [Hg.out]; exact Nat.le_refl _)).int hjn
        obtain ⟨y, hy⟩ : ∃ y, xs[j]? = some y := ⟨_, List.getElem?_eq_getElem (by omega)⟩
        have hcy := ha.cell (ints_at hy)
        have hfy := ha.frozen j
        have hb' : (j : Int) < (n : Int) := by omega
        have Hst := Lib.hid (show (xs.set j x).take (j + 1) = zs.take (j + 1) by
          obtain ⟨h1, rfl⟩ := List.getElem?_eq_some_iff.1 hx
          rw [List.take_succ_eq_append_getElem (by simp; omega), List.take_succ_eq_append_getElem h1, List.take_set_of_le (by omega), Hxt.out, List.getElem_set_self])
        clear hx hy
        go_wp2_with fail
        go_roundw
        case rel =>
          refine ⟨j + 1, xs.set j x, by omega, by go_num, by simpa using hxl, Hst.out, ?_, hb.setCell (Nat.le_refl _) _⟩
          have := ha.set j (.int .i64 x)
          rw [ints_set] at this
          exact this
        case measure => simp [intOf]; omega
      · obtain rfl : j = n := by omega
        have Hz := Lib.hid (show xs = zs by
          have h := Hxt.out
          have h1 := Hn.out
          rwa [List.take_of_length_le (by omega), List.take_of_length_le (by omega)] at h)
        go_wp2
        go_ret
        refine ⟨_, _, _, rfl, ⟨by simpa using Hn.out, Nat.le_refl _, by unfold maxLen; omega, fun _ => ⟨g, (zs.map I).toArray, rfl, by rw [Hg.out]; exact Nat.le_refl _, ?_, ?_⟩⟩, by rw [Hg.out] at hb; exact hb⟩
        · have := ha
          rw [Hz.out] at this
          exact this
        · rw [List.take_of_length_le]
          simp
          have := Hn.out
          omega
end Go.Proofs.Ytopmifidhabobaa
