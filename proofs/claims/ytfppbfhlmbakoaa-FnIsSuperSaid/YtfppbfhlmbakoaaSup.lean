/-
  Overlaps, the least of things, texts compared: the small functions of shortest texts.
-/
import Derived.Test.YtfppbfhlmbakoaaWords
import Derived.Test.YtfppbfhlmbakoaaOrdS
import Derived.Test.YtfppbfhlmbakoaaOrders
namespace Go.Proofs.Ytfppbfhlmbakoaa
open Go.RowKit
set_option linter.unusedVariables false
set_option linter.unusedSimpArgs false

theorem ovl_small (a b : List UInt8) : (ovl a b : Int) ≤ b.length := by have := ovl_le_right a b; omega
theorem ovF_step (a b : List UInt8) (k : Nat) : ovF a b (k + 1) = if a.drop (a.length - (k + 1)) = b.take (k + 1) then k + 1 else ovF a b k := rfl
theorem take_rest (a : List UInt8) (j : Nat) : (a.drop j).take (a.length - j) = a.drop j := by rw [List.take_of_length_le (by simp)]
set_option maxHeartbeats 1600000 in
theorem specOverlap_any (a b : List UInt8) (w : World) (ha : a.length ≤ 100000) (hb : b.length ≤ 100000) :
    Calls Try.prog 62 #[.string ⟨a.toArray⟩, .string ⟨b.toArray⟩] w fun e w' => e = .returned (.int .i64 (ovl a b : Nat)) ∧ Quiet w w' := by
  go_enter Try.func62, Try.ntmps62
  go_wp2
  go_loopw [5] (fun i wr => ∃ z : Int, i = .int .i64 z ∧ -1 ≤ z ∧ z < a.length ∧ z < b.length ∧ ovF a b z.toNat = ovl a b ∧ Quiet w wr) (fun i _ => (intOf i + 1).toNat)
  case atStart =>
    refine ⟨_, rfl, by omega, by omega, by omega, ?_, Quiet.refl _⟩
    unfold ovl
    congr 1
    omega
  case round =>
    obtain ⟨z, rfl, hz1, hza, hzb, hov, hq⟩ := hrel
    have Hov := Lib.hid hov
    clear hov
    by_cases h0 : 0 < z
    · obtain ⟨k, rfl⟩ : ∃ k : Nat, z = (k : Int) + 1 := ⟨(z - 1).toNat, by omega⟩
      have hk : ((k : Int) + 1).toNat = k + 1 := by omega
      by_cases he : a.drop (a.length - (k + 1)) = b.take (k + 1)
      · have ht : (List.take (a.length - (a.length - (k + 1))) (List.drop (a.length - (k + 1)) a) == List.take (k + 1) b) = true := by rw [take_rest, he]; simp
        have Hv := Lib.hid (show k + 1 = ovl a b by have := Hov.out; rw [hk, ovF_step, if_pos he] at this; exact this)
        clear he hk
        go_wp2_with fail
        go_quiet (fail)
        go_wp2_with fail
        go_ret
        exact ⟨by rw [← Hv.out]; rfl, hq.drewN _⟩
      · have ht : (List.take (a.length - (a.length - (k + 1))) (List.drop (a.length - (k + 1)) a) == List.take (k + 1) b) = false := by rw [take_rest]; simpa using he
        have Hv := Lib.hid (show ovF a b k = ovl a b by have := Hov.out; rw [hk, ovF_step, if_neg he] at this; exact this)
        clear he hk
        go_wp2_with fail
        go_quiet (fail)
        go_wp2_with fail
        go_roundw
        case rel => exact ⟨(k : Int), by go_num, by omega, by omega, by omega, Hv.out, hq.drewN _⟩
        case measure => simp [intOf]; omega
    · have Hv := Lib.hid (show ovl a b = 0 by have := Hov.out; rw [show z.toNat = 0 by omega] at this; exact this.symm)
      have h0' : ¬ z > 0 := h0
      go_wp2_with fail
      go_ret
      exact ⟨by rw [Hv.out]; rfl, hq⟩
theorem suffix_iff (a b : List UInt8) (k : Nat) (hk : k < b.length) (ha : k < a.length) : Lib.hasSuffix a (b.take (k + 1)) = decide (a.drop (a.length - (k + 1)) = b.take (k + 1)) := by
  unfold Lib.hasSuffix
  rw [Bool.eq_iff_iff, List.isSuffixOf_iff_suffix, decide_eq_true_eq]
  have hl : (b.take (k + 1)).length = k + 1 := by rw [List.length_take]; omega
  constructor
  · intro h
    rw [List.suffix_iff_eq_drop, hl] at h
    exact h.symm
  · intro h
    rw [← h]
    exact List.drop_suffix _ _
theorem HasSuffix_any (s p : List UInt8) (w : World) (hs : s.length ≤ 100000000) :
    Calls Try.prog 75 #[.string ⟨s.toArray⟩, .string ⟨p.toArray⟩] w fun e w' => e = .returned (.bool (Lib.hasSuffix s p)) ∧ w = w' := by
  refine (Try.strings_HasSuffix ⟨s.toArray⟩ ⟨p.toArray⟩ w (by show s.length ≤ _; omega)).mono ?_
  rintro e w' ⟨h1, h2⟩
  exact ⟨by rw [h1], h2.symm⟩
set_option maxHeartbeats 1600000 in
theorem overlap_any (a b : List UInt8) (w : World) (ha : a.length ≤ 100000) (hb : b.length ≤ 100000) :
    Calls Try.prog 44 #[.string ⟨a.toArray⟩, .string ⟨b.toArray⟩] w fun e w' => e = .returned (.int .i64 (ovl a b : Nat)) ∧ w = w' := by
  go_enter Try.func44, Try.ntmps44
  go_wp2
  go_loopw [5] (fun i wr => ∃ z : Int, i = .int .i64 z ∧ -1 ≤ z ∧ z < a.length ∧ z < b.length ∧ ovF a b z.toNat = ovl a b ∧ wr = w) (fun i _ => (intOf i + 1).toNat)
  case atStart =>
    refine ⟨_, rfl, by omega, by omega, by omega, ?_, rfl⟩
    unfold ovl
    congr 1
    omega
  case round =>
    obtain ⟨z, rfl, hz1, hza, hzb, hov, rfl⟩ := hrel
    have Hov := Lib.hid hov
    clear hov
    by_cases h0 : 0 < z
    · obtain ⟨k, rfl⟩ : ∃ k : Nat, z = (k : Int) + 1 := ⟨(z - 1).toNat, by omega⟩
      have hk : ((k : Int) + 1).toNat = k + 1 := by omega
      have hC := HasSuffix_any a (b.take (k + 1)) wr (by omega)
      rw [suffix_iff a b k (by omega) (by omega)] at hC
      by_cases he : a.drop (a.length - (k + 1)) = b.take (k + 1)
      · have Hv := Lib.hid (show k + 1 = ovl a b by have := Hov.out; rw [hk, ovF_step, if_pos he] at this; exact this)
        rw [decide_eq_true he] at hC
        clear he hk
        go_wp2_with (go_at_call 75; refine hC.mono ?_; rintro e w' ⟨rfl, rfl⟩)
        go_ret
        exact ⟨by rw [← Hv.out]; rfl, rfl⟩
      · have Hv := Lib.hid (show ovF a b k = ovl a b by have := Hov.out; rw [hk, ovF_step, if_neg he] at this; exact this)
        rw [decide_eq_false he] at hC
        clear he hk
        go_wp2_with (go_at_call 75; refine hC.mono ?_; rintro e w' ⟨rfl, rfl⟩)
        go_roundw
        case rel => exact ⟨(k : Int), by go_num, by omega, by omega, by omega, Hv.out, trivial⟩
        case measure => simp [intOf]; omega
    · have Hv := Lib.hid (show ovl a b = 0 by have := Hov.out; rw [show z.toNat = 0 by omega] at this; exact this.symm)
      have h0' : ¬ z > 0 := h0
      go_wp2_with fail
      go_ret
      exact ⟨by rw [Hv.out]; rfl, rfl⟩
theorem joined_any (a b : List UInt8) (w : World) (ha : a.length ≤ 100000) (hb : b.length ≤ 100000) :
    Calls Try.prog 48 #[.string ⟨a.toArray⟩, .string ⟨b.toArray⟩] w fun e w' => e = .returned (.string ⟨(mrg a b).toArray⟩) ∧ w = w' := by
  have hO := overlap_any a b w ha hb
  obtain ⟨k, hk⟩ : ∃ k, k = ovl a b := ⟨_, rfl⟩
  have hk2 : k ≤ b.length := by rw [hk]; exact ovl_le_right a b
  rw [← hk] at hO
  have Hk := Lib.hid hk
  clear hk
  go_enter Try.func48, Try.ntmps48
  go_wp2_with (go_at_call 44; refine hO.mono ?_; rintro e w' ⟨rfl, rfl⟩)
  go_ret
  exact ⟨ret_str (by unfold mrg; rw [← Hk.out, take_rest]), rfl⟩
theorem Compare_lt (x y : Int) (w : World) : Calls Try.prog 66 #[.int .i64 x, .int .i64 y] w fun e w' => ∃ r : Int, e = .returned (.int .i64 r) ∧ decide (r < 0) = decide (x < y) ∧ (r = 0 ↔ x = y) ∧ w' = w := by
  refine (Try.cmp_Compare_int x y w).mono ?_
  rintro e w' ⟨rfl, rfl⟩
  refine ⟨_, rfl, ?_, ?_, rfl⟩
  · unfold Lib.compareInt
    split
    · next h => simp [h]
    · next h => split <;> simp [h]
  · unfold Lib.compareInt
    split
    · next h => simp; omega
    · next h => split <;> simp <;> omega
def BestI (w : World) (R : Nat) (o : Option Int) : Prop := w.heap[R]? = some (.cells #[.bool o.isSome, .int .i64 (o.getD 0)] 63 (0, 0))
theorem gr_trans {a b c : World} {row : Option Nat} (h : a.grownBy b row) (k : b.grownBy c row) : a.grownBy c row :=
  ⟨k.os.trans h.os, k.tape.trans h.tape, k.output.trans h.output, Nat.le_trans h.size k.size, fun x hx hne => (k.block x (Nat.lt_of_lt_of_le hx h.size) hne).trans (h.block x hx hne)⟩
theorem gr_refl (a : World) (row : Option Nat) : a.grownBy a row := ⟨rfl, rfl, rfl, Nat.le_refl _, fun _ _ _ => rfl⟩
theorem grown_set2 (w : World) (b i : Nat) (v : Value) : w.grownBy (w.setCell ⟨b, i, none⟩ v) (some b) := by
  refine ⟨rfl, rfl, rfl, by show w.heap.size ≤ (w.heap.modify _ _).size; rw [Array.size_modify]; exact Nat.le_refl _, fun k hk hne => ?_⟩
  exact Below.heap_setCell _ _ _ _ (fun e => hne (by rw [e]))
set_option maxHeartbeats 1600000 in
theorem offerI_any (R : Nat) (o : Option Int) (x : Int) (w : World) (hB : BestI w R o) :
    Calls Try.prog 65 #[.pointer (some ⟨R, 0, none⟩), .int .i64 x, .func (.func 66) #[] #[]] w fun e w' => e = .returned (.tuple #[]) ∧ BestI w' R (keepI o x) ∧ w.grownBy w' (some R) := by
  have ec := enters_of Try.func66 (by kernel_rfl) rfl
  unfold BestI at hB
  have HB := Lib.hid hB
  have c0 := cell_of_row w R 0 _ _ (0, 0) hB
  have c1 := cell_of_row w R 1 _ _ (0, 0) hB
  have f0 := frozen_of_row w R 0 _ _ hB
  have f1 := frozen_of_row w R 1 _ _ hB
  clear hB
  have hfin : ∀ m, BestI ((w.setCell ⟨R, 0, none⟩ (.bool true)).setCell ⟨R, 1, none⟩ (.int .i64 m)) R (some m) := fun m => by
    have h1 := Go.Joins.block_setCell (i := 0) HB.out (.bool true)
    have h2 := Go.Joins.block_setCell (i := 1) h1 (.int .i64 m)
    unfold BestI
    rw [h2]
    simp
  have Hfin := Lib.hid hfin
  clear hfin
  cases o with
  | none =>
    have c0' : w.cell? ⟨R, 0, none⟩ = some (.bool false) := by rw [c0]; rfl
    have c1' : w.cell? ⟨R, 1, none⟩ = some (.int .i64 0) := by rw [c1]; rfl
    clear c0 c1
    go_enter Try.func65, Try.ntmps65
    go_wp2_with fail
    go_end0
    exact ⟨rfl, Hfin.out x, gr_trans (grown_set2 _ _ _ _) (grown_set2 _ _ _ _)⟩
  | some m =>
    have c0' : w.cell? ⟨R, 0, none⟩ = some (.bool true) := by rw [c0]; rfl
    have c1' : w.cell? ⟨R, 1, none⟩ = some (.int .i64 m) := by rw [c1]; rfl
    clear c0 c1
    have hC := Compare_lt x m w
    by_cases hlt : x < m
    · rw [decide_eq_true hlt] at hC
      have Hk := Lib.hid (show keepI (some m) x = some x by simp [keepI, hlt])
      clear hlt
      go_enter Try.func65, Try.ntmps65
      go_wp2_with fail
      refine hC.mono ?_
      rintro e w' ⟨r, rfl, hd, _, rfl⟩
      have hr0 : r < 0 := by simpa using hd
      clear hd hC
      go_wp2_with fail
      go_end0
      exact ⟨rfl, by rw [Hk.out]; exact Hfin.out x, gr_trans (grown_set2 _ _ _ _) (grown_set2 _ _ _ _)⟩
    · rw [decide_eq_false hlt] at hC
      have Hk := Lib.hid (show keepI (some m) x = some m by simp [keepI, hlt])
      clear hlt
      go_enter Try.func65, Try.ntmps65
      go_wp2_with fail
      refine hC.mono ?_
      rintro e w' ⟨r, rfl, hd, _, rfl⟩
      have hr0 : ¬ r < 0 := by simpa using hd
      clear hd hC
      go_wp2_with fail
      go_end0
      exact ⟨rfl, by rw [Hk.out]; exact HB.out, gr_refl _ _⟩
end Go.Proofs.Ytfppbfhlmbakoaa
