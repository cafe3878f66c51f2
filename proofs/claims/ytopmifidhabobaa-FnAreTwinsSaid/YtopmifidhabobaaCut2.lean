/-
  Cuts: the reference's hasInt, validCuts, total, ends.
-/
import Derived.Test.YtopmifidhabobaaCut
import Derived.Test.YtopmifidhabobaaAppN
namespace Go.Proofs.Ytopmifidhabobaa
open Go.RowKit
set_option linter.unusedVariables false
set_option linter.unusedSimpArgs false

theorem take_sum {zs : List Int} {k : Nat} {x : Int} (h : zs[k]? = some x) : (zs.take (k + 1)).sum = (zs.take k).sum + x := by
  rw [take_snoc h, List.sum_append, List.sum_cons, List.sum_nil, Int.add_zero]
def S100 (zs : List Int) : Prop := ∀ x ∈ zs, 0 ≤ x ∧ x ≤ 100
theorem S100.sum {zs : List Int} (h : S100 zs) : ∀ k, 0 ≤ (zs.take k).sum ∧ (zs.take k).sum ≤ 100 * (k : Int) := by
  intro k
  induction k with
  | zero => simp
  | succ k ih =>
    cases hx : zs[k]? with
    | none =>
      have hl : zs.length ≤ k := List.getElem?_eq_none_iff.1 hx
      rw [List.take_of_length_le (by omega)] at ih ⊢
      omega
    | some x =>
      rw [take_sum hx]
      have := h x (List.mem_of_getElem? hx)
      omega
theorem pk_S100 {zs : List Int} (h : pk zs = true) : S100 zs := fun x hx => by have := (pk_iff.1 h).2 x hx; omega
set_option maxHeartbeats 800000 in
theorem validCuts_any (A : Option Addr) (n c : Nat) (zs : List Int) (w : World) (B : Nat) (hr : Rd w B A n c (zs.map I)) :
    Calls Try.prog 72 #[.slice A n c] w fun e w' => e = .returned (.bool (pk zs)) ∧ w' = w := by
  have hm := hr.2.2.1
  have hnc := hr.2.1
  have Hn := Lib.hid hr.ilen
  unfold maxLen at hm
  go_enter Try.func72, Try.ntmps72
  go_wp2
  go_loopw [3] (fun i wr => ∃ k : Nat, k ≤ n ∧ i = .int .i64 k ∧ (∀ x ∈ zs.take k, inR x 1 60 = true) ∧ wr = w) (fun i _ => n - (intOf i).toNat)
  case atStart => exact ⟨0, Nat.zero_le _, rfl, by simp, rfl⟩
  case round =>
    obtain ⟨k, hk, rfl, hall, rfl⟩ := hrel
    have Hall := Lib.hid hall
    clear hall
    by_cases hlt : k < n
    · obtain ⟨b, o, y, rfl, hb, hy, hc⟩ := hr.int hlt
      have hlt' : (k : Int) < (n : Int) := by omega
      have Ht := Lib.hid (take_snoc hy)
      have hmem := List.mem_of_getElem? hy
      clear hy
      cases hi : inR y 1 60 with
      | false =>
        have Hi := Lib.hid hi
        have Hv := Lib.hid (show pk zs = false by
          unfold pk
          rw [Bool.and_eq_false_iff]
          right
          rw [List.all_eq_false]
          exact ⟨y, hmem, by rw [hi]; simp⟩)
        clear hi hmem
        go_wp2_with fail
        refine (inRange_q Hi.out).mono ?_
        rintro e w' ⟨rfl, rfl⟩
        go_wp2_with fail
        go_ret
        exact ⟨ret_bool Hv.out.symm, rfl⟩
      | true =>
        have Hi := Lib.hid hi
        clear hi hmem
        go_wp2_with fail
        refine (inRange_q Hi.out).mono ?_
        rintro e w' ⟨rfl, rfl⟩
        go_wp2_with fail
        go_roundw
        case rel =>
          refine ⟨k + 1, by omega, by go_num, fun z hz => ?_, trivial⟩
          rw [Ht.out, List.mem_append, List.mem_singleton] at hz
          rcases hz with hz | rfl
          · exact Hall.out z hz
          · exact Hi.out
        case measure => simp [intOf]; omega
    · obtain rfl : k = n := by omega
      have hlt' : ¬ (k : Int) < (k : Int) := by omega
      have Hv := Lib.hid (show pk zs = inR k 1 5 by
        unfold pk
        rw [show (zs.all fun x => inR x 1 60) = true by
          rw [List.all_eq_true]
          intro z hz
          exact Hall.out z (by rw [List.take_of_length_le (by have := Hn.out; omega)]; exact hz), Bool.and_true, Hn.out])
      go_wp2_with fail
      refine (inRange_any _ _ _ _).mono ?_
      rintro e w' ⟨rfl, rfl⟩
      go_wp2_with fail
      go_ret
      exact ⟨ret_bool Hv.out.symm, rfl⟩
set_option maxHeartbeats 800000 in
theorem total_any (A : Option Addr) (n c : Nat) (zs : List Int) (w : World) (B : Nat) (hr : Rd w B A n c (zs.map I)) (hs : S100 zs) (hn3 : n ≤ 1000) :
    Calls Try.prog 73 #[.slice A n c] w fun e w' => e = .returned (.int .i64 zs.sum) ∧ w' = w := by
  have hm := hr.2.2.1
  have hnc := hr.2.1
  have Hn := Lib.hid hr.ilen
  unfold maxLen at hm
  go_enter Try.func73, Try.ntmps73
  go_wp2
  go_loopw [3, 4] (fun t i wr => ∃ k : Nat, k ≤ n ∧ i = .int .i64 k ∧ t = .int .i64 (zs.take k).sum ∧ wr = w) (fun _ i _ => n - (intOf i).toNat)
  case atStart => exact ⟨0, Nat.zero_le _, rfl, rfl, rfl⟩
  case round =>
    obtain ⟨k, hk, rfl, rfl, rfl⟩ := hrel
    obtain ⟨s1, s2⟩ := hs.sum k
    obtain ⟨t, ht⟩ : ∃ t, t = (zs.take k).sum := ⟨_, rfl⟩
    rw [← ht] at s1 s2 ⊢
    have Ht := Lib.hid ht
    clear ht
    by_cases hlt : k < n
    · obtain ⟨b, o, y, rfl, hb, hy, hc⟩ := hr.int hlt
      have hlt' : (k : Int) < (n : Int) := by omega
      have hy100 := hs y (List.mem_of_getElem? hy)
      have He := Lib.hid (show (zs.take (k + 1)).sum = t + y by rw [take_sum hy, Ht.out])
      have e1 : IntKind.i64.wrap (t + y) = t + y := by rw [IntKind.wrap_i64]; omega
      clear hy
      go_wp2_with fail
      go_roundw
      case rel => exact ⟨k + 1, by omega, by go_num, by rw [He.out], trivial⟩
      case measure => simp [intOf]; omega
    · obtain rfl : k = n := by omega
      have hlt' : ¬ (k : Int) < (k : Int) := by omega
      go_wp2_with fail
      go_ret
      exact ⟨by rw [Ht.out, List.take_of_length_le (by have := Hn.out; omega)]; rfl, rfl⟩
set_option maxRecDepth 8000 in
set_option maxHeartbeats 1600000 in
theorem ends_any (A : Option Addr) (n c : Nat) (zs : List Int) (w : World) (hr : Rd w w.heap.size A n c (zs.map I)) (hs : S100 zs) (hn1 : 1 ≤ n) (hn3 : n ≤ 1000) :
    Calls Try.prog 96 #[.slice A n c] w fun e w' => ∃ g c', e = .returned (.slice (some ⟨g, 0, none⟩) (n - 1) c') ∧ Row w' w.heap.size 3 (some ⟨g, 0, none⟩) (n - 1) c' ((enS zs).map I) ∧ Below w.heap.size w w' := by
  have hm := hr.2.2.1
  have hnc := hr.2.1
  have Hn := Lib.hid hr.ilen
  unfold maxLen at hm
  obtain ⟨i0, hi, hz0, hz1, hz2⟩ := info_parts Try.infoI
  go_enter Try.func96, Try.ntmps96
  go_wp2_with fail
  go_loopw [3, 4, 5] (fun v t i wr => ∃ (k g c' : Nat), k + 1 ≤ n ∧ i = .int .i64 k ∧ t = .int .i64 (zs.take k).sum ∧ v = .slice (some ⟨g, 0, none⟩) k c' ∧ Row wr w.heap.size 3 (some ⟨g, 0, none⟩) k c' ((upto (fun k => (zs.take (k + 1)).sum) k).map I) ∧ Below w.heap.size w wr) (fun _ _ i _ => n - (intOf i).toNat)
  case atStart =>
    refine ⟨0, w.heap.size, 0, by omega, rfl, rfl, rfl, ?_, ?_⟩
    · exact Row.nil_ w 3
    · exact (Below.refl _ _).alloc (Nat.le_refl _) _
  case round =>
    obtain ⟨k, g, c', hk, rfl, rfl, rfl, hown, hbw⟩ := hrel
    obtain ⟨s1, s2⟩ := hs.sum k
    obtain ⟨t, ht⟩ : ∃ t, t = (zs.take k).sum := ⟨_, rfl⟩
    rw [← ht] at s1 s2 ⊢
    have Ht := Lib.hid ht
    clear ht
    have e0 : IntKind.i64.wrap ((k : Int) + 1) = (k : Int) + 1 := by rw [IntKind.wrap_i64]; omega
    by_cases hlt : k + 1 < n
    · obtain ⟨b, o, y, rfl, hb, hy, hc⟩ := (hr.below hbw).int (show k < n by omega)
      have hlt' : (k : Int) + 1 < (n : Int) := by omega
      have hlt2 : (k : Int) < (n : Int) := by omega
      have hy100 := hs y (List.mem_of_getElem? hy)
      have He := Lib.hid (show (zs.take (k + 1)).sum = t + y by rw [take_sum hy, Ht.out])
      have e1 : IntKind.i64.wrap (t + y) = t + y := by rw [IntKind.wrap_i64]; omega
      have hsz := hbw.size
      clear hy
      go_wp2_with (at_builtin; refine wpList_app1 _ rfl _ _ 22 rfl w.heap.size 3 i0 (.int .i64 0) 8 Try.underlying22 hi hz0 hz1 hz2 rfl _ _ _ _ rfl (hown.alloc _) _ (.int .i64 (t + y)) rfl (cell_one_new _ _ _) rfl (by omega) (by omega) (by simp; omega) ?_; intro A2 c2 w2 hown2 hgrow2)
      have hbw2 : Below w.heap.size w w2 := kp_grown (kp_alloc _ hbw (Nat.le_refl _)) (Nat.le_refl _) hgrow2 (row_ge hown)
      clear hgrow2
      obtain ⟨g2, cur2, rfl, _⟩ := hown2.blk (g := 0) (by omega)
      go_wp2_with fail
      go_roundw
      case rel => exact ⟨k + 1, g2, c2, by omega, by go_num, by rw [He.out], rfl, by rw [upto_succ, map_snocI, He.out]; exact hown2, hbw2⟩
      case measure => simp [intOf]; omega
    · obtain rfl : n = k + 1 := by omega
      have hlt' : ¬ (k : Int) + 1 < ((k + 1 : Nat) : Int) := by omega
      have Hend := Lib.hid (show upto (fun k => (zs.take (k + 1)).sum) k = enS zs by unfold enS; rw [Hn.out]; rfl)
      go_wp2_with fail
      go_ret
      rw [Hend.out] at hown
      exact ⟨g, c', rfl, hown, hbw⟩
end Go.Proofs.Ytopmifidhabobaa
