/-
  Cuts: the reference's CutBoth; the program's endsOf, piecesOk.
-/
import Derived.Test.YtopmifidhabobaaCut3
namespace Go.Proofs.Ytopmifidhabobaa
open Go.RowKit
set_option linter.unusedVariables false
set_option linter.unusedSimpArgs false

set_option maxRecDepth 8000 in
set_option maxHeartbeats 1600000 in
theorem specCutBoth_any (A : Option Addr) (n c : Nat) (us : List Int) (A2 : Option Addr) (n2 c2 : Nat) (bs : List Int) (w : World) (hr : Rd w w.heap.size A n c (us.map I)) (hr2 : Rd w w.heap.size A2 n2 c2 (bs.map I)) :
    Calls Try.prog 39 #[.slice A n c, .slice A2 n2 c2] w (RetRow w 3 ((CO us bs).map I)) := by
  cases ha : pk us with
  | false =>
    have Ha := Lib.hid ha
    have Hv := Lib.hid (show CO us bs = [] by unfold CO okP; rw [ha]; rfl)
    clear ha
    go_enter Try.func39, Try.ntmps39
    go_wp2_with fail
    refine (validCuts_any A n c us w _ hr).mono ?_
    rintro e w1 ⟨rfl, rfl⟩
    rw [Ha.out]
    go_wp2_with fail
    go_ret
    rw [Hv.out]
    exact retRow_none _ _ _ (Below.refl _ _)
  | true =>
  cases hb : pk bs with
  | false =>
    have Ha := Lib.hid ha
    have Hb := Lib.hid hb
    have Hv := Lib.hid (show CO us bs = [] by unfold CO okP; rw [ha, hb]; rfl)
    clear ha hb
    go_enter Try.func39, Try.ntmps39
    go_wp2_with fail
    refine (validCuts_any A n c us w _ hr).mono ?_
    rintro e w1 ⟨rfl, rfl⟩
    rw [Ha.out]
    go_wp2_with fail
    refine (validCuts_any A2 n2 c2 bs w1 _ hr2).mono ?_
    rintro e w2 ⟨rfl, rfl⟩
    rw [Hb.out]
    go_wp2_with fail
    go_ret
    rw [Hv.out]
    exact retRow_none _ _ _ (Below.refl _ _)
  | true =>
  have Ha := Lib.hid ha
  have Hb := Lib.hid hb
  have hs1 := pk_S100 ha
  have hs2 := pk_S100 hb
  have hl1 := (pk_bounds ha).1
  have hl2 := (pk_bounds hb).1
  rw [hr.ilen] at hl1
  rw [hr2.ilen] at hl2
  obtain ⟨s, hs⟩ : ∃ s, s = us.sum := ⟨_, rfl⟩
  obtain ⟨t, ht⟩ : ∃ t, t = bs.sum := ⟨_, rfl⟩
  have Hs := Lib.hid hs
  have Ht := Lib.hid ht
  by_cases hst : s = t
  · have Hok := Lib.hid (okP_iff.2 ⟨ha, hb, by rw [← hs, ← ht, hst]⟩)
    have Hv := Lib.hid (show CO us bs = CB us bs by unfold CO; rw [Hok.out]; rfl)
    have hne : (s != t) = false := by simp [hst]
    clear ha hb hs ht hst
    go_enter Try.func39, Try.ntmps39
    go_wp2_with fail
    refine (validCuts_any A n c us w _ hr).mono ?_
    rintro e w1 ⟨rfl, rfl⟩
    rw [Ha.out]
    go_wp2_with fail
    refine (validCuts_any A2 n2 c2 bs w1 _ hr2).mono ?_
    rintro e w2 ⟨rfl, rfl⟩
    rw [Hb.out]
    go_wp2_with fail
    refine (total_any A n c us w2 _ hr hs1 (by omega)).mono ?_
    rintro e w3 ⟨rfl, rfl⟩
    rw [← Hs.out]
    go_wp2_with fail
    refine (total_any A2 n2 c2 bs w3 _ hr2 hs2 (by omega)).mono ?_
    rintro e w4 ⟨rfl, rfl⟩
    rw [← Ht.out]
    go_wp2_with fail
    refine (specCutBoth0_any A n c us A2 n2 c2 bs w4 hr hr2 Hok.out).mono ?_
    rintro e w5 ⟨A5, n5, c5, rfl, ho5, hb5⟩
    go_wp2_with fail
    go_ret
    rw [Hv.out]
    exact ⟨_, _, _, rfl, ho5, hb5⟩
  · have Hv := Lib.hid (show CO us bs = [] by unfold CO okP; rw [← hs, ← ht]; simp [hst])
    have hne : (s != t) = true := by simp [hst]
    clear ha hb hs ht hst
    go_enter Try.func39, Try.ntmps39
    go_wp2_with fail
    refine (validCuts_any A n c us w _ hr).mono ?_
    rintro e w1 ⟨rfl, rfl⟩
    rw [Ha.out]
    go_wp2_with fail
    refine (validCuts_any A2 n2 c2 bs w1 _ hr2).mono ?_
    rintro e w2 ⟨rfl, rfl⟩
    rw [Hb.out]
    go_wp2_with fail
    refine (total_any A n c us w2 _ hr hs1 (by omega)).mono ?_
    rintro e w3 ⟨rfl, rfl⟩
    rw [← Hs.out]
    go_wp2_with fail
    refine (total_any A2 n2 c2 bs w3 _ hr2 hs2 (by omega)).mono ?_
    rintro e w4 ⟨rfl, rfl⟩
    rw [← Ht.out]
    go_wp2_with fail
    go_ret
    rw [Hv.out]
    exact retRow_none _ _ _ (Below.refl _ _)
set_option maxRecDepth 8000 in
set_option maxHeartbeats 1600000 in
theorem endsOf_any (A : Option Addr) (n c : Nat) (zs : List Int) (w : World) (hr : Rd w w.heap.size A n c (zs.map I)) (hs : S100 zs) (hn3 : n ≤ 1000) :
    Calls Try.prog 99 #[.slice A n c] w fun e w' => ∃ g c', e = .returned (.slice (some ⟨g, 0, none⟩) (n + 1) c') ∧ Row w' w.heap.size 3 (some ⟨g, 0, none⟩) (n + 1) c' ((enF zs).map I) ∧ Below w.heap.size w w' := by
  have hm := hr.2.2.1
  have hnc := hr.2.1
  have Hn := Lib.hid hr.ilen
  unfold maxLen at hm
  obtain ⟨i0, hi, hz0, hz1, hz2⟩ := info_parts Try.infoI
  have hrow0 : Row (w.alloc (.cells #[.int .i64 0] 3)) w.heap.size 3 (some ⟨w.heap.size, 0, none⟩) 1 1 [.int .i64 0] := Row.of_block #[.int .i64 0] 1 (heap_al0 w _) (Nat.le_refl _) rfl (by omega)
  go_enter Try.func99, Try.ntmps99
  go_wp2_with fail
  go_loopw [3, 9] (fun v i wr => ∃ (k g c' : Nat), k ≤ n ∧ i = .int .i64 k ∧ v = .slice (some ⟨g, 0, none⟩) (k + 1) c' ∧ Row wr w.heap.size 3 (some ⟨g, 0, none⟩) (k + 1) c' ((upto (fun k => (zs.take k).sum) (k + 1)).map I) ∧ Below w.heap.size w wr) (fun _ i _ => n - (intOf i).toNat)
  case atStart =>
    refine ⟨0, w.heap.size, 1, Nat.zero_le _, rfl, rfl, hrow0, ?_⟩
    exact (Below.refl _ _).alloc (Nat.le_refl _) _
  case round =>
    obtain ⟨k, g, c', hk, rfl, rfl, hown, hbw⟩ := hrel
    obtain ⟨s1, s2⟩ := hs.sum k
    obtain ⟨t, ht⟩ : ∃ t, t = (zs.take k).sum := ⟨_, rfl⟩
    rw [← ht] at s1 s2
    have Ht := Lib.hid ht
    have hcg : wr.cell? ⟨g, 0 + k, none⟩ = some (.int .i64 t) := by
      obtain ⟨x, hx, hc⟩ := hown.rd.int_at (show k < k + 1 by omega)
      have : (upto (fun k => (zs.take k).sum) (k + 1))[k]? = some t := by rw [ht]; simp [upto]
      rw [this] at hx
      injection hx with hx
      rw [hx]
      exact hc
    clear ht
    by_cases hlt : k < n
    · obtain ⟨b, o, y, rfl, hb, hy, hc⟩ := (hr.below hbw).int hlt
      have hlt' : (k : Int) < (n : Int) := by omega
      have hlt2 : (k : Int) < (k : Int) + 1 := by omega
      have k0 : (0 : Int) ≤ (k : Int) := by omega
      have hy100 := hs y (List.mem_of_getElem? hy)
      have He := Lib.hid (show (zs.take (k + 1)).sum = t + y by rw [take_sum hy, Ht.out])
      have e1 : IntKind.i64.wrap (t + y) = t + y := by rw [IntKind.wrap_i64]; omega
      have hsz := hbw.size
      rw [Nat.zero_add] at hcg
      clear hy
      go_wp2_with (at_builtin; refine wpList_app1 _ rfl _ _ 22 rfl w.heap.size 3 i0 (.int .i64 0) 8 Try.underlying22 hi hz0 hz1 hz2 rfl _ _ _ _ rfl (hown.alloc _) _ (.int .i64 (t + y)) rfl (cell_one_new _ _ _) rfl (by omega) (by omega) (by simp; omega) ?_; intro A2 c2 w2 hown2 hgrow2)
      have hbw2 : Below w.heap.size w w2 := kp_grown (kp_alloc _ hbw (Nat.le_refl _)) (Nat.le_refl _) hgrow2 (row_ge hown)
      clear hgrow2
      obtain ⟨g2, cur2, rfl, _⟩ := hown2.blk (g := 0) (by omega)
      go_wp2_with fail
      go_roundw
      case rel => exact ⟨k + 1, g2, c2, by omega, by go_num, rfl, by rw [upto_succ, map_snocI, He.out]; exact hown2, hbw2⟩
      case measure => simp [intOf]; omega
    · obtain rfl : n = k := by omega
      have hlt' : ¬ (n : Int) < (n : Int) := by omega
      have Hend := Lib.hid (show upto (fun k => (zs.take k).sum) (n + 1) = enF zs by unfold enF; rw [Hn.out])
      go_wp2_with fail
      go_ret
      rw [Hend.out] at hown
      exact ⟨g, c', rfl, hown, hbw⟩
set_option maxRecDepth 8000 in
set_option maxHeartbeats 1600000 in
/-- The first at which a test of its own holds, wherever the test is a function that leaves all as it was. -/
theorem IndexFuncI_any (f : Nat) (p : Int → Bool) (he : ∀ args w, (callFunc f args).run Try.prog w = .ok (.enter f args) w) (hf : ∀ x w, Calls Try.prog f #[.int .i64 x] w fun e w' => e = .returned (.bool (p x)) ∧ w' = w) (A : Option Addr) (n c : Nat) (zs : List Int) (w : World) (B : Nat) (hr : Rd w B A n c (zs.map I)) :
    Calls Try.prog 85 #[.slice A n c, .func (.func f) #[] #[]] w fun e w' => ∃ r : Int, e = .returned (.int .i64 r) ∧ decide (0 ≤ r) = zs.any p ∧ w' = w := by
  have hm := hr.2.2.1
  have hnc := hr.2.1
  have Hn := Lib.hid hr.ilen
  unfold maxLen at hm
  go_enter Try.func85, Try.ntmps85
  go_wp2
  go_loopw [8] (fun i wr => ∃ k : Nat, k ≤ n ∧ i = .int .i64 k ∧ (∀ x ∈ zs.take k, p x = false) ∧ wr = w) (fun i _ => n - (intOf i).toNat)
  case atStart => exact ⟨0, Nat.zero_le _, rfl, by simp, rfl⟩
  case round =>
    obtain ⟨k, hk, rfl, hall, rfl⟩ := hrel
    have Hall := Lib.hid hall
    clear hall
    by_cases hlt : k < n
    · obtain ⟨b, o, y, rfl, hb, hy, hc⟩ := hr.int hlt
      have hlt' : (k : Int) < (n : Int) := by omega
      have k0 : (0 : Int) ≤ (k : Int) := by omega
      have Ht := Lib.hid (take_snoc hy)
      have hmem := List.mem_of_getElem? hy
      have hF := hf y wr
      clear hy
      go_wp2_with fail
      refine Calls.mono hF ?_
      rintro e w' ⟨rfl, rfl⟩
      cases hp : p y with
      | true =>
        have Hany := Lib.hid (show zs.any p = true from List.any_eq_true.2 ⟨y, hmem, hp⟩)
        clear hp hF
        go_wp2_with fail
        go_ret
        exact ⟨_, rfl, by rw [Hany.out]; simp, rfl⟩
      | false =>
        have Hp := Lib.hid hp
        clear hp hF
        go_wp2_with fail
        go_roundw
        case rel =>
          refine ⟨k + 1, by omega, by go_num, fun z hz => ?_, trivial⟩
          rw [Ht.out, List.mem_append, List.mem_singleton] at hz
          rcases hz with hz | rfl
          · exact Hall.out z hz
          · exact Hp.out
        case measure => simp [intOf]; omega
    · obtain rfl : k = n := by omega
      have hlt' : ¬ (k : Int) < (k : Int) := by omega
      have Hany := Lib.hid (show zs.any p = false by
        rw [List.any_eq_false]
        intro z hz
        rw [Hall.out z (by rw [List.take_of_length_le (by have := Hn.out; omega)]; exact hz)]
        simp)
      go_wp2_with fail
      go_ret
      exact ⟨_, rfl, by rw [Hany.out]; rfl, rfl⟩
theorem ContainsFuncI_any (f : Nat) (p : Int → Bool) (he : ∀ args w, (callFunc f args).run Try.prog w = .ok (.enter f args) w) (hf : ∀ x w, Calls Try.prog f #[.int .i64 x] w fun e w' => e = .returned (.bool (p x)) ∧ w' = w) (A : Option Addr) (n c : Nat) (zs : List Int) (w : World) (B : Nat) (hr : Rd w B A n c (zs.map I)) :
    Calls Try.prog 51 #[.slice A n c, .func (.func f) #[] #[]] w fun e w' => e = .returned (.bool (zs.any p)) ∧ w' = w := by
  have H := Lib.hid (IndexFuncI_any f p he hf A n c zs w B hr)
  clear he hf hr
  go_enter Try.func51, Try.ntmps51
  go_wp2_with fail
  refine H.out.mono ?_
  rintro e w' ⟨r, rfl, hd, rfl⟩
  have Hd := Lib.hid hd
  clear hd
  go_wp2_with fail
  go_ret
  exact ⟨ret_bool Hd.out, rfl⟩
theorem piecesTest_any (x : Int) (w : World) : Calls Try.prog 121 #[.int .i64 x] w fun e w' => e = .returned (.bool (!inR x 1 60)) ∧ w' = w := by
  go_enter Try.func121, Try.ntmps121
  go_wp2_with fail
  refine (within_any _ _ _ _).mono ?_
  rintro e w' ⟨rfl, rfl⟩
  go_wp2_with fail
  go_ret
  exact ⟨rfl, rfl⟩
theorem any_all (zs : List Int) : (zs.any fun x => !inR x 1 60) = !(zs.all fun x => inR x 1 60) := by
  induction zs with
  | nil => rfl
  | cons a zs ih => simp only [List.any_cons, List.all_cons, ih, Bool.not_and]
theorem piecesOk_any (A : Option Addr) (n c : Nat) (zs : List Int) (w : World) (B : Nat) (hr : Rd w B A n c (zs.map I)) :
    Calls Try.prog 98 #[.slice A n c] w fun e w' => e = .returned (.bool (pk zs)) ∧ w' = w := by
  have Hn := Lib.hid hr.ilen
  have he : ∀ args w, (callFunc 121 args).run Try.prog w = .ok (.enter 121 args) w := enters_of Try.func121 (by kernel_rfl) rfl
  have H := Lib.hid (fun w hr => ContainsFuncI_any 121 (fun x => !inR x 1 60) he piecesTest_any A n c zs w B hr)
  clear he
  cases hl : inR n 1 5 with
  | false =>
    have Hl := Lib.hid hl
    have Hv := Lib.hid (show pk zs = false by unfold pk; rw [Hn.out, hl]; rfl)
    clear hl
    go_enter Try.func98, Try.ntmps98
    go_wp2_with fail
    refine (within_any _ _ _ _).mono ?_
    rintro e w' ⟨rfl, rfl⟩
    rw [Hl.out]
    go_wp2_with fail
    go_ret
    exact ⟨ret_bool Hv.out.symm, rfl⟩
  | true =>
    have Hl := Lib.hid hl
    have Hv := Lib.hid (show pk zs = !(zs.any fun x => !inR x 1 60) by unfold pk; rw [Hn.out, hl, any_all]; simp)
    clear hl
    go_enter Try.func98, Try.ntmps98
    go_wp2_with fail
    refine (within_any _ _ _ _).mono ?_
    rintro e w' ⟨rfl, rfl⟩
    rw [Hl.out]
    go_wp2_with fail
    refine (H.out _ hr).mono ?_
    rintro e w' ⟨rfl, rfl⟩
    go_wp2_with fail
    go_ret
    exact ⟨ret_bool Hv.out.symm, rfl⟩
end Go.Proofs.Ytopmifidhabobaa
