/-
  The laws of distances and of rulers: what is drawn answers as they say.
-/
import Derived.Test.YtopmifidhabobaaPoints
import Derived.Test.YtopmifidhabobaaTwins
namespace Go.Proofs.Ytopmifidhabobaa
open Go.RowKit
set_option linter.unusedVariables false
set_option linter.unusedSimpArgs false

def NewPts (w : World) (e : Ending) (w' : World) : Prop := ∃ A n c ls, e = .returned (.slice A n c) ∧ Rd w' w'.heap.size A n c (ls.map I) ∧ Drn ls ∧ Below w.heap.size w w'
theorem DrawDistancesOf_any (A : Option Addr) (n c : Nat) (zs : List Int) (w : World) (hr : Rd w w.heap.size A n c (zs.map U8)) (hz : ∀ z ∈ zs, 0 ≤ z ∧ z ≤ 255) :
    Calls Try.prog 36 #[.slice A n c] w (NewPts w) := by
  have H := Lib.hid (newReader_any A n c zs w hr hz)
  clear hr hz
  go_enter Try.func36, Try.ntmps36
  go_wp2_with fail
  refine H.out.mono ?_
  rintro e w1 ⟨R, rs, rfl, hR, hb1⟩
  have hge := hR.1
  have s1 := hb1.size
  go_wp2_with fail
  refine (somePoints_any _ R rs 0 w1 hR (by omega)).mono ?_
  rintro e w2 ⟨A2, n2, c2, ls, q, rfl, hn, hd, _, _, hg⟩
  go_wp2_with fail
  go_ret
  exact ⟨A2, n2, c2, ls, rfl, hn.1, hd, kp_grown hb1 (Nat.le_refl _) hg (fun k hk => by cases hk; exact hge)⟩
theorem DrawIsRuler_any (A : Option Addr) (n c : Nat) (zs : List Int) (w : World) (hr : Rd w w.heap.size A n c (zs.map U8)) (hz : ∀ z ∈ zs, 0 ≤ z ∧ z ≤ 255) :
    Calls Try.prog 38 #[.slice A n c] w (NewPts w) := by
  have H := Lib.hid (newReader_any A n c zs w hr hz)
  clear hr hz
  go_enter Try.func38, Try.ntmps38
  go_wp2_with fail
  refine H.out.mono ?_
  rintro e w1 ⟨R, rs, rfl, hR, hb1⟩
  have hge := hR.1
  have s1 := hb1.size
  go_wp2_with fail
  refine (somePoints_any _ R rs 0 w1 hR (by omega)).mono ?_
  rintro e w2 ⟨A2, n2, c2, ls, q, rfl, hn, hd, _, _, hg⟩
  go_wp2_with fail
  go_ret
  exact ⟨A2, n2, c2, ls, rfl, hn.1, hd, kp_grown hb1 (Nat.le_refl _) hg (fun k hk => by cases hk; exact hge)⟩
theorem equalInts_same (A : Option Addr) (n c : Nat) (us : List Int) (A2 : Option Addr) (n2 c2 : Nat) (w : World) (B B2 : Nat) (hr : Rd w B A n c (us.map I)) (hr2 : Rd w B2 A2 n2 c2 (us.map I)) :
    Calls Try.prog 28 #[.slice A n c, .slice A2 n2 c2] w fun e w' => e = .returned (.bool true) ∧ Quiet w w' :=
  (equalInts_any A n c us A2 n2 c2 us w B B2 hr hr2).mono fun _ _ ⟨h1, h2⟩ => ⟨h1.trans (ret_bool (by simp)), h2⟩
theorem DO_len2 {zs : List Int} (h : vp zs = true) : 2 * (DO zs).length + zs.length = zs.length * zs.length := by
  unfold DO
  rw [h, if_pos rfl]
  unfold dsr dst
  rw [srt_len]
  exact dTo_len zs zs.length (Nat.le_refl _)
theorem DO_srt (zs : List Int) : srt (DO zs) = DO zs := by
  unfold DO
  split
  · exact srt_of_sorted (srt_sorted _)
  · exact srt_of_sorted List.Pairwise.nil
theorem TP_vp {zs : List Int} (h : vp zs = true) : vp (TP zs) = true := by unfold TP; rw [h, if_pos rfl]; exact vp_turn h
theorem DO_TP (zs : List Int) (h : vp zs = true) : DO (TP zs) = DO zs := by
  unfold DO
  rw [TP_vp h, h]
  unfold TP
  rw [h, if_pos rfl, if_pos rfl, if_pos rfl, dsr_turn]
theorem RU_TP (zs : List Int) (h : vp zs = true) : RU (TP zs) = RU zs := by
  unfold RU
  rw [TP_vp h, h]
  unfold TP
  rw [h, if_pos rfl, dsr_turn]
set_option maxRecDepth 8000 in
set_option maxHeartbeats 3200000 in
theorem walkDistancesOf (A : Option Addr) (n c : Nat) (zs : List Int) (w : World) (hr : Rd w w.heap.size A n c (zs.map U8)) (hz : ∀ z ∈ zs, 0 ≤ z ∧ z ≤ 255) :
    Calls Try.prog 9 #[.slice A n c] w (RetVal w (.bool true)) := by
  by_cases hbig : 1048576 < n
  · clear hz hr
    go_enter Try.func9, Try.ntmps9
    go_wp2_with fail
    go_ret
    exact ⟨rfl, Below.refl _ _⟩
  have H := Lib.hid (DrawDistancesOf_any A n c zs w hr hz)
  clear hr hz
  go_enter Try.func9, Try.ntmps9
  go_wp2_with fail
  refine H.out.mono ?_
  rintro e w1 ⟨A1, n1, c1, ls, rfl, hr1, hd, hb1⟩
  have hn1 := hr1.ilen
  have s1 := hb1.size
  go_wp2_with fail
  refine (DistancesOf_any A1 n1 c1 ls w1 hr1).mono ?_
  rintro e w2 ⟨A2, n2, c2, rfl, ho2, hb2⟩
  have o2 := ho2.win
  have s2 := hb2.size
  have B2 := hb1.trans (hb2.mono s1)
  have r2 := (hr1.below hb2).more s2
  go_wp2_with fail
  refine (specDistancesOf_any A1 n1 c1 ls w2 r2).mono ?_
  rintro e w3 ⟨A3, n3, c3, rfl, ho3, hb3⟩
  have s3 := hb3.size
  have B3 := B2.trans (hb3.mono B2.size)
  have r3 := (r2.below hb3).more s3
  have o2 := o2.below hb3 (Nat.le_refl _)
  go_wp2_with fail
  refine (equalInts_same A2 n2 c2 (DO ls) A3 n3 c3 w3 _ _ o2.rd ho3.rd).mono ?_
  rintro e w4 ⟨rfl, hq4⟩
  have B4 := B3.trans (hq4.bel _)
  have s4 := (hq4.bel w3.heap.size).size
  have r4 := (r3.below (hq4.bel _)).more s4
  have o2 := o2.below (hq4.bel w3.heap.size) s3
  clear r2 r3 ho3 hb2 hb1 hr1 H
  go_wp2_with fail
  refine (ValidPoints_any A1 n1 c1 ls w4 _ r4).mono ?_
  rintro e w5 ⟨rfl, rfl⟩
  cases hv : vp ls with
  | false =>
    have HV := Lib.hid hv
    clear hv
    go_wp2_with fail
    refine (specDistancesOf_any A1 n1 c1 ls w5 r4).mono ?_
    rintro e w6 ⟨A6, n6, c6, rfl, ho6, hb6⟩
    have o2 := o2.below hb6 (by omega)
    go_wp2_with fail
    refine (equalInts_same A2 n2 c2 (DO ls) A6 n6 c6 w6 _ _ o2.rd ho6.rd).mono ?_
    rintro e w7 ⟨rfl, hq7⟩
    go_wp2_with fail
    go_ret
    exact ⟨rfl, (B4.trans (hb6.mono B4.size)).trans (hq7.bel _)⟩
  | true =>
    have hl := vp_len hv
    have hp := vp_pos hv
    have h2 := DO_len2 hv
    have hn2 : (DO ls).length = n2 := o2.rd.ilen
    rw [hn1, hn2] at h2
    rw [hn1] at hl hp
    have hn12 : 2 * (n2 : Int) = (n1 : Int) * ((n1 : Int) - 1) := by
      rcases (show n1 = 1 ∨ n1 = 2 ∨ n1 = 3 ∨ n1 = 4 ∨ n1 = 5 ∨ n1 = 6 by omega) with rfl | rfl | rfl | rfl | rfl | rfl <;> omega
    have hn2' : n2 ≤ 15 := by
      rcases (show n1 = 1 ∨ n1 = 2 ∨ n1 = 3 ∨ n1 = 4 ∨ n1 = 5 ∨ n1 = 6 by omega) with rfl | rfl | rfl | rfl | rfl | rfl <;> omega
    have e1 : IntKind.i64.wrap ((n1 : Int) - 1) = (n1 : Int) - 1 := by rw [IntKind.wrap_i64]; omega
    have e2 : IntKind.i64.wrap ((n1 : Int) * ((n1 : Int) - 1)) = 2 * (n2 : Int) := by rw [← hn12, IntKind.wrap_i64]; omega
    have e3 : IntKind.i64.wrap (2 * (n2 : Int)) = 2 * (n2 : Int) := by rw [IntKind.wrap_i64]; omega
    have HV := Lib.hid hv
    have Hs := Lib.hid (DO_srt ls)
    have Ht := Lib.hid (DO_TP ls hv)
    clear hv hn12 h2 hn2 hn1
    go_wp2_with fail
    refine (sorted_any A2 n2 c2 (DO ls) w5 (o2.rd' (by omega)) (by omega)).mono ?_
    rintro e w6 ⟨A6, n6, c6, rfl, ho6, hb6⟩
    rw [Hs.out] at ho6
    have o2 := o2.below hb6 (by omega)
    have B6 := B4.trans (hb6.mono B4.size)
    have s6 := hb6.size
    have r6 := (r4.below hb6).more s6
    go_wp2_with fail
    refine (equalInts_same A6 n6 c6 (DO ls) A2 n2 c2 w6 _ _ ho6.rd o2.rd).mono ?_
    rintro e w7 ⟨rfl, hq7⟩
    have o2 := o2.below (hq7.bel w6.heap.size) (by omega)
    have B7 := B6.trans (hq7.bel _)
    have s7 := (hq7.bel w6.heap.size).size
    have r7 := (r6.below (hq7.bel _)).more s7
    clear ho6 hb6 r6 hq7
    go_wp2_with fail
    refine (TurnPoints_any A1 n1 c1 ls w7 r7).mono ?_
    rintro e w8 ⟨A8, n8, c8, rfl, ho8, hb8⟩
    have o2 := o2.below hb8 (by omega)
    have B8 := B7.trans (hb8.mono B7.size)
    have s8 := hb8.size
    go_wp2_with fail
    refine (DistancesOf_any A8 n8 c8 (TP ls) w8 ho8.rd).mono ?_
    rintro e w9 ⟨A9, n9, c9, rfl, ho9, hb9⟩
    rw [Ht.out] at ho9
    have o2 := o2.below hb9 (by omega)
    have B9 := B8.trans (hb9.mono B8.size)
    go_wp2_with fail
    refine (equalInts_same A9 n9 c9 (DO ls) A2 n2 c2 w9 _ _ ho9.rd o2.rd).mono ?_
    rintro e w10 ⟨rfl, hq10⟩
    go_wp2_with fail
    go_ret
    exact ⟨rfl, B9.trans (hq10.bel _)⟩
theorem apartTo_app (l m : List Int) (k : Nat) (hk : k ≤ l.length) : apartTo (l ++ m) k = apartTo l k := by
  induction k with
  | zero => rfl
  | succ k ih =>
    rw [apartTo, apartTo, ih (by omega)]
    simp only [List.getD_eq_getElem?_getD]
    rw [List.getElem?_append_left (by omega), List.getElem?_append_left (by omega)]
theorem apart_iff {l : List Int} (h : l.Pairwise (fun a b => a ≤ b)) : apartTo l l.length = true ↔ l.Nodup := by
  revert h
  refine snoc_ind (p := fun l => l.Pairwise (fun a b => a ≤ b) → (apartTo l l.length = true ↔ l.Nodup)) ?_ ?_ l
  · intro _
    simp [apartTo]
  · intro l x ih h
    rw [List.pairwise_append] at h
    obtain ⟨h1, _, h3⟩ := h
    have hx : ∀ a ∈ l, a ≤ x := fun a ha => h3 a ha x (by simp)
    rw [List.length_append, List.length_singleton, apartTo, apartTo_app _ _ _ (Nat.le_refl _), Bool.and_eq_true, ih h1, List.nodup_append]
    have hlast : (l ++ [x]).getD l.length 0 = x := by simp [List.getD_eq_getElem?_getD]
    rw [hlast]
    rcases List.eq_nil_or_concat l with rfl | ⟨m, y, rfl⟩
    · simp
    · rw [List.concat_eq_append] at h1 hx ⊢
      have e : (m ++ [y] ++ [x]).getD ((m ++ [y]).length - 1) 0 = y := by
        rw [List.getD_eq_getElem?_getD, List.append_assoc, List.length_append, List.length_singleton, Nat.add_sub_cancel, List.getElem?_append_right (Nat.le_refl _), Nat.sub_self]
        rfl
      rw [e]
      have hy : ∀ a ∈ m, a ≤ y := fun a ha => (List.pairwise_append.1 h1).2.2 a ha y (by simp)
      have hyx := hx y (by simp)
      refine ⟨fun ⟨g1, g2⟩ => ⟨g1, by simp, fun a ha b hb => ?_⟩, fun ⟨g1, _, g3⟩ => ⟨g1, ?_⟩⟩
      · rw [List.mem_singleton] at hb
        subst hb
        have g2' : b ≠ y := by simpa using g2
        rcases List.mem_append.1 ha with ha | ha
        · have := hy a ha
          omega
        · rw [List.mem_singleton] at ha
          omega
      · have := g3 y (by simp) x (by simp)
        simp
        omega
theorem RU_less {zs : List Int} (h : RU zs = true) (h2 : 2 ≤ zs.length) : RU (zs.take (zs.length - 1)) = true := by
  unfold RU at h ⊢
  rw [Bool.and_eq_true] at h ⊢
  obtain ⟨hv, ha⟩ := h
  have hsd : ∀ us, (dsr us).Pairwise (fun a b => a ≤ b) := fun us => srt_sorted _
  rw [apart_iff (hsd zs)] at ha
  have hz : zs = zs.take (zs.length - 1) ++ [zs.getD (zs.length - 1) 0] := by
    rw [List.getD_eq_getElem?_getD, List.getElem?_eq_getElem (by omega)]
    conv => lhs; rw [← List.take_append_drop (zs.length - 1) zs]
    congr 1
    rw [List.drop_eq_getElem_cons (by omega), List.drop_of_length_le (by omega)]
    rfl
  obtain ⟨ys, hys⟩ : ∃ ys, ys = zs.take (zs.length - 1) := ⟨_, rfl⟩
  obtain ⟨y, hy⟩ : ∃ y, y = zs.getD (zs.length - 1) 0 := ⟨_, rfl⟩
  have hl : 1 ≤ ys.length := by rw [hys]; simp; omega
  rw [← hys, ← hy] at hz
  rw [← hys]
  refine ⟨?_, ?_⟩
  · rw [vp_iff] at hv ⊢
    obtain ⟨h1, ⟨r, hr⟩, h3, h4⟩ := hv
    rw [hz] at h1 hr h3 h4
    rw [List.pairwise_append] at h4
    refine ⟨by simp at h1; omega, ?_, fun x hx => h3 x (by simp [hx]), h4.1⟩
    cases ys with
    | nil => simp at hl
    | cons a ys => simp at hr; exact ⟨ys, by rw [hr.1]⟩
  · rw [apart_iff (hsd ys)]
    have p1 : (dsr zs).Perm (dst ys ++ ys.map (fun b => y - b)) := by
      rw [hz]; unfold dsr; rw [dst_snoc]; exact srt_perm _
    have n1 := p1.nodup_iff.1 ha
    rw [List.nodup_append] at n1
    exact (srt_perm (dst ys)).nodup_iff.2 n1.1
set_option maxRecDepth 8000 in
set_option maxHeartbeats 3200000 in
theorem walkIsRuler (A : Option Addr) (n c : Nat) (zs : List Int) (w : World) (hr : Rd w w.heap.size A n c (zs.map U8)) (hz : ∀ z ∈ zs, 0 ≤ z ∧ z ≤ 255) :
    Calls Try.prog 10 #[.slice A n c] w (RetVal w (.bool true)) := by
  by_cases hbig : 1048576 < n
  · clear hz hr
    go_enter Try.func10, Try.ntmps10
    go_wp2_with fail
    go_ret
    exact ⟨rfl, Below.refl _ _⟩
  have H := Lib.hid (DrawIsRuler_any A n c zs w hr hz)
  clear hr hz
  go_enter Try.func10, Try.ntmps10
  go_wp2_with fail
  refine H.out.mono ?_
  rintro e w1 ⟨A1, n1, c1, ls, rfl, hr1, hd, hb1⟩
  have hn1 := hr1.ilen
  have s1 := hb1.size
  go_wp2_with fail
  refine (IsRuler_any A1 n1 c1 ls w1 hr1).mono ?_
  rintro e w2 ⟨rfl, hb2⟩
  have s2 := hb2.size
  have B2 := hb1.trans (hb2.mono s1)
  have r2 := (hr1.below hb2).more s2
  go_wp2_with fail
  refine (specIsRuler_any A1 n1 c1 ls w2 r2).mono ?_
  rintro e w3 ⟨rfl, hb3⟩
  have s3 := hb3.size
  have B3 := B2.trans (hb3.mono B2.size)
  have r3 := (r2.below hb3).more s3
  have hRR : ((RU ls) != (RU ls)) = false := by simp
  clear r2 hb2 hb1 hr1 H
  go_wp2_with fail
  refine (ValidPoints_any A1 n1 c1 ls w3 _ r3).mono ?_
  rintro e w4 ⟨rfl, rfl⟩
  cases hv : vp ls with
  | false =>
    have HV := Lib.hid hv
    clear hv
    go_wp2_with fail
    refine (specIsRuler_any A1 n1 c1 ls w4 r3).mono ?_
    rintro e w6 ⟨rfl, hb6⟩
    go_wp2_with fail
    go_ret
    exact ⟨ret_bool (by simp), B3.trans (hb6.mono B3.size)⟩
  | true =>
    have hl := vp_len hv
    have hp := vp_pos hv
    rw [hn1] at hl hp
    have e1 : IntKind.i64.wrap ((n1 : Int) - 1) = (n1 : Int) - 1 := by rw [IntKind.wrap_i64]; omega
    have HV := Lib.hid hv
    have Ht := Lib.hid (RU_TP ls hv)
    have Hless := Lib.hid (fun h => RU_less (zs := ls) h)
    clear hv
    go_wp2_with fail
    refine (TurnPoints_any A1 n1 c1 ls w4 r3).mono ?_
    rintro e w8 ⟨A8, n8, c8, rfl, ho8, hb8⟩
    have B8 := B3.trans (hb8.mono B3.size)
    have s8 := hb8.size
    have r8 := (r3.below hb8).more s8
    go_wp2_with fail
    refine (IsRuler_any A8 n8 c8 (TP ls) w8 ho8.rd).mono ?_
    rintro e w9 ⟨rfl, hb9⟩
    rw [Ht.out]
    have B9 := B8.trans (hb9.mono B8.size)
    have r9 := (r8.below hb9).more hb9.size
    have hRR2 : ((RU ls) == (RU ls)) = true := by simp
    cases hu : RU ls with
    | false =>
      have HU := Lib.hid hu
      clear hu hRR hRR2
      go_wp2_with fail
      go_ret
      exact ⟨rfl, B9⟩
    | true =>
      have HU := Lib.hid hu
      clear hu hRR hRR2
      by_cases h1 : n1 = 1
      · subst h1
        go_wp2_with fail
        go_ret
        exact ⟨rfl, B9⟩
      · obtain ⟨m, rfl⟩ : ∃ m, n1 = m + 1 := ⟨n1 - 1, by omega⟩
        have HL := Lib.hid (show RU (ls.take m) = true by
          have := Hless.out HU.out (by omega)
          rw [hn1] at this
          exact this)
        have hcc := r9.2.1
        have b1 : ¬ ((m + 1 : Nat) : Int) = 1 := by omega
        have b2 : ¬ (m : Int) = 0 := by omega
        have e2 : ((m : Int) + 1 - 1) = (m : Int) := by omega
        have b3 : (0 : Int) ≤ (m : Int) := by omega
        have b4 : (m : Int) ≤ (c1 : Int) := by omega
        have r10 := r9.take_ (m := m) (by omega)
        rw [← List.map_take] at r10
        clear hn1
        go_wp2_with fail
        refine (IsRuler_any A1 m c1 (ls.take m) w9 r10).mono ?_
        rintro e w11 ⟨rfl, hb11⟩
        rw [HL.out]
        go_wp2_with fail
        go_ret
        exact ⟨rfl, B9.trans (hb11.mono B9.size)⟩
end Go.Proofs.Ytopmifidhabobaa
