/-
  The law of CutBoth: what is drawn answers as it says.
-/
import Derived.Test.YtopmifidhabobaaSome
import Derived.Test.YtopmifidhabobaaCut8
import Derived.Test.YtopmifidhabobaaLawsI
namespace Go.Proofs.Ytopmifidhabobaa
open Go.RowKit
set_option linter.unusedVariables false
set_option linter.unusedSimpArgs false

theorem take_sum_le {zs : List Int} (h : ∀ x ∈ zs, 0 ≤ x) (k : Nat) : 0 ≤ (zs.take k).sum ∧ (zs.take k).sum ≤ zs.sum := by
  have h0 : ∀ l : List Int, (∀ x ∈ l, 0 ≤ x) → 0 ≤ l.sum := by
    intro l
    induction l with
    | nil => intro _; simp
    | cons a l ih =>
      intro hl
      have h1 := hl a (by simp)
      have h2 := ih (fun x hx => hl x (by simp [hx]))
      simp
      omega
  have h1 := h0 (zs.take k) (fun x hx => h x (List.mem_of_mem_take hx))
  have h2 := h0 (zs.drop k) (fun x hx => h x (List.mem_of_mem_drop hx))
  have h3 : zs.sum = (zs.take k).sum + (zs.drop k).sum := by
    conv => lhs; rw [← List.take_append_drop k zs]
    rw [List.sum_append]
  omega
set_option maxHeartbeats 800000 in
theorem lawsTotal_any (A : Option Addr) (n c : Nat) (zs : List Int) (w : World) (B : Nat) (hr : Rd w B A n c (zs.map I)) (hs : ∀ k, 0 ≤ (zs.take k).sum ∧ (zs.take k).sum ≤ 1000000) :
    Calls Try.prog 42 #[.slice A n c] w fun e w' => e = .returned (.int .i64 zs.sum) ∧ w' = w := by
  have hm := hr.2.2.1
  have hnc := hr.2.1
  have Hn := Lib.hid hr.ilen
  have Hs := Lib.hid hs
  clear hs
  unfold maxLen at hm
  go_enter Try.func42, Try.ntmps42
  go_wp2
  go_loopw [3, 4] (fun t i wr => ∃ k : Nat, k ≤ n ∧ i = .int .i64 k ∧ t = .int .i64 (zs.take k).sum ∧ wr = w) (fun _ i _ => n - (intOf i).toNat)
  case atStart => exact ⟨0, Nat.zero_le _, rfl, rfl, rfl⟩
  case round =>
    obtain ⟨k, hk, rfl, rfl, rfl⟩ := hrel
    obtain ⟨s1, s2⟩ := Hs.out k
    obtain ⟨s3, s4⟩ := Hs.out (k + 1)
    obtain ⟨t, ht⟩ : ∃ t, t = (zs.take k).sum := ⟨_, rfl⟩
    rw [← ht] at s1 s2 ⊢
    have Ht := Lib.hid ht
    clear ht
    by_cases hlt : k < n
    · obtain ⟨b, o, y, rfl, hb, hy, hc⟩ := hr.int hlt
      have hlt' : (k : Int) < (n : Int) := by omega
      have He := Lib.hid (show (zs.take (k + 1)).sum = t + y by rw [take_sum hy, Ht.out])
      rw [He.out] at s3 s4
      have e1 : IntKind.i64.wrap (t + y) = t + y := by rw [IntKind.wrap_i64]; omega
      clear hy
      go_wp2_with fail
      go_roundw
      case rel => exact ⟨k + 1, by omega, by go_num, by rw [He.out], trivial⟩
      case measure => simp [intOf]; omega
    · obtain rfl : k = n := by omega
      have hlt' : ¬ (k : Int) < (k : Int) := by omega
      go_wp2_with fail
      go_ret
      exact ⟨by rw [Ht.out, List.take_of_length_le (by have := Hn.out; omega)]; rfl, rfl⟩
def rvTo (zs : List Int) (k : Nat) : List Int := upto (fun j => zs.getD (zs.length - 1 - j) 0) k
theorem rvTo_all (zs : List Int) : rvTo zs zs.length = zs.reverse := by
  refine List.ext_getElem (by simp [rvTo, upto]) fun i h1 h2 => ?_
  have hi : i < zs.length := by simpa [rvTo, upto] using h1
  simp [rvTo, upto, List.getElem?_eq_getElem (show zs.length - 1 - i < zs.length by omega)]
set_option maxRecDepth 8000 in
set_option maxHeartbeats 1600000 in
theorem lawsTurned_any (A : Option Addr) (n c : Nat) (zs : List Int) (w : World) (hr : Rd w w.heap.size A n c (zs.map I)) (hn3 : n ≤ 1000) :
    Calls Try.prog 43 #[.slice A n c] w (RetRow w 3 (zs.reverse.map I)) := by
  have hm := hr.2.2.1
  have hnc := hr.2.1
  have Hn := Lib.hid hr.ilen
  unfold maxLen at hm
  obtain ⟨i0, hi, hz0, hz1, hz2⟩ := info_parts Try.infoI
  have Hall := Lib.hid (show rvTo zs n = zs.reverse by rw [← Hn.out]; exact rvTo_all zs)
  have e0 : IntKind.i64.wrap ((n : Int) - 1) = (n : Int) - 1 := by rw [IntKind.wrap_i64]; omega
  go_enter Try.func43, Try.ntmps43
  go_wp2_with fail
  go_loopw [3, 4] (fun v i wr => ∃ (k : Nat) (A' : Option Addr) (n' c' : Nat), k ≤ n ∧ i = .int .i64 ((n : Int) - 1 - (k : Int)) ∧ v = .slice A' n' c' ∧ Row wr w.heap.size 3 A' n' c' ((rvTo zs k).map I) ∧ Below w.heap.size w wr) (fun _ i _ => (intOf i + 1).toNat)
  case atStart =>
    refine ⟨0, some ⟨w.heap.size, 0, none⟩, 0, 0, Nat.zero_le _, by simp, rfl, ?_, ?_⟩
    · exact Row.nil_ w 3
    · exact (Below.refl _ _).alloc (Nat.le_refl _) _
  case round =>
    obtain ⟨k, A', n', c', hk, rfl, rfl, hown, hbw⟩ := hrel
    have hlen := hown.len
    simp [rvTo, upto_length] at hlen
    by_cases hkm : k < n
    · obtain ⟨q, hq⟩ : ∃ q, q = n - 1 - k := ⟨_, rfl⟩
      have hqk : (n : Int) - 1 - (k : Int) = (q : Int) := by omega
      obtain ⟨b, o, y, rfl, hb, hy, hcy⟩ := (hr.below hbw).int (show q < n by omega)
      have Hst := Lib.hid (show (rvTo zs (k + 1)).map I = (rvTo zs k).map I ++ [.int .i64 y] by
        unfold rvTo
        rw [upto_succ, map_snocI, Hn.out, show n - 1 - k = q by omega, getD_at hy])
      have Hq := Lib.hid hqk
      rw [hqk]
      have hqm : (q : Int) < (n : Int) := by omega
      have q0 : (0 : Int) ≤ (q : Int) := by omega
      have hn' : n' ≤ 1000 := by omega
      clear hy hq hqk hlen
      have hsz := hbw.size
      have e3 : IntKind.i64.wrap ((q : Int) - 1) = (q : Int) - 1 := by rw [IntKind.wrap_i64]; omega
      go_wp2_with (at_builtin; refine wpList_app1 _ rfl _ _ 22 rfl w.heap.size 3 i0 (.int .i64 0) 8 Try.underlying22 hi hz0 hz1 hz2 rfl _ _ _ _ rfl (hown.alloc _) _ (.int .i64 y) rfl (cell_one_new _ _ _) rfl (by omega) (by omega) (by simp; omega) ?_; intro A2 c2 w2 hown2 hgrow2)
      have hbw2 : Below w.heap.size w w2 := kp_grown (kp_alloc _ hbw (Nat.le_refl _)) (Nat.le_refl _) hgrow2 (row_ge hown)
      clear hgrow2
      go_wp2_with fail
      go_roundw
      case rel => exact ⟨k + 1, A2, n' + 1, c2, by omega, by have := Hq.out; congr 1; omega, rfl, by rw [Hst.out]; exact hown2, hbw2⟩
      case measure => simp [intOf] <;> omega
    · obtain rfl : k = n := by omega
      have hneg : (k : Int) - 1 - (k : Int) = -1 := by omega
      rw [hneg]
      go_wp2_with fail
      go_ret
      rw [Hall.out] at hown
      exact ⟨_, _, _, rfl, Row.own hown, hbw⟩
def NewCuts (w : World) (e : Ending) (w' : World) : Prop := ∃ (A : Option Addr) (n c : Nat) (us : List Int) (A2 : Option Addr) (n2 c2 : Nat) (bs : List Int), e = .returned (.tuple #[.slice A n c, .slice A2 n2 c2]) ∧ Rd w' w'.heap.size A n c (us.map I) ∧ Rd w' w'.heap.size A2 n2 c2 (bs.map I) ∧ Below w.heap.size w w'
theorem DrawCutBoth_any (A : Option Addr) (n c : Nat) (zs : List Int) (w : World) (hr : Rd w w.heap.size A n c (zs.map U8)) (hz : ∀ z ∈ zs, 0 ≤ z ∧ z ≤ 255) :
    Calls Try.prog 41 #[.slice A n c] w (NewCuts w) := by
  have H := Lib.hid (newReader_any A n c zs w hr hz)
  clear hr hz
  go_enter Try.func41, Try.ntmps41
  go_wp2_with fail
  refine H.out.mono ?_
  rintro e w1 ⟨R, rs, rfl, hR, hb1⟩
  have hge := hR.1
  have s1 := hb1.size
  go_wp2_with fail
  refine (someCuts_any _ R rs 0 w1 hR (by omega)).mono ?_
  rintro e w2 ⟨A2, n2, c2, us, A3, n3, c3, bs, q, rfl, hn, hn2, _, _, hg⟩
  go_wp2_with fail
  go_ret2
  exact ⟨A2, n2, c2, us, A3, n3, c3, bs, rfl, hn.1, hn2.1, kp_grown hb1 (Nat.le_refl _) hg (fun k hk => by cases hk; exact hge)⟩
theorem CB_pos {a b : List Int} : ∀ x ∈ CB a b, 1 ≤ x := by
  intro x hx
  have hx2 : x ∈ dfs (mks a b) := (srt_perm _).mem_iff.1 hx
  obtain ⟨i, hi, rfl⟩ := List.getElem_of_mem hx2
  rw [dfs_get]
  have hl : i + 1 < (mks a b).length := by
    have : (dfs (mks a b)).length = (mks a b).length - 1 := dfTo_len _ _
    omega
  rw [getD_of_lt hl, getD_of_lt (show i < (mks a b).length by omega)]
  have := List.pairwise_iff_getElem.1 (mks_strict a b) i (i + 1) (by omega) hl (by omega)
  omega
set_option maxRecDepth 8000 in
set_option maxHeartbeats 3200000 in
theorem walkCutBoth (A : Option Addr) (n c : Nat) (zs : List Int) (w : World) (hr : Rd w w.heap.size A n c (zs.map U8)) (hz : ∀ z ∈ zs, 0 ≤ z ∧ z ≤ 255) :
    Calls Try.prog 12 #[.slice A n c] w (RetVal w (.bool true)) := by
  by_cases hbig : 1048576 < n
  · clear hz hr
    go_enter Try.func12, Try.ntmps12
    go_wp2_with fail
    go_ret
    exact ⟨rfl, Below.refl _ _⟩
  have H := Lib.hid (DrawCutBoth_any A n c zs w hr hz)
  clear hr hz
  go_enter Try.func12, Try.ntmps12
  go_wp2_with fail
  refine H.out.mono ?_
  rintro e w1 ⟨A1, n1, c1, us, B1, m1, d1, bs, rfl, hra, hrb, hb1⟩
  have hna := hra.ilen
  have hnb := hrb.ilen
  have s1 := hb1.size
  clear H
  go_wp2_with fail
  refine (implCutBothTop_any A1 n1 c1 us B1 m1 d1 bs w1 hra hrb).mono ?_
  rintro e w2 ⟨A2, n2, c2, rfl, ho2, hb2⟩
  have o2 := ho2.win
  have s2 := hb2.size
  have B2 := hb1.trans (hb2.mono s1)
  have ra := (hra.below hb2).more s2
  have rb := (hrb.below hb2).more s2
  clear ho2 hra hrb hb1 hb2
  go_wp2_with fail
  refine (specCutBoth_any A1 n1 c1 us B1 m1 d1 bs w2 ra rb).mono ?_
  rintro e w3 ⟨A3, n3, c3, rfl, ho3, hb3⟩
  have s3 := hb3.size
  have B3 := B2.trans (hb3.mono B2.size)
  have ra := (ra.below hb3).more s3
  have rb := (rb.below hb3).more s3
  have o2 := o2.below hb3 (Nat.le_refl _)
  clear hb3 B2
  go_wp2_with fail
  refine (equalInts_same A2 n2 c2 (CO us bs) A3 n3 c3 w3 _ _ o2.rd ho3.rd).mono ?_
  rintro e w4 ⟨rfl, hq4⟩
  have B4 := B3.trans (hq4.bel _)
  have s4 := (hq4.bel w3.heap.size).size
  have ra := (ra.below (hq4.bel _)).more s4
  have rb := (rb.below (hq4.bel _)).more s4
  have o2 := o2.below (hq4.bel w3.heap.size) s3
  clear ho3 hq4 B3
  have hlo : (CO us bs).length = n2 := o2.rd.ilen
  have hnm := o2.rd.2.2.1
  unfold maxLen at hnm
  by_cases h0 : n2 = 0
  · subst h0
    go_wp2_with fail
    refine (specCutBoth_any A1 n1 c1 us B1 m1 d1 bs w4 ra rb).mono ?_
    rintro e w6 ⟨A6, n6, c6, rfl, ho6, hb6⟩
    have o2 := o2.below hb6 (by omega)
    go_wp2_with fail
    refine (equalInts_same A2 0 c2 (CO us bs) A6 n6 c6 w6 _ _ o2.rd ho6.rd).mono ?_
    rintro e w7 ⟨rfl, hq7⟩
    go_wp2_with fail
    go_ret
    exact ⟨rfl, (B4.trans (hb6.mono B4.size)).trans (hq7.bel _)⟩
  · have hok : okP us bs = true := by
      cases h : okP us bs with
      | true => rfl
      | false =>
        unfold CO at hlo
        rw [h] at hlo
        simp at hlo
        omega
    have hCO : CO us bs = CB us bs := by unfold CO; rw [hok]; rfl
    obtain ⟨l1, l2, l3⟩ := CB_len hok
    obtain ⟨a1, a2, a3, a4⟩ := pk_bounds (okP_iff.1 hok).1
    obtain ⟨b1, b2, b3, b4⟩ := pk_bounds (okP_iff.1 hok).2.1
    have hsum : (CO us bs).sum = us.sum := by rw [hCO]; exact CB_sum hok
    have hT1 : ∀ k, 0 ≤ ((CO us bs).take k).sum ∧ ((CO us bs).take k).sum ≤ 1000000 := fun k => by
      have h := take_sum_le (zs := CO us bs) (fun x hx => by rw [hCO] at hx; have := CB_pos x hx; omega) k
      rw [hsum] at h
      omega
    have hT2 : ∀ k, 0 ≤ (us.take k).sum ∧ (us.take k).sum ≤ 1000000 := fun k => by
      have h := take_sum_le (zs := us) (fun x hx => by have := a2 x hx; omega) k
      omega
    rw [← hCO] at l1 l2 l3
    rw [hlo] at l1 l2 l3
    rw [hna] at l1 l2 a1
    rw [hnb] at l1 l3 b1
    have Hs := Lib.hid hsum
    have Hc := Lib.hid (CO_comm us bs)
    have Hr := Lib.hid (CO_rev us bs)
    have HT1 := Lib.hid hT1
    have HT2 := Lib.hid hT2
    have n0 : ¬ (n2 : Int) = 0 := by omega
    have hseq : (us.sum == us.sum) = true := by simp
    have e1 : IntKind.i64.wrap ((n1 : Int) + (m1 : Int)) = (n1 : Int) + (m1 : Int) := by rw [IntKind.wrap_i64]; omega
    have e2 : IntKind.i64.wrap ((n1 : Int) + (m1 : Int) - 1) = (n1 : Int) + (m1 : Int) - 1 := by rw [IntKind.wrap_i64]; omega
    have e3 : (n2 : Int) ≤ (n1 : Int) + (m1 : Int) - 1 := by omega
    obtain ⟨mx, hmx⟩ : ∃ mx : Int, max (n1 : Int) (m1 : Int) = mx := ⟨_, rfl⟩
    have e4 : mx ≤ (n2 : Int) := by omega
    clear hok hCO hsum hT1 hT2 a2 a3 a4 b2 b3 b4 hlo hna hnb h0
    go_wp2_with fail
    refine (lawsTotal_any A2 n2 c2 (CO us bs) w4 _ o2.rd HT1.out).mono ?_
    rintro e w5 ⟨rfl, rfl⟩
    rw [Hs.out]
    go_wp2_with fail
    refine (lawsTotal_any A1 n1 c1 us w5 _ ra HT2.out).mono ?_
    rintro e w6 ⟨rfl, rfl⟩
    go_wp2_with fail
    refine (implCutBothTop_any B1 m1 d1 bs A1 n1 c1 us w6 rb ra).mono ?_
    rintro e w7 ⟨A7, n7, c7, rfl, ho7, hb7⟩
    rw [Hc.out] at ho7
    have B7 := B4.trans (hb7.mono B4.size)
    have s7 := hb7.size
    have ra := (ra.below hb7).more s7
    have rb := (rb.below hb7).more s7
    have o2 := o2.below hb7 (by omega)
    clear hb7 B4
    go_wp2_with fail
    refine (equalInts_same A7 n7 c7 (CO us bs) A2 n2 c2 w7 _ _ ho7.rd o2.rd).mono ?_
    rintro e w8 ⟨rfl, hq8⟩
    have B8 := B7.trans (hq8.bel _)
    have s8 := (hq8.bel w7.heap.size).size
    have ra := (ra.below (hq8.bel _)).more s8
    have rb := (rb.below (hq8.bel _)).more s8
    have o2 := o2.below (hq8.bel w7.heap.size) (by omega)
    clear ho7 hq8 B7
    go_wp2_with fail
    refine (lawsTurned_any A1 n1 c1 us w8 ra (by omega)).mono ?_
    rintro e w9 ⟨A9, n9, c9, rfl, ho9, hb9⟩
    have o9 := ho9.win
    have B9 := B8.trans (hb9.mono B8.size)
    have s9 := hb9.size
    have rb := (rb.below hb9).more s9
    have o2 := o2.below hb9 (by omega)
    clear ho9 hb9 B8
    go_wp2_with fail
    refine (lawsTurned_any B1 m1 d1 bs w9 rb (by omega)).mono ?_
    rintro e w10 ⟨A10, n10, c10, rfl, ho10, hb10⟩
    have B10 := B9.trans (hb10.mono B9.size)
    have s10 := hb10.size
    have o9 := o9.below hb10 (by omega)
    have o2 := o2.below hb10 (by omega)
    clear hb10 B9
    go_wp2_with fail
    refine (implCutBothTop_any A9 n9 c9 us.reverse A10 n10 c10 bs.reverse w10 (o9.rd' (by omega)) ho10.rd).mono ?_
    rintro e w11 ⟨A11, n11, c11, rfl, ho11, hb11⟩
    rw [Hr.out] at ho11
    have B11 := B10.trans (hb11.mono B10.size)
    have o2 := o2.below hb11 (by omega)
    go_wp2_with fail
    refine (equalInts_same A11 n11 c11 (CO us bs) A2 n2 c2 w11 _ _ ho11.rd o2.rd).mono ?_
    rintro e w12 ⟨rfl, hq12⟩
    go_wp2_with fail
    go_ret
    exact ⟨rfl, B11.trans (hq12.bel _)⟩
end Go.Proofs.Ytopmifidhabobaa
