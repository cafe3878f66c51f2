/-
  All orders of a list, of the reference (ordersOf).
-/
import Derived.Test.YtopmifidhabobaaArd
namespace Go.Proofs.Ytopmifidhabobaa
open Go.RowKit
set_option linter.unusedVariables false
set_option linter.unusedSimpArgs false

theorem rd_front' {w0 w : World} {N b o j c' q : Nat} {xs : List Value} (h : Rd w0 N (some ⟨b, o, none⟩) j c' xs) (hb : Below N w0 w) : ∀ i u, (xs.take q)[i]? = some u → w.cell? ((⟨b, o, none⟩ : Addr).add i) = some u := by
  intro i u hu
  rw [List.getElem?_take] at hu
  split at hu
  · have hi : i < xs.length := (List.getElem?_eq_some_iff.1 hu).1
    obtain ⟨b', o', e, hbb, hc⟩ := h.2.2.2 (by have := h.1; omega)
    injection e with e
    injection e with e1 e2
    subst e1 e2
    have hadd : (⟨b, o, none⟩ : Addr).add i = ⟨b, o + i, none⟩ := by unfold Addr.add; split <;> simp_all
    rw [hadd, hb.cell (p := ⟨b, o + i, none⟩) hbb]
    exact hc i u hu
  · cases hu
theorem rd_back' {w0 w : World} {N b o j c' q : Nat} {xs : List Value} (h : Rd w0 N (some ⟨b, o, none⟩) j c' xs) (hb : Below N w0 w) : ∀ i u, (xs.drop q)[i]? = some u → w.cell? ((if c' = q then (⟨b, o, none⟩ : Addr) else ⟨b, o + q, none⟩).add i) = some u := by
  intro i u hu
  have h1 := h.1
  have h2 := h.2.1
  have hi : i < (xs.drop q).length := (List.getElem?_eq_some_iff.1 hu).1
  rw [List.length_drop] at hi
  rw [if_neg (by omega)]
  rw [List.getElem?_drop] at hu
  obtain ⟨b', o', e, hbb, hc⟩ := h.2.2.2 (by omega)
  injection e with e
  injection e with e1 e2
  subst e1 e2
  have hadd : (⟨b, o + q, none⟩ : Addr).add i = ⟨b, o + q + i, none⟩ := by unfold Addr.add; split <;> simp_all
  rw [hadd, Nat.add_assoc, hb.cell (p := ⟨b, o + (q + i), none⟩) hbb]
  exact hc (q + i) u hu
/-- What a row of rows returned looks like. -/
def RetSS (w : World) (L : List (List Int)) (e : Ending) (w' : World) : Prop :=
  ∃ (A : Option Addr) (n c : Nat) (P : List SP), e = .returned (.slice A n c) ∧ Row w' w.heap.size 22 A n c (P.map V) ∧ OwnP w' w.heap.size P ∧ P.map Prod.snd = L ∧ Below w.heap.size w w'
theorem oS_len (f : Nat) : ∀ (left head : List Int), left.length ≤ 5 → (oS f left head).length ≤ 5 ^ f := by
  induction f with
  | zero => intro left head _; simp [oS]
  | succ f ih =>
    intro left head hl
    have key : ∀ L : List Nat, (L.flatMap fun k => if 0 < k ∧ left.getD k 0 = left.getD (k - 1) 0 then [] else oS f (left.take k ++ left.drop (k + 1)) (head ++ [left.getD k 0])).length ≤ L.length * 5 ^ f := by
      intro L
      induction L with
      | nil => simp
      | cons a L ihL =>
        rw [List.flatMap_cons, List.length_append, List.length_cons, Nat.succ_mul]
        have h1 : (if 0 < a ∧ left.getD a 0 = left.getD (a - 1) 0 then ([] : List (List Int)) else oS f (left.take a ++ left.drop (a + 1)) (head ++ [left.getD a 0])).length ≤ 5 ^ f := by
          split
          · simp
          · exact ih _ _ (by simp [List.length_take, List.length_drop]; omega)
        omega
    have := key (List.range left.length)
    rw [List.length_range] at this
    rw [oS]
    calc _ ≤ left.length * 5 ^ f := this
      _ ≤ 5 * 5 ^ f := Nat.mul_le_mul_right _ hl
      _ = 5 ^ (f + 1) := by rw [Nat.pow_succ, Nat.mul_comm]
theorem oSTo_len (f : Nat) (left head : List Int) (hl : left.length ≤ 5) (k : Nat) : (oSTo f left head k).length ≤ k * 5 ^ f := by
  induction k with
  | zero => simp [oSTo]
  | succ k ih =>
    rw [oSTo_succ, List.length_append, Nat.succ_mul]
    have h1 : (if 0 < k ∧ left.getD k 0 = left.getD (k - 1) 0 then ([] : List (List Int)) else oS f (left.take k ++ left.drop (k + 1)) (head ++ [left.getD k 0])).length ≤ 5 ^ f := by
      split
      · simp
      · exact oS_len f _ _ (by simp [List.length_take, List.length_drop]; omega)
    omega
theorem oS_ne (f : Nat) : ∀ (left head : List Int), left.length = f → oS f left head ≠ [] := by
  induction f with
  | zero => intro left head _; simp [oS]
  | succ f ih =>
    intro left head hl h
    have h1 : ∀ k, oSTo f left head (k + 1) ≠ [] := by
      intro k
      induction k with
      | zero =>
        rw [oSTo_succ, if_neg (fun h => absurd h.1 (by omega))]
        intro h2
        rw [List.append_eq_nil_iff] at h2
        exact ih _ _ (by simp [List.length_drop]; omega) h2.2
      | succ k ihk =>
        rw [oSTo_succ]
        intro h2
        rw [List.append_eq_nil_iff] at h2
        exact ihk h2.1
    rw [oS_succ, hl] at h
    exact h1 f h
theorem bel_call {N : Nat} {W w5 w6 : World} (hb : Below w5.heap.size w5 w6) (h : Below N W w5) (hN : N ≤ W.heap.size) : Below N W w6 := h.trans (hb.mono (Nat.le_trans hN h.size))
theorem map_appV (P Q : List SP) : (P ++ Q).map V = P.map V ++ Q.map V := List.map_append
theorem row_some {w : World} {B : Nat} {A : Option Addr} {n c : Nat} {P : List SP} (h : Row w B 22 A n c (P.map V)) (hne : P.map Prod.snd ≠ []) : 1 ≤ n ∧ ∃ g : Nat, A = some ⟨g, 0, none⟩ := by
  have hl := h.len
  have h1 : 1 ≤ n := by
    cases P with
    | nil => exact absurd rfl hne
    | cons p P => simp at hl; omega
  obtain ⟨g, _, e, _⟩ := h.blk (g := 0) (by omega)
  exact ⟨h1, g, e⟩
theorem rd_ad {w0 w : World} {N : Nat} {ad : Addr} {j c' : Nat} {xs : List Value} (h : Rd w0 N (some ad) j c' xs) (hb : Below N w0 w) : ∀ i u, xs[i]? = some u → w.cell? (ad.add i) = some u := by
  intro i u hu
  have hi : i < xs.length := (List.getElem?_eq_some_iff.1 hu).1
  obtain ⟨b', o', e, _, _⟩ := h.2.2.2 (by have := h.1; omega)
  injection e with e
  subst e
  have h2 := rd_front' (q := j) h hb i u
  rw [List.take_of_length_le (by have := h.1; omega)] at h2
  exact h2 hu
theorem oneV (P : List SP) : ∀ u ∈ P.map V, u.oneCell' = true := by
  intro u hu
  obtain ⟨p, _, rfl⟩ := List.mem_map.1 hu
  rfl
set_option maxRecDepth 8000 in
set_option maxHeartbeats 6400000 in
theorem ordersOf_any (f : Nat) : ∀ (A : Option Addr) (n c : Nat) (left : List Int) (ad : Addr) (n2 c2 : Nat) (head : List Int) (w : World), Rd w w.heap.size A n c (left.map I) → Rd w w.heap.size (some ad) n2 c2 (head.map I) → n = f → n + n2 ≤ 5 →
    Calls Try.prog 78 #[.slice A n c, .slice (some ad) n2 c2] w (RetSS w (oS f left head)) := by
  induction f with
  | zero =>
    rintro A n c left ad n2 c2 head w hr hr2 rfl hn5
    obtain ⟨i0, hi, hz0, hz1, hz2⟩ := info_parts Try.infoI
    obtain ⟨b2, o2, hsp⟩ : ∃ b2 o2, 0 < n2 → ad = ⟨b2, o2, none⟩ := by
      rcases Nat.eq_zero_or_pos n2 with h | h
      · exact ⟨0, 0, fun h' => absurd h' (by omega)⟩
      · obtain ⟨b, o, e, _⟩ := hr2.2.2.2 h
        injection e with e
        exact ⟨b, o, fun _ => e⟩
    have hnews : ∀ j u, (head.map I)[j]? = some u → (w.alloc (.cells #[] 3)).cell? (ad.add j) = some u := by
      intro j u hu
      have hj : j < (head.map I).length := (List.getElem?_eq_some_iff.1 hu).1
      have hn2 : 0 < n2 := by have := hr2.1; omega
      obtain rfl := hsp hn2
      have h := rd_front' (q := n2) hr2 ((Below.refl w.heap.size w).alloc (Nat.le_refl _) (.cells #[] 3)) j u
      rw [List.take_of_length_le (by have := hr2.1; omega)] at h
      exact h hu
    have hl2 : (head.map I).length = n2 := hr2.1
    have hn0 : 0 + n2 = n2 := by omega
    go_enter Try.func78, Try.ntmps78
    go_wp2_with (at_builtin; refine wpList_appN _ rfl _ _ 22 rfl w.heap.size 3 i0 (.int .i64 0) 8 Try.underlying22 hi hz0 hz1 hz2 rfl _ _ _ _ rfl (Row.nil_ w 3) ad n2 c2 (head.map I) rfl hl2 hnews (oneI _) n2 hn0 (by omega) (by omega) (by simp) ?_; intro A3 c3 w3 hown3 hgrow3 hat3)
    go_ret
    refine ⟨_, 1, 1, [((A3, n2, c3), head)], rfl, Row.of_block #[.slice A3 n2 c3] 1 (heap_al0 w3 _) ?_ rfl (by omega), ?_, rfl, ?_⟩
    · have := hgrow3.size; simp at this; omega
    · intro p hp
      rw [List.mem_singleton] at hp
      subst hp
      exact (hown3.alloc _).own
    · exact kp_alloc _ (kp_grown (kp_alloc _ (Below.refl _ _) (Nat.le_refl _)) (Nat.le_refl _) hgrow3 (own_ge (Nat.le_refl _))) (Nat.le_refl _)
  | succ f ih =>
    rintro A n c left ad n2 c2 head w hr hr2 rfl hn5
    obtain ⟨i0, hi, hz0, hz1, hz2⟩ := info_parts Try.infoI
    obtain ⟨i1, hj, hy0, hy1, hy2⟩ := info_parts_of Try.infoSI
    obtain ⟨b, o, _, rfl, hbN, _, _⟩ := hr.int (show 0 < f + 1 by omega)
    have Hlen := Lib.hid hr.ilen
    have hm := hr.2.2.1
    have hnc := hr.2.1
    unfold maxLen at hm
    have hl2 : (head.map I).length = n2 := hr2.1
    have Hfin := Lib.hid (show oSTo f left head (f + 1) = oS (f + 1) left head by rw [oS_succ, Hlen.out])
    have hrow0 : Row (w.alloc (.cells #[] 22)) w.heap.size 22 (some ⟨w.heap.size, 0, none⟩) 0 0 [] := Row.nil_ w 22
    go_enter Try.func78, Try.ntmps78
    go_wp2_with fail
    go_loopw [5, 6] (fun v i wr => ∃ (k : Nat) (A' : Option Addr) (n' c' : Nat) (P : List SP), k ≤ f + 1 ∧ i = .int .i64 k ∧ v = .slice A' n' c' ∧ Row wr w.heap.size 22 A' n' c' (P.map V) ∧ OwnP wr w.heap.size P ∧ P.map Prod.snd = oSTo f left head k ∧ Below w.heap.size w wr) (fun _ i _ => f + 1 - (intOf i).toNat)
    case atStart => exact ⟨0, _, 0, 0, [], Nat.zero_le _, rfl, rfl, hrow0, (fun p hp => by cases hp), rfl, (Below.refl _ _).alloc (Nat.le_refl _) _⟩
    case round =>
      obtain ⟨k, A', n', c', P, hk, rfl, rfl, hown, hinP, hPs, hbw⟩ := hrel
      have HP := Lib.hid hPs
      clear hPs
      by_cases hlt : k < f + 1
      · obtain ⟨x, hx, hcx⟩ := (hr.below hbw).int_at hlt
        have hxD := getD_at hx
        have Hx := Lib.hid hx
        have hn'5 : n' ≤ 4000 := by
          have h1 := hown.len
          have h2 := congrArg List.length HP.out
          have h3 := oSTo_len f left head (by have := Hlen.out; omega) k
          have h4 : k * 5 ^ f ≤ 5 * 5 ^ 4 := Nat.mul_le_mul (by omega) (Nat.pow_le_pow_right (by omega) (by omega))
          rw [List.length_map] at h1 h2
          omega
        have hlt' : (k : Int) < (f : Int) + 1 := by omega
        have k0 : (0 : Int) ≤ (k : Int) := by omega
        have kc : (k : Int) ≤ (c : Int) := by omega
        have kc1 : (k : Int) + 1 ≤ (f : Int) + 1 := by omega
        have kc2 : (0 : Int) ≤ (k : Int) + 1 := by omega
        have e5 : IntKind.i64.wrap ((k : Int) + 1) = (k : Int) + 1 := by rw [IntKind.wrap_i64]; omega
        by_cases hd : 0 < k ∧ left.getD k 0 = left.getD (k - 1) 0
        · have Hst := Lib.hid (show oSTo f left head (k + 1) = oSTo f left head k by rw [oSTo_succ, if_pos hd, List.append_nil])
          obtain ⟨m, rfl⟩ : ∃ m, k = m + 1 := ⟨k - 1, by omega⟩
          obtain ⟨y, hy, hcy⟩ := (hr.below hbw).int_at (show m < f + 1 by omega)
          have hxy : x = y := by
            have h := hd.2
            rw [hxD, show m + 1 - 1 = m by omega, getD_at hy] at h
            exact h
          subst hxy
          have e0 : IntKind.i64.wrap ((m : Int) + 1 - 1) = (m : Int) := by rw [IntKind.wrap_i64]; omega
          have e1 : ((m : Int) + 1 - 1) = (m : Int) := by omega
          have m0 : (m : Int) < (f : Int) + 1 := by omega
          have m1 : (0 : Int) ≤ (m : Int) := by omega
          have m2 : (0 : Int) < (m : Int) + 1 := by omega
          clear hx hxD hy hd
          go_wp2_with fail
          go_quiet (fail)
          go_wp2_with fail
          go_roundw
          case rel => exact ⟨m + 1 + 1, A', n', c', P, by omega, by go_num, rfl, Row.quiet hown ⟨_, rfl⟩, hinP.quiet ⟨_, rfl⟩, by rw [HP.out, Hst.out], bel_drewN hbw _⟩
          case measure => simp [intOf]; omega
        · have Hst := Lib.hid (show oSTo f left head (k + 1) = oSTo f left head k ++ oS f (left.take k ++ left.drop (k + 1)) (head ++ [x]) by rw [oSTo_succ, if_neg hd, hxD])
          have HNE := Lib.hid (oS_ne f (left.take k ++ left.drop (k + 1)) (head ++ [x]) (by rw [List.length_append, List.length_take, List.length_drop, Hlen.out]; omega))
          have HL5 := Lib.hid (show (oS f (left.take k ++ left.drop (k + 1)) (head ++ [x])).length ≤ 4000 by
            have h1 := oS_len f (left.take k ++ left.drop (k + 1)) (head ++ [x]) (by rw [List.length_append, List.length_take, List.length_drop, Hlen.out]; omega)
            have h2 : 5 ^ f ≤ 5 ^ 4 := Nat.pow_le_pow_right (by omega) (by omega)
            omega)
          have hends : ∀ K : Prop, (k = 0 → K) → (∀ m y, k = m + 1 → left[m]? = some y → x ≠ y → K) → K := fun K k1 k2 => by
            cases k with
            | zero => exact k1 rfl
            | succ m =>
              obtain ⟨y, hy, _⟩ := (hr.below hbw).int_at (show m < f + 1 by omega)
              refine k2 m y rfl hy fun e => hd ⟨by omega, ?_⟩
              rw [hxD, show m + 1 - 1 = m by omega, getD_at hy, e]
          have Hx2 := Lib.hid hxD
          clear hxD hd
          refine hends _ (fun hk0 => ?_) (fun m y hkm hy hxy => ?_)
          · have b0 : ¬ (0 : Int) < (k : Int) := by omega
            have b0n : ¬ 0 < k := by omega
            clear hends hx hk0
            go_wp2_with fail
            go_quiet (fail)
            go_wp2_with fail
            obtain ⟨w0, hw0⟩ : ∃ w0, w0 = wr.drewN nq := ⟨_, rfl⟩
            have hb0 : Below w.heap.size w w0 := by rw [hw0]; exact bel_drewN hbw _
            have hown0 : Row w0 w.heap.size 22 A' n' c' (P.map V) := by rw [hw0]; exact hown
            have hinP0 : OwnP w0 w.heap.size P := by rw [hw0]; exact hinP.quiet ⟨_, rfl⟩
            have hr0 : Rd w0 w0.heap.size (some ⟨b, o, none⟩) (f + 1) c (left.map I) := (hr.below hb0).more hb0.size
            rw [← hw0]
            clear hw0 hown hbw hcx hinP
            go_region_held3 (fun w' => Below w0.heap.size w0 w')
              ((focus (repeat (first | exact Below.refl _ _ | assumption | refine kp_grown ?_ (Nat.le_refl _) hgrow1 (own_ge (Nat.le_refl _)) | refine kp_grown ?_ (Nat.le_refl _) hgrow1 (own_ge (Nat.le_add_right _ _)) | refine kp_grown ?_ (Nat.le_refl _) hgrowL (row_ge hrow1) | refine bel_call hb6 ?_ (Nat.le_refl _) | refine kp_alloc _ ?_ (Nat.le_refl _) | apply Below.drew))))
              (first
              | (refine step_app _ (by rfl) _ _ _ (by rfl) w0.heap.size 3 i0 _ 8 Try.underlying22 hi hz0 hz1 hz2 rfl _ 0 0 [] (by rfl) ?_ ⟨b, o, none⟩ k c ((left.map I).take k) (by rfl) (len_front hr.1 (by omega)) (rd_front' hr0 ?_) (one_front _ _ (oneI _)) k ?_ ?_ ?_ ?_ ?_
                 first | exact Row.of_block #[] 0 (heap_al0 _ _) (Nat.le_refl _) rfl (Nat.zero_le _)
                 (focus (repeat (first | exact Below.refl _ _ | assumption | refine kp_grown ?_ (Nat.le_refl _) hgrow1 (own_ge (Nat.le_refl _)) | refine kp_grown ?_ (Nat.le_refl _) hgrow1 (own_ge (Nat.le_add_right _ _)) | refine kp_grown ?_ (Nat.le_refl _) hgrowL (row_ge hrow1) | refine bel_call hb6 ?_ (Nat.le_refl _) | refine kp_alloc _ ?_ (Nat.le_refl _) | apply Below.drew)))
                 omega
                 omega
                 omega
                 (refine kp_size (N := w0.heap.size) ?_; focus (repeat (first | exact Below.refl _ _ | assumption | refine kp_grown ?_ (Nat.le_refl _) hgrow1 (own_ge (Nat.le_refl _)) | refine kp_grown ?_ (Nat.le_refl _) hgrow1 (own_ge (Nat.le_add_right _ _)) | refine kp_grown ?_ (Nat.le_refl _) hgrowL (row_ge hrow1) | refine bel_call hb6 ?_ (Nat.le_refl _) | refine kp_alloc _ ?_ (Nat.le_refl _) | apply Below.drew)))
                 intro A1 c1 w1 hrow1 hgrow1)
              | (refine step_app _ (by rfl) _ _ _ (by rfl) w0.heap.size 3 i0 _ 8 Try.underlying22 hi hz0 hz1 hz2 rfl A1 _ c1 _ ?_ hrow1 (if c = k + 1 then ⟨b, o, none⟩ else ⟨b, o + (k + 1), none⟩) (f - k) (c - (k + 1)) ((left.map I).drop (k + 1)) ?_ ((len_back hr.1).trans (by omega)) (rd_back' hr0 ?_) (one_back _ _ (oneI _)) f ?_ ?_ ?_ ?_ ?_
                 rfl
                 exact slice_if
                 (focus (repeat (first | exact Below.refl _ _ | assumption | refine kp_grown ?_ (Nat.le_refl _) hgrow1 (own_ge (Nat.le_refl _)) | refine kp_grown ?_ (Nat.le_refl _) hgrow1 (own_ge (Nat.le_add_right _ _)) | refine kp_grown ?_ (Nat.le_refl _) hgrowL (row_ge hrow1) | refine bel_call hb6 ?_ (Nat.le_refl _) | refine kp_alloc _ ?_ (Nat.le_refl _) | apply Below.drew)))
                 omega
                 omega
                 omega
                 (refine kp_size (N := w0.heap.size) ?_; focus (repeat (first | exact Below.refl _ _ | assumption | refine kp_grown ?_ (Nat.le_refl _) hgrow1 (own_ge (Nat.le_refl _)) | refine kp_grown ?_ (Nat.le_refl _) hgrow1 (own_ge (Nat.le_add_right _ _)) | refine kp_grown ?_ (Nat.le_refl _) hgrowL (row_ge hrow1) | refine bel_call hb6 ?_ (Nat.le_refl _) | refine kp_alloc _ ?_ (Nat.le_refl _) | apply Below.drew)))
                 intro AL cL W hrowL hgrowL))
            have hbe8 : Below w0.heap.size w0 W := by focus (repeat (first | exact Below.refl _ _ | assumption | refine kp_grown ?_ (Nat.le_refl _) hgrow1 (own_ge (Nat.le_refl _)) | refine kp_grown ?_ (Nat.le_refl _) hgrow1 (own_ge (Nat.le_add_right _ _)) | refine kp_grown ?_ (Nat.le_refl _) hgrowL (row_ge hrow1) | refine bel_call hb6 ?_ (Nat.le_refl _) | refine kp_alloc _ ?_ (Nat.le_refl _) | apply Below.drew))
            have hbW := hb0.trans (hbe8.mono hb0.size)
            have hszW := hbW.size
            have hrL : Rd W W.heap.size AL f cL ((left.take k ++ left.drop (k + 1)).map I) := by
              have h := hrowL.rd
              rw [List.nil_append, ← List.map_take, ← List.map_drop, ← List.map_append] at h
              exact h
            have hown := hown0.kept hbe8
            have hinPW := hinP0.below hbe8
            have hrh : Rd W W.heap.size (some ad) n2 c2 (head.map I) := (hr2.below hbW).more hszW
            have hcw : w.cell? ⟨b, o + k, none⟩ = some (.int .i64 x) := by
              obtain ⟨x', hx', hc'⟩ := hr.int_at hlt
              rw [Hx.out] at hx'
              injection hx' with hx'
              rw [hx']
              exact hc'
            clear hrowL hgrowL hrow1 hgrow1 hb0 hown0 hinP0 hr0 hbe8
            generalize (if c = k + 1 then some (⟨b, o, none⟩ : Addr) else some ⟨b, o + (k + 1), none⟩) = tt
            go_wp2_with fail
            go_region_held3 (fun w' => w'.cell? ⟨b, o + k, none⟩ = some (.int .i64 x) ∧ Below w.heap.size w w')
              ((refine kp_one hcw hbN ?_; first | (refine kp_grown ?_ (Nat.le_refl _) hgrow7 (row_ge hown); refine Below.trans hbW (Below.mono ?_ hszW); focus (repeat (first | exact Below.refl _ _ | assumption | refine kp_grown ?_ (Nat.le_refl _) hgrow1 (own_ge (Nat.le_refl _)) | refine kp_grown ?_ (Nat.le_refl _) hgrow1 (own_ge (Nat.le_add_right _ _)) | refine kp_grown ?_ (Nat.le_refl _) hgrow2 (row_ge hrow1) | refine bel_call hb6 ?_ (Nat.le_refl _) | refine kp_alloc _ ?_ (Nat.le_refl _) | apply Below.drew))) | (refine Below.trans hbW (Below.mono ?_ hszW); focus (repeat (first | exact Below.refl _ _ | assumption | refine kp_grown ?_ (Nat.le_refl _) hgrow1 (own_ge (Nat.le_refl _)) | refine kp_grown ?_ (Nat.le_refl _) hgrow1 (own_ge (Nat.le_add_right _ _)) | refine kp_grown ?_ (Nat.le_refl _) hgrow2 (row_ge hrow1) | refine bel_call hb6 ?_ (Nat.le_refl _) | refine kp_alloc _ ?_ (Nat.le_refl _) | apply Below.drew)))))
              (first
              | (refine step_app _ (by rfl) _ _ _ (by rfl) W.heap.size 3 i0 _ 8 Try.underlying22 hi hz0 hz1 hz2 rfl _ 0 0 [] (by rfl) ?_ ad n2 c2 (head.map I) (by rfl) hl2 (rd_ad hrh ?_) (oneI _) n2 ?_ ?_ ?_ ?_ ?_
                 first | exact Row.of_block #[] 0 (heap_al0 _ _) (Nat.le_refl _) rfl (Nat.zero_le _) | exact Row.of_block #[] 0 (heap_al1 _ _ _) (Nat.le_refl _) rfl (Nat.zero_le _) | exact Row.of_block #[] 0 (heap_al2 _ _ _) (Nat.le_add_right _ _) rfl (Nat.zero_le _)
                 (focus (repeat (first | exact Below.refl _ _ | assumption | refine kp_grown ?_ (Nat.le_refl _) hgrow1 (own_ge (Nat.le_refl _)) | refine kp_grown ?_ (Nat.le_refl _) hgrow1 (own_ge (Nat.le_add_right _ _)) | refine kp_grown ?_ (Nat.le_refl _) hgrow2 (row_ge hrow1) | refine bel_call hb6 ?_ (Nat.le_refl _) | refine kp_alloc _ ?_ (Nat.le_refl _) | apply Below.drew)))
                 omega
                 omega
                 omega
                 (refine kp_size (N := W.heap.size) ?_; focus (repeat (first | exact Below.refl _ _ | assumption | refine kp_grown ?_ (Nat.le_refl _) hgrow1 (own_ge (Nat.le_refl _)) | refine kp_grown ?_ (Nat.le_refl _) hgrow1 (own_ge (Nat.le_add_right _ _)) | refine kp_grown ?_ (Nat.le_refl _) hgrow2 (row_ge hrow1) | refine bel_call hb6 ?_ (Nat.le_refl _) | refine kp_alloc _ ?_ (Nat.le_refl _) | apply Below.drew)))
                 intro A1 c1 w1 hrow1 hgrow1)
              | (refine step_app _ (by rfl) _ _ _ (by rfl) W.heap.size 3 i0 _ 8 Try.underlying22 hi hz0 hz1 hz2 rfl A1 _ c1 _ ?_ (hrow1.alloc _) ⟨w1.heap.size, 0, none⟩ 1 1 [.int .i64 x] ?_ rfl (World.news_of_block (cs := #[.int .i64 x]) (t := 3) (fr := (0, 0)) (heap_al0 w1 _)) (oneI [x]) (n2 + 1) ?_ ?_ ?_ ?_ ?_
                 rfl
                 rfl
                 omega
                 omega
                 omega
                 (refine kp_size (N := W.heap.size) ?_; focus (repeat (first | exact Below.refl _ _ | assumption | refine kp_grown ?_ (Nat.le_refl _) hgrow1 (own_ge (Nat.le_refl _)) | refine kp_grown ?_ (Nat.le_refl _) hgrow1 (own_ge (Nat.le_add_right _ _)) | refine kp_grown ?_ (Nat.le_refl _) hgrow2 (row_ge hrow1) | refine bel_call hb6 ?_ (Nat.le_refl _) | refine kp_alloc _ ?_ (Nat.le_refl _) | apply Below.drew)))
                 intro A2 c2' w2 hrow2 hgrow2
                 obtain ⟨gh, _, rfl, _⟩ := hrow2.blk (g := 0) (Nat.succ_pos _))
              | (refine step_app _ (by rfl) _ _ _ (by rfl) W.heap.size 3 i0 _ 8 Try.underlying22 hi hz0 hz1 hz2 rfl A1 _ c1 _ ?_ (hrow1) ⟨W.heap.size + 1, 0, none⟩ 1 1 [.int .i64 x] ?_ rfl (World.news_of_block (cs := #[.int .i64 x]) (t := 3) (fr := (0, 0)) (block_far hgrow1 (heap_al2 _ _ _) (own_ne (Nat.ne_of_gt (Nat.lt_succ_self _))))) (oneI [x]) (n2 + 1) ?_ ?_ ?_ ?_ ?_
                 rfl
                 rfl
                 omega
                 omega
                 omega
                 (refine kp_size (N := W.heap.size) ?_; focus (repeat (first | exact Below.refl _ _ | assumption | refine kp_grown ?_ (Nat.le_refl _) hgrow1 (own_ge (Nat.le_refl _)) | refine kp_grown ?_ (Nat.le_refl _) hgrow1 (own_ge (Nat.le_add_right _ _)) | refine kp_grown ?_ (Nat.le_refl _) hgrow2 (row_ge hrow1) | refine bel_call hb6 ?_ (Nat.le_refl _) | refine kp_alloc _ ?_ (Nat.le_refl _) | apply Below.drew)))
                 intro A2 c2' w2 hrow2 hgrow2
                 obtain ⟨gh, _, rfl, _⟩ := hrow2.blk (g := 0) (Nat.succ_pos _))
              | (refine step_app _ (by rfl) _ _ _ (by rfl) W.heap.size 3 i0 _ 8 Try.underlying22 hi hz0 hz1 hz2 rfl A1 _ c1 _ ?_ (hrow1) ⟨W.heap.size, 0, none⟩ 1 1 [.int .i64 x] ?_ rfl (World.news_of_block (cs := #[.int .i64 x]) (t := 3) (fr := (0, 0)) (block_far hgrow1 (heap_al1 _ _ _) (own_ne (Nat.ne_of_lt (Nat.lt_succ_self _))))) (oneI [x]) (n2 + 1) ?_ ?_ ?_ ?_ ?_
                 rfl
                 rfl
                 omega
                 omega
                 omega
                 (refine kp_size (N := W.heap.size) ?_; focus (repeat (first | exact Below.refl _ _ | assumption | refine kp_grown ?_ (Nat.le_refl _) hgrow1 (own_ge (Nat.le_refl _)) | refine kp_grown ?_ (Nat.le_refl _) hgrow1 (own_ge (Nat.le_add_right _ _)) | refine kp_grown ?_ (Nat.le_refl _) hgrow2 (row_ge hrow1) | refine bel_call hb6 ?_ (Nat.le_refl _) | refine kp_alloc _ ?_ (Nat.le_refl _) | apply Below.drew)))
                 intro A2 c2' w2 hrow2 hgrow2
                 obtain ⟨gh, _, rfl, _⟩ := hrow2.blk (g := 0) (Nat.succ_pos _))
              | (go_at_call 78
                 have hbq : Below W.heap.size W w2 := by (focus (repeat (first | exact Below.refl _ _ | assumption | refine kp_grown ?_ (Nat.le_refl _) hgrow1 (own_ge (Nat.le_refl _)) | refine kp_grown ?_ (Nat.le_refl _) hgrow1 (own_ge (Nat.le_add_right _ _)) | refine kp_grown ?_ (Nat.le_refl _) hgrow2 (row_ge hrow1) | refine bel_call hb6 ?_ (Nat.le_refl _) | refine kp_alloc _ ?_ (Nat.le_refl _) | apply Below.drew)))
                 have hq := ih AL f cL (left.take k ++ left.drop (k + 1)) ⟨gh, 0, none⟩ (n2 + 1) c2' (head ++ [x]) w2 ((hrL.below hbq).more hbq.size) (by rw [List.map_append]; exact hrow2.rd) rfl (by omega)
                 with_reducible refine hq.mono ?_
                 clear hq
                 rintro e w6 ⟨A6, n6, c6, P6, rfl, hrow6, hin6, hP6, hb6⟩
                 obtain ⟨h61, g6, rfl⟩ := row_some hrow6 (by rw [hP6]; exact HNE.out))
              | (refine step_app _ (by rfl) _ _ _ (by rfl) w.heap.size 22 i1 _ 24 Try.underlying23 hj hy0 hy1 hy2 rfl A' n' c' (P.map V) (by rfl) ?_ ⟨g6, 0, none⟩ n6 c6 (P6.map V) (by rfl) hrow6.len (rd_news hrow6.rd) (oneV _) (n' + n6) ?_ ?_ ?_ ?_ ?_
                 (refine hown.kept ?_; focus (repeat (first | exact Below.refl _ _ | assumption | refine kp_grown ?_ (Nat.le_refl _) hgrow1 (own_ge (Nat.le_refl _)) | refine kp_grown ?_ (Nat.le_refl _) hgrow1 (own_ge (Nat.le_add_right _ _)) | refine kp_grown ?_ (Nat.le_refl _) hgrow2 (row_ge hrow1) | refine bel_call hb6 ?_ (Nat.le_refl _) | refine kp_alloc _ ?_ (Nat.le_refl _) | apply Below.drew)))
                 rfl
                 (have := HL5.out; have := hrow6.len; rw [List.length_map, ← List.length_map (f := Prod.snd), hP6] at this; omega)
                 omega
                 (refine Nat.le_trans hszW (kp_size (N := W.heap.size) ?_); focus (repeat (first | exact Below.refl _ _ | assumption | refine kp_grown ?_ (Nat.le_refl _) hgrow1 (own_ge (Nat.le_refl _)) | refine kp_grown ?_ (Nat.le_refl _) hgrow1 (own_ge (Nat.le_add_right _ _)) | refine kp_grown ?_ (Nat.le_refl _) hgrow2 (row_ge hrow1) | refine bel_call hb6 ?_ (Nat.le_refl _) | refine kp_alloc _ ?_ (Nat.le_refl _) | apply Below.drew)))
                 intro A7 c7 w7 hrow7 hgrow7))
            all_goals
              have hbe6 : Below W.heap.size W w6 := by focus (repeat (first | exact Below.refl _ _ | assumption | refine kp_grown ?_ (Nat.le_refl _) hgrow1 (own_ge (Nat.le_refl _)) | refine kp_grown ?_ (Nat.le_refl _) hgrow1 (own_ge (Nat.le_add_right _ _)) | refine kp_grown ?_ (Nat.le_refl _) hgrow2 (row_ge hrow1) | refine bel_call hb6 ?_ (Nat.le_refl _) | refine kp_alloc _ ?_ (Nat.le_refl _) | apply Below.drew))
              have hown6 := hown.kept hbe6
              have hinP6 := (hinPW.below hbe6).grown hown6 hgrow7
              have hinQ6 := (hin6.more (Nat.le_trans hszW hbq.size)).grown hown6 hgrow7
              have hbw7 : Below w.heap.size w w7 := kp_grown (hbW.trans (hbe6.mono hszW)) (Nat.le_refl _) hgrow7 (row_ge hown6)
              have HP6 := Lib.hid hP6
              clear hrow1 hgrow1 hrow2 hgrow2 hrow6 hin6 hb6 hbq hgrow7 hown hown6 hinPW hrL hrh hbe6 hP6
              go_wp2_with fail
              go_roundw
              case rel =>
                repeat apply Exists.intro
                refine ⟨⟨k + 1, A7, n' + n6, c7, P ++ P6, by omega, by go_num, rfl, by rw [map_appV]; exact hrow7, (fun p hp => (List.mem_append.1 hp).elim (hinP6 p) (hinQ6 p)), by rw [List.map_append, HP.out, HP6.out, Hst.out], hbw7⟩, rfl⟩
              case measure => simp [intOf]; omega
          · obtain ⟨y', hy', hcy⟩ := (hr.below hbw).int_at (show m < f + 1 by omega)
            obtain rfl : y = y' := by rw [hy] at hy'; injection hy'
            have hxy' : (x == y) = false := by simpa using hxy
            have e1 : (k : Int) - 1 = (m : Int) := by omega
            have e0 : IntKind.i64.wrap ((k : Int) - 1) = (m : Int) := by rw [IntKind.wrap_i64]; omega
            have b0 : (0 : Int) < (k : Int) := by omega
            have b0n : 0 < k := by omega
            have m0 : (m : Int) < (f : Int) + 1 := by omega
            have m1 : (0 : Int) ≤ (m : Int) := by omega
            clear hends hx hy hy' hxy hkm
            go_wp2_with fail
            go_quiet (fail)
            go_wp2_with fail
            obtain ⟨w0, hw0⟩ : ∃ w0, w0 = wr.drewN nq := ⟨_, rfl⟩
            have hb0 : Below w.heap.size w w0 := by rw [hw0]; exact bel_drewN hbw _
            have hown0 : Row w0 w.heap.size 22 A' n' c' (P.map V) := by rw [hw0]; exact hown
            have hinP0 : OwnP w0 w.heap.size P := by rw [hw0]; exact hinP.quiet ⟨_, rfl⟩
            have hr0 : Rd w0 w0.heap.size (some ⟨b, o, none⟩) (f + 1) c (left.map I) := (hr.below hb0).more hb0.size
            rw [← hw0]
            clear hw0 hown hbw hcx hinP
            go_region_held3 (fun w' => Below w0.heap.size w0 w')
              ((focus (repeat (first | exact Below.refl _ _ | assumption | refine kp_grown ?_ (Nat.le_refl _) hgrow1 (own_ge (Nat.le_refl _)) | refine kp_grown ?_ (Nat.le_refl _) hgrow1 (own_ge (Nat.le_add_right _ _)) | refine kp_grown ?_ (Nat.le_refl _) hgrowL (row_ge hrow1) | refine bel_call hb6 ?_ (Nat.le_refl _) | refine kp_alloc _ ?_ (Nat.le_refl _) | apply Below.drew))))
              (first
              | (refine step_app _ (by rfl) _ _ _ (by rfl) w0.heap.size 3 i0 _ 8 Try.underlying22 hi hz0 hz1 hz2 rfl _ 0 0 [] (by rfl) ?_ ⟨b, o, none⟩ k c ((left.map I).take k) (by rfl) (len_front hr.1 (by omega)) (rd_front' hr0 ?_) (one_front _ _ (oneI _)) k ?_ ?_ ?_ ?_ ?_
                 first | exact Row.of_block #[] 0 (heap_al0 _ _) (Nat.le_refl _) rfl (Nat.zero_le _)
                 (focus (repeat (first | exact Below.refl _ _ | assumption | refine kp_grown ?_ (Nat.le_refl _) hgrow1 (own_ge (Nat.le_refl _)) | refine kp_grown ?_ (Nat.le_refl _) hgrow1 (own_ge (Nat.le_add_right _ _)) | refine kp_grown ?_ (Nat.le_refl _) hgrowL (row_ge hrow1) | refine bel_call hb6 ?_ (Nat.le_refl _) | refine kp_alloc _ ?_ (Nat.le_refl _) | apply Below.drew)))
                 omega
                 omega
                 omega
                 (refine kp_size (N := w0.heap.size) ?_; focus (repeat (first | exact Below.refl _ _ | assumption | refine kp_grown ?_ (Nat.le_refl _) hgrow1 (own_ge (Nat.le_refl _)) | refine kp_grown ?_ (Nat.le_refl _) hgrow1 (own_ge (Nat.le_add_right _ _)) | refine kp_grown ?_ (Nat.le_refl _) hgrowL (row_ge hrow1) | refine bel_call hb6 ?_ (Nat.le_refl _) | refine kp_alloc _ ?_ (Nat.le_refl _) | apply Below.drew)))
                 intro A1 c1 w1 hrow1 hgrow1)
              | (refine step_app _ (by rfl) _ _ _ (by rfl) w0.heap.size 3 i0 _ 8 Try.underlying22 hi hz0 hz1 hz2 rfl A1 _ c1 _ ?_ hrow1 (if c = k + 1 then ⟨b, o, none⟩ else ⟨b, o + (k + 1), none⟩) (f - k) (c - (k + 1)) ((left.map I).drop (k + 1)) ?_ ((len_back hr.1).trans (by omega)) (rd_back' hr0 ?_) (one_back _ _ (oneI _)) f ?_ ?_ ?_ ?_ ?_
                 rfl
                 exact slice_if
                 (focus (repeat (first | exact Below.refl _ _ | assumption | refine kp_grown ?_ (Nat.le_refl _) hgrow1 (own_ge (Nat.le_refl _)) | refine kp_grown ?_ (Nat.le_refl _) hgrow1 (own_ge (Nat.le_add_right _ _)) | refine kp_grown ?_ (Nat.le_refl _) hgrowL (row_ge hrow1) | refine bel_call hb6 ?_ (Nat.le_refl _) | refine kp_alloc _ ?_ (Nat.le_refl _) | apply Below.drew)))
                 omega
                 omega
                 omega
                 (refine kp_size (N := w0.heap.size) ?_; focus (repeat (first | exact Below.refl _ _ | assumption | refine kp_grown ?_ (Nat.le_refl _) hgrow1 (own_ge (Nat.le_refl _)) | refine kp_grown ?_ (Nat.le_refl _) hgrow1 (own_ge (Nat.le_add_right _ _)) | refine kp_grown ?_ (Nat.le_refl _) hgrowL (row_ge hrow1) | refine bel_call hb6 ?_ (Nat.le_refl _) | refine kp_alloc _ ?_ (Nat.le_refl _) | apply Below.drew)))
                 intro AL cL W hrowL hgrowL))
            have hbe8 : Below w0.heap.size w0 W := by focus (repeat (first | exact Below.refl _ _ | assumption | refine kp_grown ?_ (Nat.le_refl _) hgrow1 (own_ge (Nat.le_refl _)) | refine kp_grown ?_ (Nat.le_refl _) hgrow1 (own_ge (Nat.le_add_right _ _)) | refine kp_grown ?_ (Nat.le_refl _) hgrowL (row_ge hrow1) | refine bel_call hb6 ?_ (Nat.le_refl _) | refine kp_alloc _ ?_ (Nat.le_refl _) | apply Below.drew))
            have hbW := hb0.trans (hbe8.mono hb0.size)
            have hszW := hbW.size
            have hrL : Rd W W.heap.size AL f cL ((left.take k ++ left.drop (k + 1)).map I) := by
              have h := hrowL.rd
              rw [List.nil_append, ← List.map_take, ← List.map_drop, ← List.map_append] at h
              exact h
            have hown := hown0.kept hbe8
            have hinPW := hinP0.below hbe8
            have hrh : Rd W W.heap.size (some ad) n2 c2 (head.map I) := (hr2.below hbW).more hszW
            have hcw : w.cell? ⟨b, o + k, none⟩ = some (.int .i64 x) := by
              obtain ⟨x', hx', hc'⟩ := hr.int_at hlt
              rw [Hx.out] at hx'
              injection hx' with hx'
              rw [hx']
              exact hc'
            clear hrowL hgrowL hrow1 hgrow1 hb0 hown0 hinP0 hr0 hbe8
            generalize (if c = k + 1 then some (⟨b, o, none⟩ : Addr) else some ⟨b, o + (k + 1), none⟩) = tt
            go_wp2_with fail
            go_region_held3 (fun w' => w'.cell? ⟨b, o + k, none⟩ = some (.int .i64 x) ∧ Below w.heap.size w w')
              ((refine kp_one hcw hbN ?_; first | (refine kp_grown ?_ (Nat.le_refl _) hgrow7 (row_ge hown); refine Below.trans hbW (Below.mono ?_ hszW); focus (repeat (first | exact Below.refl _ _ | assumption | refine kp_grown ?_ (Nat.le_refl _) hgrow1 (own_ge (Nat.le_refl _)) | refine kp_grown ?_ (Nat.le_refl _) hgrow1 (own_ge (Nat.le_add_right _ _)) | refine kp_grown ?_ (Nat.le_refl _) hgrow2 (row_ge hrow1) | refine bel_call hb6 ?_ (Nat.le_refl _) | refine kp_alloc _ ?_ (Nat.le_refl _) | apply Below.drew))) | (refine Below.trans hbW (Below.mono ?_ hszW); focus (repeat (first | exact Below.refl _ _ | assumption | refine kp_grown ?_ (Nat.le_refl _) hgrow1 (own_ge (Nat.le_refl _)) | refine kp_grown ?_ (Nat.le_refl _) hgrow1 (own_ge (Nat.le_add_right _ _)) | refine kp_grown ?_ (Nat.le_refl _) hgrow2 (row_ge hrow1) | refine bel_call hb6 ?_ (Nat.le_refl _) | refine kp_alloc _ ?_ (Nat.le_refl _) | apply Below.drew)))))
              (first
              | (refine step_app _ (by rfl) _ _ _ (by rfl) W.heap.size 3 i0 _ 8 Try.underlying22 hi hz0 hz1 hz2 rfl _ 0 0 [] (by rfl) ?_ ad n2 c2 (head.map I) (by rfl) hl2 (rd_ad hrh ?_) (oneI _) n2 ?_ ?_ ?_ ?_ ?_
                 first | exact Row.of_block #[] 0 (heap_al0 _ _) (Nat.le_refl _) rfl (Nat.zero_le _) | exact Row.of_block #[] 0 (heap_al1 _ _ _) (Nat.le_refl _) rfl (Nat.zero_le _) | exact Row.of_block #[] 0 (heap_al2 _ _ _) (Nat.le_add_right _ _) rfl (Nat.zero_le _)
                 (focus (repeat (first | exact Below.refl _ _ | assumption | refine kp_grown ?_ (Nat.le_refl _) hgrow1 (own_ge (Nat.le_refl _)) | refine kp_grown ?_ (Nat.le_refl _) hgrow1 (own_ge (Nat.le_add_right _ _)) | refine kp_grown ?_ (Nat.le_refl _) hgrow2 (row_ge hrow1) | refine bel_call hb6 ?_ (Nat.le_refl _) | refine kp_alloc _ ?_ (Nat.le_refl _) | apply Below.drew)))
                 omega
                 omega
                 omega
                 (refine kp_size (N := W.heap.size) ?_; focus (repeat (first | exact Below.refl _ _ | assumption | refine kp_grown ?_ (Nat.le_refl _) hgrow1 (own_ge (Nat.le_refl _)) | refine kp_grown ?_ (Nat.le_refl _) hgrow1 (own_ge (Nat.le_add_right _ _)) | refine kp_grown ?_ (Nat.le_refl _) hgrow2 (row_ge hrow1) | refine bel_call hb6 ?_ (Nat.le_refl _) | refine kp_alloc _ ?_ (Nat.le_refl _) | apply Below.drew)))
                 intro A1 c1 w1 hrow1 hgrow1)
              | (refine step_app _ (by rfl) _ _ _ (by rfl) W.heap.size 3 i0 _ 8 Try.underlying22 hi hz0 hz1 hz2 rfl A1 _ c1 _ ?_ (hrow1.alloc _) ⟨w1.heap.size, 0, none⟩ 1 1 [.int .i64 x] ?_ rfl (World.news_of_block (cs := #[.int .i64 x]) (t := 3) (fr := (0, 0)) (heap_al0 w1 _)) (oneI [x]) (n2 + 1) ?_ ?_ ?_ ?_ ?_
                 rfl
                 rfl
                 omega
                 omega
                 omega
                 (refine kp_size (N := W.heap.size) ?_; focus (repeat (first | exact Below.refl _ _ | assumption | refine kp_grown ?_ (Nat.le_refl _) hgrow1 (own_ge (Nat.le_refl _)) | refine kp_grown ?_ (Nat.le_refl _) hgrow1 (own_ge (Nat.le_add_right _ _)) | refine kp_grown ?_ (Nat.le_refl _) hgrow2 (row_ge hrow1) | refine bel_call hb6 ?_ (Nat.le_refl _) | refine kp_alloc _ ?_ (Nat.le_refl _) | apply Below.drew)))
                 intro A2 c2' w2 hrow2 hgrow2
                 obtain ⟨gh, _, rfl, _⟩ := hrow2.blk (g := 0) (Nat.succ_pos _))
              | (refine step_app _ (by rfl) _ _ _ (by rfl) W.heap.size 3 i0 _ 8 Try.underlying22 hi hz0 hz1 hz2 rfl A1 _ c1 _ ?_ (hrow1) ⟨W.heap.size + 1, 0, none⟩ 1 1 [.int .i64 x] ?_ rfl (World.news_of_block (cs := #[.int .i64 x]) (t := 3) (fr := (0, 0)) (block_far hgrow1 (heap_al2 _ _ _) (own_ne (Nat.ne_of_gt (Nat.lt_succ_self _))))) (oneI [x]) (n2 + 1) ?_ ?_ ?_ ?_ ?_
                 rfl
                 rfl
                 omega
                 omega
                 omega
                 (refine kp_size (N := W.heap.size) ?_; focus (repeat (first | exact Below.refl _ _ | assumption | refine kp_grown ?_ (Nat.le_refl _) hgrow1 (own_ge (Nat.le_refl _)) | refine kp_grown ?_ (Nat.le_refl _) hgrow1 (own_ge (Nat.le_add_right _ _)) | refine kp_grown ?_ (Nat.le_refl _) hgrow2 (row_ge hrow1) | refine bel_call hb6 ?_ (Nat.le_refl _) | refine kp_alloc _ ?_ (Nat.le_refl _) | apply Below.drew)))
                 intro A2 c2' w2 hrow2 hgrow2
                 obtain ⟨gh, _, rfl, _⟩ := hrow2.blk (g := 0) (Nat.succ_pos _))
              | (refine step_app _ (by rfl) _ _ _ (by rfl) W.heap.size 3 i0 _ 8 Try.underlying22 hi hz0 hz1 hz2 rfl A1 _ c1 _ ?_ (hrow1) ⟨W.heap.size, 0, none⟩ 1 1 [.int .i64 x] ?_ rfl (World.news_of_block (cs := #[.int .i64 x]) (t := 3) (fr := (0, 0)) (block_far hgrow1 (heap_al1 _ _ _) (own_ne (Nat.ne_of_lt (Nat.lt_succ_self _))))) (oneI [x]) (n2 + 1) ?_ ?_ ?_ ?_ ?_
                 rfl
                 rfl
                 omega
                 omega
                 omega
                 (refine kp_size (N := W.heap.size) ?_; focus (repeat (first | exact Below.refl _ _ | assumption | refine kp_grown ?_ (Nat.le_refl _) hgrow1 (own_ge (Nat.le_refl _)) | refine kp_grown ?_ (Nat.le_refl _) hgrow1 (own_ge (Nat.le_add_right _ _)) | refine kp_grown ?_ (Nat.le_refl _) hgrow2 (row_ge hrow1) | refine bel_call hb6 ?_ (Nat.le_refl _) | refine kp_alloc _ ?_ (Nat.le_refl _) | apply Below.drew)))
                 intro A2 c2' w2 hrow2 hgrow2
                 obtain ⟨gh, _, rfl, _⟩ := hrow2.blk (g := 0) (Nat.succ_pos _))
              | (go_at_call 78
                 have hbq : Below W.heap.size W w2 := by (focus (repeat (first | exact Below.refl _ _ | assumption | refine kp_grown ?_ (Nat.le_refl _) hgrow1 (own_ge (Nat.le_refl _)) | refine kp_grown ?_ (Nat.le_refl _) hgrow1 (own_ge (Nat.le_add_right _ _)) | refine kp_grown ?_ (Nat.le_refl _) hgrow2 (row_ge hrow1) | refine bel_call hb6 ?_ (Nat.le_refl _) | refine kp_alloc _ ?_ (Nat.le_refl _) | apply Below.drew)))
                 have hq := ih AL f cL (left.take k ++ left.drop (k + 1)) ⟨gh, 0, none⟩ (n2 + 1) c2' (head ++ [x]) w2 ((hrL.below hbq).more hbq.size) (by rw [List.map_append]; exact hrow2.rd) rfl (by omega)
                 with_reducible refine hq.mono ?_
                 clear hq
                 rintro e w6 ⟨A6, n6, c6, P6, rfl, hrow6, hin6, hP6, hb6⟩
                 obtain ⟨h61, g6, rfl⟩ := row_some hrow6 (by rw [hP6]; exact HNE.out))
              | (refine step_app _ (by rfl) _ _ _ (by rfl) w.heap.size 22 i1 _ 24 Try.underlying23 hj hy0 hy1 hy2 rfl A' n' c' (P.map V) (by rfl) ?_ ⟨g6, 0, none⟩ n6 c6 (P6.map V) (by rfl) hrow6.len (rd_news hrow6.rd) (oneV _) (n' + n6) ?_ ?_ ?_ ?_ ?_
                 (refine hown.kept ?_; focus (repeat (first | exact Below.refl _ _ | assumption | refine kp_grown ?_ (Nat.le_refl _) hgrow1 (own_ge (Nat.le_refl _)) | refine kp_grown ?_ (Nat.le_refl _) hgrow1 (own_ge (Nat.le_add_right _ _)) | refine kp_grown ?_ (Nat.le_refl _) hgrow2 (row_ge hrow1) | refine bel_call hb6 ?_ (Nat.le_refl _) | refine kp_alloc _ ?_ (Nat.le_refl _) | apply Below.drew)))
                 rfl
                 (have := HL5.out; have := hrow6.len; rw [List.length_map, ← List.length_map (f := Prod.snd), hP6] at this; omega)
                 omega
                 (refine Nat.le_trans hszW (kp_size (N := W.heap.size) ?_); focus (repeat (first | exact Below.refl _ _ | assumption | refine kp_grown ?_ (Nat.le_refl _) hgrow1 (own_ge (Nat.le_refl _)) | refine kp_grown ?_ (Nat.le_refl _) hgrow1 (own_ge (Nat.le_add_right _ _)) | refine kp_grown ?_ (Nat.le_refl _) hgrow2 (row_ge hrow1) | refine bel_call hb6 ?_ (Nat.le_refl _) | refine kp_alloc _ ?_ (Nat.le_refl _) | apply Below.drew)))
                 intro A7 c7 w7 hrow7 hgrow7))
            all_goals
              have hbe6 : Below W.heap.size W w6 := by focus (repeat (first | exact Below.refl _ _ | assumption | refine kp_grown ?_ (Nat.le_refl _) hgrow1 (own_ge (Nat.le_refl _)) | refine kp_grown ?_ (Nat.le_refl _) hgrow1 (own_ge (Nat.le_add_right _ _)) | refine kp_grown ?_ (Nat.le_refl _) hgrow2 (row_ge hrow1) | refine bel_call hb6 ?_ (Nat.le_refl _) | refine kp_alloc _ ?_ (Nat.le_refl _) | apply Below.drew))
              have hown6 := hown.kept hbe6
              have hinP6 := (hinPW.below hbe6).grown hown6 hgrow7
              have hinQ6 := (hin6.more (Nat.le_trans hszW hbq.size)).grown hown6 hgrow7
              have hbw7 : Below w.heap.size w w7 := kp_grown (hbW.trans (hbe6.mono hszW)) (Nat.le_refl _) hgrow7 (row_ge hown6)
              have HP6 := Lib.hid hP6
              clear hrow1 hgrow1 hrow2 hgrow2 hrow6 hin6 hb6 hbq hgrow7 hown hown6 hinPW hrL hrh hbe6 hP6
              go_wp2_with fail
              go_roundw
              case rel =>
                repeat apply Exists.intro
                refine ⟨⟨k + 1, A7, n' + n6, c7, P ++ P6, by omega, by go_num, rfl, by rw [map_appV]; exact hrow7, (fun p hp => (List.mem_append.1 hp).elim (hinP6 p) (hinQ6 p)), by rw [List.map_append, HP.out, HP6.out, Hst.out], hbw7⟩, rfl⟩
              case measure => simp [intOf]; omega
      · obtain rfl : k = f + 1 := by omega
        go_wp2_with fail
        go_ret
        exact ⟨A', n', c', P, rfl, hown, hinP, by rw [HP.out, Hfin.out], hbw⟩
end Go.Proofs.Ytopmifidhabobaa
