/-
  Numbers taken out of a list.
-/
import Derived.Test.YtopmifidhabobaaPls
namespace Go.Proofs.Ytopmifidhabobaa
open Go.RowKit Go.Sort
set_option linter.unusedVariables false
set_option linter.unusedSimpArgs false

/-- Where the number is among the first j. -/
def AtS (r : List Int) (x : Int) (j : Nat) (v : Value) : Prop := (v = .int .i64 (-1) ∧ x ∉ r.take j) ∨ ∃ q : Nat, v = .int .i64 q ∧ q = r.idxOf x ∧ x ∈ r.take j
theorem mem_take_at {r : List Int} {x y : Int} {j : Nat} (hy : r[j]? = some y) : x ∈ r.take (j + 1) ↔ x ∈ r.take j ∨ x = y := by
  rw [take_snoc hy, List.mem_append, List.mem_singleton]
theorem idx_at {r : List Int} {x : Int} {j : Nat} (hy : r[j]? = some x) (hn : x ∉ r.take j) : j = r.idxOf x := by
  obtain ⟨hj, h⟩ := List.getElem?_eq_some_iff.1 hy
  have h1 : r = r.take j ++ r.drop j := (List.take_append_drop j r).symm
  have h2 : r.drop j = x :: r.drop (j + 1) := by rw [List.drop_eq_getElem_cons hj, h]
  conv => rhs; rw [h1]
  rw [List.idxOf_append, if_neg hn, h2, List.idxOf_cons_self, List.length_take]
  omega
theorem erase_idx (r : List Int) (x : Int) : r.take (r.idxOf x) ++ r.drop (r.idxOf x + 1) = r.erase x := by
  rw [List.erase_eq_eraseIdx_of_idxOf rfl, List.eraseIdx_eq_take_drop_succ]
set_option maxRecDepth 8000 in
set_option maxHeartbeats 6400000 in
theorem takeAll_any (A : Option Addr) (n c : Nat) (L : List Int) (A2 : Option Addr) (n2 c2 : Nat) (gs : List Int) (w : World) (hr : Rd w w.heap.size A n c (L.map I)) (hr2 : Rd w w.heap.size A2 n2 c2 (gs.map I)) (hn3 : n ≤ 1000) (hn4 : n2 ≤ 1000) (hn1 : 1 ≤ n) :
    Calls Try.prog 83 #[.slice A n c, .slice A2 n2 c2] w (WoRet w L gs) := by
  have Hn2 := Lib.hid hr2.ilen
  have hm2 := hr2.2.2.1
  have hnc2 := hr2.2.1
  unfold maxLen at hm2
  obtain ⟨i0, hi, hz0, hz1, hz2⟩ := info_parts Try.infoI
  obtain ⟨b1, o1, _, rfl, _⟩ := hr.int (show 0 < n by omega)
  have hr0' := hr
  have hl0 : (L.map I).length = n := hr.1
  have hcell : ∀ j u, (L.map I)[j]? = some u → (w.alloc (.cells #[] 3)).cell? ((⟨b1, o1, none⟩ : Addr).add j) = some u := by
    intro j u hu
    have h := rd_front' (q := n) hr ((Below.refl w.heap.size w).alloc (Nat.le_refl _) (.cells #[] 3)) j u
    rw [List.take_of_length_le (by omega)] at h
    exact h hu
  have hn0 : 0 + n = n := by omega
  go_enter Try.func83, Try.ntmps83
  go_wp2_with (at_builtin; refine wpList_appN _ rfl _ _ 22 rfl w.heap.size 3 i0 (.int .i64 0) 8 Try.underlying22 hi hz0 hz1 hz2 rfl _ _ _ _ rfl (Row.nil_ w 3) ⟨b1, o1, none⟩ n c (L.map I) rfl hl0 hcell (oneI _) n hn0 (by omega) (by omega) (by simp) ?_; intro A3 c3 w3 hown3 hgrow3 hat3)
  have hb3 : Below w.heap.size w w3 := kp_grown (kp_alloc _ (Below.refl _ _) (Nat.le_refl _)) (Nat.le_refl _) hgrow3 (own_ge (Nat.le_refl _))
  rw [List.nil_append] at hown3
  clear hgrow3 hat3 hcell
  go_wp2_with fail
  go_loopw [6, 7] (fun v i wr => ∃ (k n' : Nat) (A' : Option Addr) (c' : Nat) (r : List Int), k ≤ n2 ∧ i = .int .i64 k ∧ v = .slice A' n' c' ∧ Row wr w.heap.size 3 A' n' c' (r.map I) ∧ wo L (gs.take k) = some r ∧ n' ≤ 1000 ∧ Below w.heap.size w wr) (fun _ i _ => n2 - (intOf i).toNat)
  case atStart => exact ⟨0, n, A3, c3, L, Nat.zero_le _, rfl, rfl, hown3, rfl, hn3, hb3⟩
  case round =>
    obtain ⟨k, n', A', c', r, hk, rfl, rfl, hrow, hwo, hn', hbw⟩ := hrel
    have Hwo := Lib.hid hwo
    have hlr := hrow.len
    have Hlr := Lib.hid (show r.length = n' by simpa using hlr)
    have hcm := hrow.rd.2.2.1
    have hnc' := hrow.rd.2.1
    unfold maxLen at hcm
    clear hwo hlr
    by_cases hlt : k < n2
    · obtain ⟨b2, o2, x, rfl, hb2, hx, hcx⟩ := (hr2.below hbw).int hlt
      have hlt' : (k : Int) < (n2 : Int) := by omega
      have k0 : (0 : Int) ≤ (k : Int) := by omega
      have e5 : IntKind.i64.wrap ((k : Int) + 1) = (k : Int) + 1 := by rw [IntKind.wrap_i64]; omega
      have htk : gs.take (k + 1) = gs.take k ++ [x] := take_snoc hx
      have Hstep := Lib.hid (show wo L (gs.take (k + 1)) = if x ∈ r then some (r.erase x) else none by rw [htk, wo_app, Hwo.out]; exact wo_one r x)
      clear hx htk
      go_wp2_with fail
      obtain ⟨w4, rfl⟩ : ∃ w4, w4 = wr := ⟨_, rfl⟩
      go_loopw [8, 9] (fun a i wz => ∃ j : Nat, j ≤ n' ∧ i = .int .i64 j ∧ AtS r x j a ∧ Quiet w4 wz) (fun _ i _ => n' - (intOf i).toNat)
      case atStart => exact ⟨0, Nat.zero_le _, rfl, .inl ⟨rfl, by simp⟩, Quiet.refl _⟩
      case round =>
        obtain ⟨j, hj, rfl, hat, hq⟩ := hrel
        have hcx2 : wr.cell? ⟨b2, o2 + k, none⟩ = some (.int .i64 x) := by
          obtain ⟨q, rfl⟩ := hq
          exact hcx
        by_cases hlj : j < n'
        · obtain ⟨g, o, y, rfl, hg, hy, hcy⟩ := (hq.rd hrow.rd).int hlj
          have hlj' : (j : Int) < (n' : Int) := by omega
          have j0 : (0 : Int) ≤ (j : Int) := by omega
          have j5 : IntKind.i64.wrap ((j : Int) + 1) = (j : Int) + 1 := by rw [IntKind.wrap_i64]; omega
          have Hmt := Lib.hid (mem_take_at (x := x) hy)
          have Hy := Lib.hid hy
          clear hy
          rcases hat with ⟨rfl, hno⟩ | ⟨q, rfl, hq1, hyes⟩
          · have Hno := Lib.hid hno
            clear hno
            by_cases hyx : y = x
            · subst hyx
              have Hat := Lib.hid (show AtS r y (j + 1) (.int .i64 j) from .inr ⟨j, rfl, idx_at Hy.out Hno.out, Hmt.out.2 (.inr rfl)⟩)
              go_wp2_with fail
              go_quiet (fail)
              go_wp2_with fail
              go_roundw
              case rel => exact ⟨j + 1, by omega, by go_num, Hat.out, hq.drewN _⟩
              case measure => simp [intOf]; omega
            · have Hat := Lib.hid (show AtS r x (j + 1) (.int .i64 (-1)) from .inl ⟨rfl, fun h => (Hmt.out.1 h).elim Hno.out (fun e => hyx e.symm)⟩)
              have hyx' : (y == x) = false := by simpa using hyx
              clear hyx
              go_wp2_with fail
              go_quiet (fail)
              go_wp2_with fail
              go_roundw
              case rel => exact ⟨j + 1, by omega, by go_num, Hat.out, hq.drewN _⟩
              case measure => simp [intOf]; omega
          · have Hat := Lib.hid (show AtS r x (j + 1) (.int .i64 q) from .inr ⟨q, rfl, hq1, Hmt.out.2 (.inl hyes)⟩)
            have hqn : ¬ (q : Int) < 0 := by omega
            have hqd : decide ((q : Int) < 0) = false := decide_eq_false hqn
            clear hq1 hyes
            cases hyx : (y == x)
            all_goals
              go_wp2_with fail
              go_quiet (fail)
              go_wp2_with fail
              go_roundw
              case rel => exact ⟨j + 1, by omega, by go_num, Hat.out, hq.drewN _⟩
              case measure => simp [intOf]; omega
        · obtain rfl : j = n' := by omega
          have hlj' : ¬ (j : Int) < (j : Int) := by omega
          rcases hat with ⟨rfl, hno⟩ | ⟨q, rfl, hq1, hyes⟩
          · have Hv := Lib.hid (show wo L gs = none by
              rw [List.take_of_length_le (by have := Hlr.out; omega)] at hno
              conv => lhs; rw [← List.take_append_drop (k + 1) gs]
              rw [wo_app, Hstep.out, if_neg hno]
              rfl)
            clear hno
            go_wp2_with fail
            go_ret2
            exact ⟨none, 0, 0, false, rfl, hbw.trans (hq.bel _), .inl ⟨Hv.out, rfl⟩⟩
          · rw [List.take_of_length_le (by have := Hlr.out; omega)] at hyes
            have hql := List.idxOf_lt_length_iff.2 hyes
            rw [← hq1] at hql
            have hqn : q < j := by have := Hlr.out; omega
            obtain ⟨f, rfl⟩ : ∃ f, j = f + 1 := ⟨j - 1, by omega⟩
            have Hst := Lib.hid (show wo L (gs.take (k + 1)) = some (r.take q ++ r.drop (q + 1)) by rw [Hstep.out, if_pos hyes, hq1, erase_idx])
            obtain ⟨g, o, _, rfl, hg, _, _⟩ := (hq.rd hrow.rd).int (show 0 < f + 1 by omega)
            have q0 : (0 : Int) ≤ (q : Int) := by omega
            have qn : ¬ (q : Int) < 0 := by omega
            have qc : (q : Int) ≤ (c' : Int) := by omega
            have q1 : (q : Int) + 1 ≤ (f : Int) + 1 := by omega
            have q2 : (0 : Int) ≤ (q : Int) + 1 := by omega
            have q5 : IntKind.i64.wrap ((q : Int) + 1) = (q : Int) + 1 := by rw [IntKind.wrap_i64]; omega
            clear hyes hql hq1
            have hbr := hbw.trans (hq.bel w.heap.size)
            have hr0 : Rd wr wr.heap.size (some ⟨g, o, none⟩) (f + 1) c' (r.map I) := (hrow.quiet hq).rd
            have hsz := hbr.size
            clear hcx2 hlt' hn0
            go_wp2_with fail
            go_region_held3 (fun w' => Below wr.heap.size wr w')
              ((focus (repeat (first | exact Below.refl _ _ | assumption | refine kp_grown ?_ (Nat.le_refl _) hgrow1 (own_ge (Nat.le_refl _)) | refine kp_grown ?_ (Nat.le_refl _) hgrow1 (own_ge (Nat.le_add_right _ _)) | refine kp_grown ?_ (Nat.le_refl _) hgrowL (row_ge hrow1) | refine kp_alloc _ ?_ (Nat.le_refl _) | apply Below.drew))))
              (first
              | (refine step_app _ (by rfl) _ _ _ (by rfl) wr.heap.size 3 i0 _ 8 Try.underlying22 hi hz0 hz1 hz2 rfl _ 0 0 [] (by rfl) ?_ ⟨g, o, none⟩ q c' ((r.map I).take q) (by rfl) (len_front hr0.1 (by omega)) (rd_front' hr0 ?_) (one_front _ _ (oneI _)) q ?_ ?_ ?_ ?_ ?_
                 first | exact Row.of_block #[] 0 (heap_al0 _ _) (Nat.le_refl _) rfl (Nat.zero_le _)
                 (focus (repeat (first | exact Below.refl _ _ | assumption | refine kp_grown ?_ (Nat.le_refl _) hgrow1 (own_ge (Nat.le_refl _)) | refine kp_grown ?_ (Nat.le_refl _) hgrow1 (own_ge (Nat.le_add_right _ _)) | refine kp_grown ?_ (Nat.le_refl _) hgrowL (row_ge hrow1) | refine kp_alloc _ ?_ (Nat.le_refl _) | apply Below.drew)))
                 omega
                 omega
                 omega
                 (refine kp_size (N := wr.heap.size) ?_; (focus (repeat (first | exact Below.refl _ _ | assumption | refine kp_grown ?_ (Nat.le_refl _) hgrow1 (own_ge (Nat.le_refl _)) | refine kp_grown ?_ (Nat.le_refl _) hgrow1 (own_ge (Nat.le_add_right _ _)) | refine kp_grown ?_ (Nat.le_refl _) hgrowL (row_ge hrow1) | refine kp_alloc _ ?_ (Nat.le_refl _) | apply Below.drew))))
                 intro A1 c1 w1 hrow1 hgrow1)
              | (refine step_app _ (by rfl) _ _ _ (by rfl) wr.heap.size 3 i0 _ 8 Try.underlying22 hi hz0 hz1 hz2 rfl A1 _ c1 _ ?_ hrow1 (if c' = q + 1 then ⟨g, o, none⟩ else ⟨g, o + (q + 1), none⟩) (f - q) (c' - (q + 1)) ((r.map I).drop (q + 1)) ?_ ((len_back hr0.1).trans (by omega)) (rd_back' hr0 ?_) (one_back _ _ (oneI _)) f ?_ ?_ ?_ ?_ ?_
                 rfl
                 exact slice_if
                 (focus (repeat (first | exact Below.refl _ _ | assumption | refine kp_grown ?_ (Nat.le_refl _) hgrow1 (own_ge (Nat.le_refl _)) | refine kp_grown ?_ (Nat.le_refl _) hgrow1 (own_ge (Nat.le_add_right _ _)) | refine kp_grown ?_ (Nat.le_refl _) hgrowL (row_ge hrow1) | refine kp_alloc _ ?_ (Nat.le_refl _) | apply Below.drew)))
                 omega
                 omega
                 omega
                 (refine kp_size (N := wr.heap.size) ?_; (focus (repeat (first | exact Below.refl _ _ | assumption | refine kp_grown ?_ (Nat.le_refl _) hgrow1 (own_ge (Nat.le_refl _)) | refine kp_grown ?_ (Nat.le_refl _) hgrow1 (own_ge (Nat.le_add_right _ _)) | refine kp_grown ?_ (Nat.le_refl _) hgrowL (row_ge hrow1) | refine kp_alloc _ ?_ (Nat.le_refl _) | apply Below.drew))))
                 intro AL cL W hrowL hgrowL))
            have hbe8 : Below wr.heap.size wr W := by (focus (repeat (first | exact Below.refl _ _ | assumption | refine kp_grown ?_ (Nat.le_refl _) hgrow1 (own_ge (Nat.le_refl _)) | refine kp_grown ?_ (Nat.le_refl _) hgrow1 (own_ge (Nat.le_add_right _ _)) | refine kp_grown ?_ (Nat.le_refl _) hgrowL (row_ge hrow1) | refine kp_alloc _ ?_ (Nat.le_refl _) | apply Below.drew)))
            have hbW := hbr.trans (hbe8.mono hsz)
            have hrL : Row W w.heap.size 3 AL f cL ((r.take q ++ r.drop (q + 1)).map I) := by
              have h := hrowL.more hsz
              rw [List.nil_append, ← List.map_take, ← List.map_drop, ← List.map_append] at h
              exact h
            clear hrowL hgrowL hrow1 hgrow1 hr0 hbe8
            generalize (if c' = q + 1 then some (⟨g, o, none⟩ : Addr) else some ⟨g, o + (q + 1), none⟩) = tt
            go_wp2_with fail
            go_roundw
            case rel => exact ⟨k + 1, f, AL, cL, _, by omega, by go_num, rfl, hrL, Hst.out, by omega, hbW⟩
            case measure => simp [intOf]; omega
    · obtain rfl : k = n2 := by omega
      have hlt' : ¬ (k : Int) < (k : Int) := by omega
      have Hall := Lib.hid (show wo L gs = some r by have h := Hwo.out; rw [List.take_of_length_le (by have := Hn2.out; omega)] at h; exact h)
      go_wp2_with fail
      go_ret2
      exact ⟨A', n', c', true, rfl, hbw, .inr ⟨r, Hall.out, rfl, hrow⟩⟩
end Go.Proofs.Ytopmifidhabobaa
