/-
  The reference's sorted texts and windows once more: what is returned can be appended to.
-/
import Derived.Test.YtfbmcfdmffpfmaaFactS
namespace Go.Proofs.Ytfbmcfdmffpfmaa
open Go.RowKit
set_option linter.unusedVariables false
set_option linter.unusedSimpArgs false

/-- A row of its own returned, that can be appended to. -/
def RetRo (w : World) (t : TypeId) (xs : List Value) (e : Ending) (w' : World) : Prop :=
  ∃ A n c, e = .returned (.slice A n c) ∧ Row w' w.heap.size t A n c xs ∧ Below w.heap.size w w'
set_option maxRecDepth 8000 in
set_option maxHeartbeats 3200000 in
theorem sortTextsR_any (A : Option Addr) (n c : Nat) (ws : List (List UInt8)) (w : World) (hr : Rd w w.heap.size A n c (ws.map S)) (hn20 : n ≤ 1048576) :
    Calls Try.prog 80 #[.slice A n c] w (RetRo w 9 ((stT ws).map S)) := by
  have hm := hr.2.2.1
  have hnc := hr.2.1
  have Hn := Lib.hid hr.slen
  unfold maxLen at hm
  obtain ⟨i0, hi, hz0, hz1, hz2⟩ := info_parts Try.infoXs
  go_enter Try.func80, Try.ntmps80
  go_wp2
  go_loopw [3, 4] (fun v i wr => ∃ (j g c' : Nat), j ≤ n ∧ i = .int .i64 j ∧ v = .slice (some ⟨g, 0, none⟩) j c' ∧ Row wr w.heap.size 9 (some ⟨g, 0, none⟩) j c' ((stT (ws.take j)).map S) ∧ Below w.heap.size w wr) (fun _ i _ => n - (intOf i).toNat)
  case atStart =>
    refine ⟨0, w.heap.size, 0, Nat.zero_le _, rfl, rfl, ?_, ?_⟩
    · rw [List.take_zero, stT_nil]
      exact Row.nil_ w 9
    · exact (Below.refl _ _).alloc (Nat.le_refl _) _
  case round =>
    obtain ⟨j, g, c', hj, rfl, rfl, hown, hbw⟩ := hrel
    by_cases hjn : j < n
    · obtain ⟨b, o, x, rfl, hb, hx, hc⟩ := (hr.below hbw).str hjn
      have Hx := Lib.hid hx
      clear hx
      have hj' : (j : Int) < (n : Int) := by omega
      have hrd := hown.rd
      have hsz := hbw.size
      go_wp2_with fail
      obtain ⟨wo, rfl⟩ : ∃ wo : World, wo = wr := ⟨_, rfl⟩
      go_loopw [5] (fun k wr => ∃ q : Nat, q ≤ j ∧ k = .int .i64 q ∧ (∀ y ∈ (stT (ws.take j)).take q, y ≤ x) ∧ Quiet wo wr) (fun k _ => j - (intOf k).toNat)
      case atStart => exact ⟨0, Nat.zero_le _, rfl, by simp, Quiet.refl _⟩
      case round =>
        obtain ⟨q, hq, rfl, hle, hqw⟩ := hrel
        have Hle := Lib.hid hle
        clear hle
        obtain ⟨x', hx', hcx⟩ := (hqw.rd (hr.below hbw)).str_at hjn
        rw [Hx.out] at hx'
        injection hx' with hx'
        subst hx'
        clear hc
        by_cases hqj : q < j
        · obtain ⟨y, hy, hcy⟩ := (hqw.rd hrd).str_at hqj
          have Hy := Lib.hid hy
          clear hy
          have hq' : (q : Int) < (j : Int) := by omega
          rw [Nat.zero_add] at hcy
          cases hyx : (Op.bytesLess y x || y == x) with
          | true =>
            have Hn2 := Lib.hid (take_all_succ (p := fun z => z ≤ x) Hle.out Hy.out (bleq_le hyx))
            go_wp2_with fail
            go_quiet (fail)
            go_wp2_with fail
            go_roundw
            case rel => exact ⟨q + 1, by omega, by go_num, Hn2.out, hqw.drewN _⟩
            case measure => simp [intOf]; omega
          | false =>
            have Hin := Lib.hid (insS_two (l := stT (ws.take j)) (q := q) (by rw [stT_len, List.length_take, Hn.out]; omega) Hle.out (.inr ⟨y, Hy.out, bleq_nle hyx⟩))
            go_wp2_with fail
            go_quiet (fail)
            go_wp2_with fail
            clear hcy
            obtain ⟨w0, hw0⟩ : ∃ w0, w0 = wr.drewN nq := ⟨_, rfl⟩
            have hcx0 : w0.cell? ⟨b, o + j, none⟩ = some (.string ⟨x.toArray⟩) := by rw [hw0]; exact hcx
            have hrow0 : Row w0 w.heap.size 9 (some ⟨g, 0, none⟩) j c' ((stT (ws.take j)).map S) := by rw [hw0]; exact hown.quiet (hqw.drewN nq)
            have hbe0 : Below w.heap.size w w0 := by rw [hw0]; exact hbw.trans ((hqw.drewN nq).bel _)
            have hsz0 := hbe0.size
            have Hbe0 := Lib.hid hbe0
            rw [← hw0]
            have hq0 : (0 : Int) ≤ (q : Int) := by omega
            have hj0 : (0 : Int) ≤ (j : Int) := by omega
            have hrd0 := hrow0.rd
            have hcb0 := hrd0.2.1
            have hlen0 : ((stT (ws.take j)).map S).length = j := hrd0.1
            have hqc : (q : Int) ≤ (c' : Int) := by omega
            have hbN : (⟨b, o + j, none⟩ : Addr).block < w0.heap.size := by show b < w0.heap.size; omega
            clear hw0 hbw hown hrd hcx hqw hbe0
            go_region_held3 (fun w' => w'.cell? ⟨b, o + j, none⟩ = some (.string ⟨x.toArray⟩) ∧ Below w0.heap.size w0 w')
              ((refine kp_one hcx0 hbN ?_; focus (repeat (first | exact Below.refl _ _ | assumption | refine kp_grown ?_ (Nat.le_refl _) hgrow1 (own_ge (Nat.le_refl _)) | refine kp_grown ?_ (Nat.le_refl _) hgrow1 (own_ge (Nat.le_add_right _ _)) | refine kp_grown ?_ (Nat.le_refl _) hgrow2 (row_ge hrow1) | refine kp_grown ?_ (Nat.le_refl _) hgrow3 (row_ge hrow2) | refine kp_alloc _ ?_ (Nat.le_refl _) | apply Below.drew))))
              (first
               | (refine step_app _ (by rfl) _ _ _ (by rfl) w0.heap.size 9 i0 _ 16 Try.underlying24 hi hz0 hz1 hz2 rfl _ 0 0 [] (by rfl) ?_ _ q _ (((stT (ws.take j)).map S).take q) (by rfl) (len_front hlen0 hq) (rd_front hrd0 ?_) (one_front _ _ (oneS _)) q ?_ ?_ ?_ ?_ ?_
                  first | exact Row.of_block #[] 0 (heap_al0 _ _) (Nat.le_refl _) rfl (Nat.zero_le _) | exact Row.of_block #[] 0 (heap_al1 _ _ _) (Nat.le_refl _) rfl (Nat.zero_le _) | exact Row.of_block #[] 0 (heap_al2 _ _ _) (Nat.le_add_right _ _) rfl (Nat.zero_le _)
                  (focus (repeat (first | exact Below.refl _ _ | assumption | refine kp_grown ?_ (Nat.le_refl _) hgrow1 (own_ge (Nat.le_refl _)) | refine kp_grown ?_ (Nat.le_refl _) hgrow1 (own_ge (Nat.le_add_right _ _)) | refine kp_grown ?_ (Nat.le_refl _) hgrow2 (row_ge hrow1) | refine kp_grown ?_ (Nat.le_refl _) hgrow3 (row_ge hrow2) | refine kp_alloc _ ?_ (Nat.le_refl _) | apply Below.drew)))
                  omega
                  omega
                  omega
                  (refine kp_size (N := w0.heap.size) ?_; focus (repeat (first | exact Below.refl _ _ | assumption | refine kp_grown ?_ (Nat.le_refl _) hgrow1 (own_ge (Nat.le_refl _)) | refine kp_grown ?_ (Nat.le_refl _) hgrow1 (own_ge (Nat.le_add_right _ _)) | refine kp_grown ?_ (Nat.le_refl _) hgrow2 (row_ge hrow1) | refine kp_grown ?_ (Nat.le_refl _) hgrow3 (row_ge hrow2) | refine kp_alloc _ ?_ (Nat.le_refl _) | apply Below.drew)))
                  intro A1 c1 w1 hrow1 hgrow1)
               | (refine step_app _ (by rfl) _ _ _ (by rfl) w0.heap.size 9 i0 _ 16 Try.underlying24 hi hz0 hz1 hz2 rfl A1 _ c1 _ ?_ (hrow1.alloc _) ⟨w1.heap.size, 0, none⟩ 1 1 [.string ⟨x.toArray⟩] ?_ rfl (World.news_of_block (cs := #[.string ⟨x.toArray⟩]) (t := 9) (fr := (0, 0)) (heap_al0 w1 _)) (oneS [x]) (q + 1) ?_ ?_ ?_ ?_ ?_
                  rfl
                  rfl
                  omega
                  omega
                  omega
                  (refine kp_size (N := w0.heap.size) ?_; focus (repeat (first | exact Below.refl _ _ | assumption | refine kp_grown ?_ (Nat.le_refl _) hgrow1 (own_ge (Nat.le_refl _)) | refine kp_grown ?_ (Nat.le_refl _) hgrow1 (own_ge (Nat.le_add_right _ _)) | refine kp_grown ?_ (Nat.le_refl _) hgrow2 (row_ge hrow1) | refine kp_grown ?_ (Nat.le_refl _) hgrow3 (row_ge hrow2) | refine kp_alloc _ ?_ (Nat.le_refl _) | apply Below.drew)))
                  intro A2 c2 w2 hrow2 hgrow2)
               | (refine step_app _ (by rfl) _ _ _ (by rfl) w0.heap.size 9 i0 _ 16 Try.underlying24 hi hz0 hz1 hz2 rfl A1 _ c1 _ ?_ (hrow1) ⟨w0.heap.size + 1, 0, none⟩ 1 1 [.string ⟨x.toArray⟩] ?_ rfl (World.news_of_block (cs := #[.string ⟨x.toArray⟩]) (t := 9) (fr := (0, 0)) (block_far hgrow1 (heap_al2 _ _ _) (own_ne (Nat.ne_of_gt (Nat.lt_succ_self _))))) (oneS [x]) (q + 1) ?_ ?_ ?_ ?_ ?_
                  rfl
                  rfl
                  omega
                  omega
                  omega
                  (refine kp_size (N := w0.heap.size) ?_; focus (repeat (first | exact Below.refl _ _ | assumption | refine kp_grown ?_ (Nat.le_refl _) hgrow1 (own_ge (Nat.le_refl _)) | refine kp_grown ?_ (Nat.le_refl _) hgrow1 (own_ge (Nat.le_add_right _ _)) | refine kp_grown ?_ (Nat.le_refl _) hgrow2 (row_ge hrow1) | refine kp_grown ?_ (Nat.le_refl _) hgrow3 (row_ge hrow2) | refine kp_alloc _ ?_ (Nat.le_refl _) | apply Below.drew)))
                  intro A2 c2 w2 hrow2 hgrow2)
               | (refine step_app _ (by rfl) _ _ _ (by rfl) w0.heap.size 9 i0 _ 16 Try.underlying24 hi hz0 hz1 hz2 rfl A1 _ c1 _ ?_ (hrow1) ⟨w0.heap.size, 0, none⟩ 1 1 [.string ⟨x.toArray⟩] ?_ rfl (World.news_of_block (cs := #[.string ⟨x.toArray⟩]) (t := 9) (fr := (0, 0)) (block_far hgrow1 (heap_al1 _ _ _) (own_ne (Nat.ne_of_lt (Nat.lt_succ_self _))))) (oneS [x]) (q + 1) ?_ ?_ ?_ ?_ ?_
                  rfl
                  rfl
                  omega
                  omega
                  omega
                  (refine kp_size (N := w0.heap.size) ?_; focus (repeat (first | exact Below.refl _ _ | assumption | refine kp_grown ?_ (Nat.le_refl _) hgrow1 (own_ge (Nat.le_refl _)) | refine kp_grown ?_ (Nat.le_refl _) hgrow1 (own_ge (Nat.le_add_right _ _)) | refine kp_grown ?_ (Nat.le_refl _) hgrow2 (row_ge hrow1) | refine kp_grown ?_ (Nat.le_refl _) hgrow3 (row_ge hrow2) | refine kp_alloc _ ?_ (Nat.le_refl _) | apply Below.drew)))
                  intro A2 c2 w2 hrow2 hgrow2)
               | (refine step_app _ (by rfl) _ _ _ (by rfl) w0.heap.size 9 i0 _ 16 Try.underlying24 hi hz0 hz1 hz2 rfl A2 _ c2 _ ?_ hrow2 (if c' = q then ⟨g, 0, none⟩ else ⟨g, q, none⟩) (j - q) (c' - q) (((stT (ws.take j)).map S).drop q) ?_ (len_back hlen0) (rd_back2 hrd0 ?_) (one_back _ _ (oneS _)) (j + 1) ?_ ?_ ?_ ?_ ?_
                  rfl
                  exact slice_if
                  (focus (repeat (first | exact Below.refl _ _ | assumption | refine kp_grown ?_ (Nat.le_refl _) hgrow1 (own_ge (Nat.le_refl _)) | refine kp_grown ?_ (Nat.le_refl _) hgrow1 (own_ge (Nat.le_add_right _ _)) | refine kp_grown ?_ (Nat.le_refl _) hgrow2 (row_ge hrow1) | refine kp_grown ?_ (Nat.le_refl _) hgrow3 (row_ge hrow2) | refine kp_alloc _ ?_ (Nat.le_refl _) | apply Below.drew)))
                  omega
                  omega
                  omega
                  (refine kp_size (N := w0.heap.size) ?_; focus (repeat (first | exact Below.refl _ _ | assumption | refine kp_grown ?_ (Nat.le_refl _) hgrow1 (own_ge (Nat.le_refl _)) | refine kp_grown ?_ (Nat.le_refl _) hgrow1 (own_ge (Nat.le_add_right _ _)) | refine kp_grown ?_ (Nat.le_refl _) hgrow2 (row_ge hrow1) | refine kp_grown ?_ (Nat.le_refl _) hgrow3 (row_ge hrow2) | refine kp_alloc _ ?_ (Nat.le_refl _) | apply Below.drew)))
                  intro A3 c3 w3 hrow3 hgrow3))
            all_goals
              have hbe3 : Below w0.heap.size w0 w3 := by focus (repeat (first | exact Below.refl _ _ | assumption | refine kp_grown ?_ (Nat.le_refl _) hgrow1 (own_ge (Nat.le_refl _)) | refine kp_grown ?_ (Nat.le_refl _) hgrow1 (own_ge (Nat.le_add_right _ _)) | refine kp_grown ?_ (Nat.le_refl _) hgrow2 (row_ge hrow1) | refine kp_grown ?_ (Nat.le_refl _) hgrow3 (row_ge hrow2) | refine kp_alloc _ ?_ (Nat.le_refl _) | apply Below.drew))
              obtain ⟨g3, cap3, he3, _, _⟩ := World.ownsRow.form hrow3 (by omega)
              injection he3 with ha3 _ _
              subst ha3
              have hre : w.heap.size ≤ w0.heap.size := hsz0
              have HR := Lib.hid (hrow3.more hre)
              have HB := Lib.hid (Hbe0.out.trans (hbe3.mono hre))
              clear hrow3 hrow2 hrow1 hgrow1 hgrow2 hgrow3 hbe3
              go_wp2_with fail
              go_roundw
              case rel =>
                refine ⟨j + 1, g3, c3, by omega, by go_num, rfl, ?_, HB.out⟩
                have h := HR.out
                rw [stT_take_succ Hx.out, Hin.out]
                simp only [List.map_append, List.map_take, List.map_drop, List.map_cons, List.map_nil, List.nil_append, List.append_assoc, S] at h ⊢
                exact h
              case measure => simp [intOf]; omega
        · have hq' : ¬ (q : Int) < (j : Int) := by omega
          have hqj' : decide ((q : Int) < (j : Int)) = false := by simp; omega
          have Hin := Lib.hid (insS_two (l := stT (ws.take j)) (q := q) (by rw [stT_len, List.length_take, Hn.out]; omega) Hle.out (.inl (by rw [stT_len, List.length_take, Hn.out]; omega)))
          go_wp2_with fail
          go_quiet (fail)
          go_wp2_with fail
          obtain ⟨w0, hw0⟩ : ∃ w0, w0 = wr.drewN nq := ⟨_, rfl⟩
          have hcx0 : w0.cell? ⟨b, o + j, none⟩ = some (.string ⟨x.toArray⟩) := by rw [hw0]; exact hcx
          have hrow0 : Row w0 w.heap.size 9 (some ⟨g, 0, none⟩) j c' ((stT (ws.take j)).map S) := by rw [hw0]; exact hown.quiet (hqw.drewN nq)
          have hbe0 : Below w.heap.size w w0 := by rw [hw0]; exact hbw.trans ((hqw.drewN nq).bel _)
          have hsz0 := hbe0.size
          have Hbe0 := Lib.hid hbe0
          rw [← hw0]
          have hq0 : (0 : Int) ≤ (q : Int) := by omega
          have hj0 : (0 : Int) ≤ (j : Int) := by omega
          have hrd0 := hrow0.rd
          have hcb0 := hrd0.2.1
          have hlen0 : ((stT (ws.take j)).map S).length = j := hrd0.1
          have hqc : (q : Int) ≤ (c' : Int) := by omega
          have hbN : (⟨b, o + j, none⟩ : Addr).block < w0.heap.size := by show b < w0.heap.size; omega
          clear hw0 hbw hown hrd hcx hqw hbe0
          go_region_held3 (fun w' => w'.cell? ⟨b, o + j, none⟩ = some (.string ⟨x.toArray⟩) ∧ Below w0.heap.size w0 w')
            ((refine kp_one hcx0 hbN ?_; focus (repeat (first | exact Below.refl _ _ | assumption | refine kp_grown ?_ (Nat.le_refl _) hgrow1 (own_ge (Nat.le_refl _)) | refine kp_grown ?_ (Nat.le_refl _) hgrow1 (own_ge (Nat.le_add_right _ _)) | refine kp_grown ?_ (Nat.le_refl _) hgrow2 (row_ge hrow1) | refine kp_grown ?_ (Nat.le_refl _) hgrow3 (row_ge hrow2) | refine kp_alloc _ ?_ (Nat.le_refl _) | apply Below.drew))))
            (first
             | (refine step_app _ (by rfl) _ _ _ (by rfl) w0.heap.size 9 i0 _ 16 Try.underlying24 hi hz0 hz1 hz2 rfl _ 0 0 [] (by rfl) ?_ _ q _ (((stT (ws.take j)).map S).take q) (by rfl) (len_front hlen0 hq) (rd_front hrd0 ?_) (one_front _ _ (oneS _)) q ?_ ?_ ?_ ?_ ?_
                first | exact Row.of_block #[] 0 (heap_al0 _ _) (Nat.le_refl _) rfl (Nat.zero_le _) | exact Row.of_block #[] 0 (heap_al1 _ _ _) (Nat.le_refl _) rfl (Nat.zero_le _) | exact Row.of_block #[] 0 (heap_al2 _ _ _) (Nat.le_add_right _ _) rfl (Nat.zero_le _)
                (focus (repeat (first | exact Below.refl _ _ | assumption | refine kp_grown ?_ (Nat.le_refl _) hgrow1 (own_ge (Nat.le_refl _)) | refine kp_grown ?_ (Nat.le_refl _) hgrow1 (own_ge (Nat.le_add_right _ _)) | refine kp_grown ?_ (Nat.le_refl _) hgrow2 (row_ge hrow1) | refine kp_grown ?_ (Nat.le_refl _) hgrow3 (row_ge hrow2) | refine kp_alloc _ ?_ (Nat.le_refl _) | apply Below.drew)))
                omega
                omega
                omega
                (refine kp_size (N := w0.heap.size) ?_; focus (repeat (first | exact Below.refl _ _ | assumption | refine kp_grown ?_ (Nat.le_refl _) hgrow1 (own_ge (Nat.le_refl _)) | refine kp_grown ?_ (Nat.le_refl _) hgrow1 (own_ge (Nat.le_add_right _ _)) | refine kp_grown ?_ (Nat.le_refl _) hgrow2 (row_ge hrow1) | refine kp_grown ?_ (Nat.le_refl _) hgrow3 (row_ge hrow2) | refine kp_alloc _ ?_ (Nat.le_refl _) | apply Below.drew)))
                intro A1 c1 w1 hrow1 hgrow1)
             | (refine step_app _ (by rfl) _ _ _ (by rfl) w0.heap.size 9 i0 _ 16 Try.underlying24 hi hz0 hz1 hz2 rfl A1 _ c1 _ ?_ (hrow1.alloc _) ⟨w1.heap.size, 0, none⟩ 1 1 [.string ⟨x.toArray⟩] ?_ rfl (World.news_of_block (cs := #[.string ⟨x.toArray⟩]) (t := 9) (fr := (0, 0)) (heap_al0 w1 _)) (oneS [x]) (q + 1) ?_ ?_ ?_ ?_ ?_
                rfl
                rfl
                omega
                omega
                omega
                (refine kp_size (N := w0.heap.size) ?_; focus (repeat (first | exact Below.refl _ _ | assumption | refine kp_grown ?_ (Nat.le_refl _) hgrow1 (own_ge (Nat.le_refl _)) | refine kp_grown ?_ (Nat.le_refl _) hgrow1 (own_ge (Nat.le_add_right _ _)) | refine kp_grown ?_ (Nat.le_refl _) hgrow2 (row_ge hrow1) | refine kp_grown ?_ (Nat.le_refl _) hgrow3 (row_ge hrow2) | refine kp_alloc _ ?_ (Nat.le_refl _) | apply Below.drew)))
                intro A2 c2 w2 hrow2 hgrow2)
             | (refine step_app _ (by rfl) _ _ _ (by rfl) w0.heap.size 9 i0 _ 16 Try.underlying24 hi hz0 hz1 hz2 rfl A1 _ c1 _ ?_ (hrow1) ⟨w0.heap.size + 1, 0, none⟩ 1 1 [.string ⟨x.toArray⟩] ?_ rfl (World.news_of_block (cs := #[.string ⟨x.toArray⟩]) (t := 9) (fr := (0, 0)) (block_far hgrow1 (heap_al2 _ _ _) (own_ne (Nat.ne_of_gt (Nat.lt_succ_self _))))) (oneS [x]) (q + 1) ?_ ?_ ?_ ?_ ?_
                rfl
                rfl
                omega
                omega
                omega
                (refine kp_size (N := w0.heap.size) ?_; focus (repeat (first | exact Below.refl _ _ | assumption | refine kp_grown ?_ (Nat.le_refl _) hgrow1 (own_ge (Nat.le_refl _)) | refine kp_grown ?_ (Nat.le_refl _) hgrow1 (own_ge (Nat.le_add_right _ _)) | refine kp_grown ?_ (Nat.le_refl _) hgrow2 (row_ge hrow1) | refine kp_grown ?_ (Nat.le_refl _) hgrow3 (row_ge hrow2) | refine kp_alloc _ ?_ (Nat.le_refl _) | apply Below.drew)))
                intro A2 c2 w2 hrow2 hgrow2)
             | (refine step_app _ (by rfl) _ _ _ (by rfl) w0.heap.size 9 i0 _ 16 Try.underlying24 hi hz0 hz1 hz2 rfl A1 _ c1 _ ?_ (hrow1) ⟨w0.heap.size, 0, none⟩ 1 1 [.string ⟨x.toArray⟩] ?_ rfl (World.news_of_block (cs := #[.string ⟨x.toArray⟩]) (t := 9) (fr := (0, 0)) (block_far hgrow1 (heap_al1 _ _ _) (own_ne (Nat.ne_of_lt (Nat.lt_succ_self _))))) (oneS [x]) (q + 1) ?_ ?_ ?_ ?_ ?_
                rfl
                rfl
                omega
                omega
                omega
                (refine kp_size (N := w0.heap.size) ?_; focus (repeat (first | exact Below.refl _ _ | assumption | refine kp_grown ?_ (Nat.le_refl _) hgrow1 (own_ge (Nat.le_refl _)) | refine kp_grown ?_ (Nat.le_refl _) hgrow1 (own_ge (Nat.le_add_right _ _)) | refine kp_grown ?_ (Nat.le_refl _) hgrow2 (row_ge hrow1) | refine kp_grown ?_ (Nat.le_refl _) hgrow3 (row_ge hrow2) | refine kp_alloc _ ?_ (Nat.le_refl _) | apply Below.drew)))
                intro A2 c2 w2 hrow2 hgrow2)
             | (refine step_app _ (by rfl) _ _ _ (by rfl) w0.heap.size 9 i0 _ 16 Try.underlying24 hi hz0 hz1 hz2 rfl A2 _ c2 _ ?_ hrow2 (if c' = q then ⟨g, 0, none⟩ else ⟨g, q, none⟩) (j - q) (c' - q) (((stT (ws.take j)).map S).drop q) ?_ (len_back hlen0) (rd_back2 hrd0 ?_) (one_back _ _ (oneS _)) (j + 1) ?_ ?_ ?_ ?_ ?_
                rfl
                exact slice_if
                (focus (repeat (first | exact Below.refl _ _ | assumption | refine kp_grown ?_ (Nat.le_refl _) hgrow1 (own_ge (Nat.le_refl _)) | refine kp_grown ?_ (Nat.le_refl _) hgrow1 (own_ge (Nat.le_add_right _ _)) | refine kp_grown ?_ (Nat.le_refl _) hgrow2 (row_ge hrow1) | refine kp_grown ?_ (Nat.le_refl _) hgrow3 (row_ge hrow2) | refine kp_alloc _ ?_ (Nat.le_refl _) | apply Below.drew)))
                omega
                omega
                omega
                (refine kp_size (N := w0.heap.size) ?_; focus (repeat (first | exact Below.refl _ _ | assumption | refine kp_grown ?_ (Nat.le_refl _) hgrow1 (own_ge (Nat.le_refl _)) | refine kp_grown ?_ (Nat.le_refl _) hgrow1 (own_ge (Nat.le_add_right _ _)) | refine kp_grown ?_ (Nat.le_refl _) hgrow2 (row_ge hrow1) | refine kp_grown ?_ (Nat.le_refl _) hgrow3 (row_ge hrow2) | refine kp_alloc _ ?_ (Nat.le_refl _) | apply Below.drew)))
                intro A3 c3 w3 hrow3 hgrow3))
          all_goals
            have hbe3 : Below w0.heap.size w0 w3 := by focus (repeat (first | exact Below.refl _ _ | assumption | refine kp_grown ?_ (Nat.le_refl _) hgrow1 (own_ge (Nat.le_refl _)) | refine kp_grown ?_ (Nat.le_refl _) hgrow1 (own_ge (Nat.le_add_right _ _)) | refine kp_grown ?_ (Nat.le_refl _) hgrow2 (row_ge hrow1) | refine kp_grown ?_ (Nat.le_refl _) hgrow3 (row_ge hrow2) | refine kp_alloc _ ?_ (Nat.le_refl _) | apply Below.drew))
            obtain ⟨g3, cap3, he3, _, _⟩ := World.ownsRow.form hrow3 (by omega)
            injection he3 with ha3 _ _
            subst ha3
            have hre : w.heap.size ≤ w0.heap.size := hsz0
            have HR := Lib.hid (hrow3.more hre)
            have HB := Lib.hid (Hbe0.out.trans (hbe3.mono hre))
            clear hrow3 hrow2 hrow1 hgrow1 hgrow2 hgrow3 hbe3
            go_wp2_with fail
            go_roundw
            case rel =>
              refine ⟨j + 1, g3, c3, by omega, by go_num, rfl, ?_, HB.out⟩
              have h := HR.out
              rw [stT_take_succ Hx.out, Hin.out]
              simp only [List.map_append, List.map_take, List.map_drop, List.map_cons, List.map_nil, List.nil_append, List.append_assoc, S] at h ⊢
              exact h
            case measure => simp [intOf]; omega
    · have hj' : ¬ (j : Int) < (n : Int) := by omega
      have hjn' : j = n := by omega
      subst hjn'
      go_wp2_with fail
      go_ret
      rw [List.take_of_length_le (by rw [Hn.out]; exact Nat.le_refl _)] at hown
      exact ⟨_, _, _, rfl, hown, hbw⟩
set_option maxRecDepth 8000 in
set_option maxHeartbeats 1600000 in
theorem specWindowsR_any (s : List UInt8) (k : Nat) (w : World) (hs : s.length ≤ 1000) (hk : k ≤ 1000) :
    Calls Try.prog 67 #[.string ⟨s.toArray⟩, .int .i64 k] w (RetRo w 9 ((stT (winds s k)).map S)) := by
  obtain ⟨i0, hi, hz0, hz1, hz2⟩ := info_parts Try.infoXs
  go_enter Try.func67, Try.ntmps67
  go_wp2_with fail
  go_loopw [5, 6] (fun v i wr => ∃ (j g c' : Nat), j ≤ s.length + 1 - k ∧ i = .int .i64 j ∧ v = .slice (some ⟨g, 0, none⟩) j c' ∧ Row wr w.heap.size 9 (some ⟨g, 0, none⟩) j c' ((windsTo s k j).map S) ∧ Below w.heap.size w wr) (fun _ i _ => s.length + 1 - (intOf i).toNat)
  case atStart => exact ⟨0, w.heap.size, 0, Nat.zero_le _, rfl, rfl, Row.nil_ w 9, (Below.refl _ _).alloc (Nat.le_refl _) _⟩
  case round =>
    obtain ⟨j, g, c', hj, rfl, rfl, hown, hbw⟩ := hrel
    have hsz := hbw.size
    by_cases hlt : j + k ≤ s.length
    · go_wp2_with (at_builtin; refine wpList_app1 _ rfl _ _ 24 rfl w.heap.size 9 i0 (.string ⟨#[]⟩) 16 Try.underlying24 hi hz0 hz1 hz2 rfl _ _ _ _ rfl (hown.alloc _) _ (.string ⟨(List.take k (List.drop j s)).toArray⟩) rfl (cell_one_new _ _ _) rfl (by omega) (by omega) (by simp; omega) ?_; intro A2 c2 w2 hown2 hgrow2)
      have hbe : Below w.heap.size w w2 := (hown.alloc _).grown (hbw.alloc hsz _) hgrow2 (Nat.le_refl _) (by simp; omega)
      obtain ⟨g2, cap2, he2, _, _⟩ := World.ownsRow.form hown2 (by omega)
      injection he2 with ha2 _ _
      subst ha2
      clear hgrow2 hown
      go_wp2_with fail
      go_roundw
      case rel => exact ⟨j + 1, g2, c2, by omega, by go_num, rfl, by rw [windsTo_succ, List.map_append]; exact hown2, hbe⟩
      case measure => simp [intOf]; omega
    · obtain rfl : j = s.length + 1 - k := by omega
      have hS := Lib.hid (sortTextsR_any (some ⟨g, 0, none⟩) (s.length + 1 - k) c' (windsTo s k (s.length + 1 - k)) wr hown.rd (by omega))
      clear hown
      go_wp2_with fail
      refine hS.out.mono ?_
      rintro e w2 ⟨A2, n2, c2, rfl, ho2, hb2⟩
      go_wp2_with fail
      go_ret
      exact ⟨_, _, _, rfl, ho2.more hsz, hbw.trans (hb2.mono hsz)⟩
end Go.Proofs.Ytfbmcfdmffpfmaa
