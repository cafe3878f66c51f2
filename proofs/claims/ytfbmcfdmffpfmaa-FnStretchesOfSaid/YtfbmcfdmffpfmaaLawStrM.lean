/-
  The law on stretches (FnStretchesOf): its walk.
-/
import Derived.Test.YtfbmcfdmffpfmaaFactS
import Derived.Test.YtfbmcfdmffpfmaaDrawT
import Derived.Test.YtfbmcfdmffpfmaaAppN
import Derived.Test.YtfbmcfdmffpfmaaPut
import Derived.Test.YtfbmcfdmffpfmaaStrI
import Derived.Test.YtfbmcfdmffpfmaaLawFacs
namespace Go.Proofs.Ytfbmcfdmffpfmaa
open Go.RowKit
set_option linter.unusedVariables false
set_option linter.unusedSimpArgs false

/-- A row of its own returned, that can be appended to. -/
def RetRo (w : World) (t : TypeId) (xs : List Value) (e : Ending) (w' : World) : Prop :=
  ∃ A n c, e = .returned (.slice A n c) ∧ Row w' w.heap.size t A n c xs ∧ Below w.heap.size w w'
set_option maxRecDepth 8000 in
set_option maxHeartbeats 3200000 in
theorem sortTextsR_any (A : Option Addr) (n c : Nat) (ws : List (List UInt8)) (w : World) (hr : Rd w w.heap.size A n c (ws.map S)) (hn20 : n ≤ 1048576) :
    Calls Try.prog 80 #[.slice A n c] w (RetRo w 9 ((stT ws).map S)) := by
  have hm := hr.2.2.1
  have hnc := hr.2.1
  have Hn := Lib.hid hr.slen
  unfold maxLen at hm
  obtain ⟨i0, hi, hz0, hz1, hz2⟩ := info_parts Try.infoXs
  go_enter Try.func80, Try.ntmps80
  go_wp2
  go_loopw [3, 4] (fun v i wr => ∃ (j g c' : Nat), j ≤ n ∧ i = .int .i64 j ∧ v = .slice (some ⟨g, 0, none⟩) j c' ∧ Row wr w.heap.size 9 (some ⟨g, 0, none⟩) j c' ((stT (ws.take j)).map S) ∧ Below w.heap.size w wr) (fun _ i _ => n - (intOf i).toNat)
  case atStart =>
    refine ⟨0, w.heap.size, 0, Nat.zero_le _, rfl, rfl, ?_, ?_⟩
    · rw [List.take_zero, stT_nil]
      exact Row.nil_ w 9
    · exact (Below.refl _ _).alloc (Nat.le_refl _) _
  case round =>
    obtain ⟨j, g, c', hj, rfl, rfl, hown, hbw⟩ := hrel
    by_cases hjn : j < n
    · obtain ⟨b, o, x, rfl, hb, hx, hc⟩ := (hr.below hbw).str hjn
      have Hx := Lib.hid hx
      clear hx
      have hj' : (j : Int) < (n : Int) := by omega
      have hrd := hown.rd
      have hsz := hbw.size
      go_wp2_with fail
      obtain ⟨wo, rfl⟩ : ∃ wo : World, wo = wr := ⟨_, rfl⟩
      go_loopw [5] (fun k wr => ∃ q : Nat, q ≤ j ∧ k = .int .i64 q ∧ (∀ y ∈ (stT (ws.take j)).take q, y ≤ x) ∧ Quiet wo wr) (fun k _ => j - (intOf k).toNat)
      case atStart => exact ⟨0, Nat.zero_le _, rfl, by simp, Quiet.refl _⟩
      case round =>
        obtain ⟨q, hq, rfl, hle, hqw⟩ := hrel
        have Hle := Lib.hid hle
        clear hle
        obtain ⟨x', hx', hcx⟩ := (hqw.rd (hr.below hbw)).str_at hjn
        rw [Hx.out] at hx'
        injection hx' with hx'
        subst hx'
        clear hc
        by_cases hqj : q < j
        · obtain ⟨y, hy, hcy⟩ := (hqw.rd hrd).str_at hqj
          have Hy := Lib.hid hy
          clear hy
          have hq' : (q : Int) < (j : Int) := by omega
          rw [Nat.zero_add] at hcy
          cases hyx : (Op.bytesLess y x || y == x) with
          | true =>
            have Hn2 := Lib.hid (take_all_succ (p := fun z => z ≤ x) Hle.out Hy.out (bleq_le hyx))
            go_wp2_with fail
            go_quiet (fail)
            go_wp2_with fail
            go_roundw
            case rel => exact ⟨q + 1, by omega, by go_num, Hn2.out, hqw.drewN _⟩
            case measure => simp [intOf]; omega
          | false =>
            have Hin := Lib.hid (insS_two (l := stT (ws.take j)) (q := q) (by rw [stT_len, List.length_take, Hn.out]; omega) Hle.out (.inr ⟨y, Hy.out, bleq_nle hyx⟩))
            go_wp2_with fail
            go_quiet (fail)
            go_wp2_with fail
            clear hcy
            obtain ⟨w0, hw0⟩ : ∃ w0, w0 = wr.drewN nq := ⟨_, rfl⟩
            have hcx0 : w0.cell? ⟨b, o + j, none⟩ = some (.string ⟨x.toArray⟩) := by rw [hw0]; exact hcx
            have hrow0 : Row w0 w.heap.size 9 (some ⟨g, 0, none⟩) j c' ((stT (ws.take j)).map S) := by rw [hw0]; exact hown.quiet (hqw.drewN nq)
            have hbe0 : Below w.heap.size w w0 := by rw [hw0]; exact hbw.trans ((hqw.drewN nq).bel _)
            have hsz0 := hbe0.size
            have Hbe0 := Lib.hid hbe0
            rw [← hw0]
            have hq0 : (0 : Int) ≤ (q : Int) := by omega
            have hj0 : (0 : Int) ≤ (j : Int) := by omega
            have hrd0 := hrow0.rd
            have hcb0 := hrd0.2.1
            have hlen0 : ((stT (ws.take j)).map S).length = j := hrd0.1
            have hqc : (q : Int) ≤ (c' : Int) := by omega
            have hbN : (⟨b, o + j, none⟩ : Addr).block < w0.heap.size := by show b < w0.heap.size; omega
            clear hw0 hbw hown hrd hcx hqw hbe0
            go_region_held3 (fun w' => w'.cell? ⟨b, o + j, none⟩ = some (.string ⟨x.toArray⟩) ∧ Below w0.heap.size w0 w')
              ((refine kp_one hcx0 hbN ?_; focus (repeat (first | exact Below.refl _ _ | assumption | refine kp_grown ?_ (Nat.le_refl _) hgrow1 (own_ge (Nat.le_refl _)) | refine kp_grown ?_ (Nat.le_refl _) hgrow1 (own_ge (Nat.le_add_right _ _)) | refine kp_grown ?_ (Nat.le_refl _) hgrow2 (row_ge hrow1) | refine kp_grown ?_ (Nat.le_refl _) hgrow3 (row_ge hrow2) | refine kp_alloc _ ?_ (Nat.le_refl _) | apply Below.drew))))
              (first
               | (refine step_app _ (by rfl) _ _ _ (by rfl) w0.heap.size 9 i0 _ 16 Try.underlying24 hi hz0 hz1 hz2 rfl _ 0 0 [] (by rfl) ?_ _ q _ (((stT (ws.take j)).map S).take q) (by rfl) (len_front hlen0 hq) (rd_front hrd0 ?_) (one_front _ _ (oneS _)) q ?_ ?_ ?_ ?_ ?_
                  first | exact Row.of_block #[] 0 (heap_al0 _ _) (Nat.le_refl _) rfl (Nat.zero_le _) | exact Row.of_block #[] 0 (heap_al1 _ _ _) (Nat.le_refl _) rfl (Nat.zero_le _) | exact Row.of_block #[] 0 (heap_al2 _ _ _) (Nat.le_add_right _ _) rfl (Nat.zero_le _)
                  (focus (repeat (first | exact Below.refl _ _ | assumption | refine kp_grown ?_ (Nat.le_refl _) hgrow1 (own_ge (Nat.le_refl _)) | refine kp_grown ?_ (Nat.le_refl _) hgrow1 (own_ge (Nat.le_add_right _ _)) | refine kp_grown ?_ (Nat.le_refl _) hgrow2 (row_ge hrow1) | refine kp_grown ?_ (Nat.le_refl _) hgrow3 (row_ge hrow2) | refine kp_alloc _ ?_ (Nat.le_refl _) | apply Below.drew)))
                  omega
                  omega
                  omega
                  (refine kp_size (N := w0.heap.size) ?_; focus (repeat (first | exact Below.refl _ _ | assumption | refine kp_grown ?_ (Nat.le_refl _) hgrow1 (own_ge (Nat.le_refl _)) | refine kp_grown ?_ (Nat.le_refl _) hgrow1 (own_ge (Nat.le_add_right _ _)) | refine kp_grown ?_ (Nat.le_refl _) hgrow2 (row_ge hrow1) | refine kp_grown ?_ (Nat.le_refl _) hgrow3 (row_ge hrow2) | refine kp_alloc _ ?_ (Nat.le_refl _) | apply Below.drew)))
                  intro A1 c1 w1 hrow1 hgrow1)
               | (refine step_app _ (by rfl) _ _ _ (by rfl) w0.heap.size 9 i0 _ 16 Try.underlying24 hi hz0 hz1 hz2 rfl A1 _ c1 _ ?_ (hrow1.alloc _) ⟨w1.heap.size, 0, none⟩ 1 1 [.string ⟨x.toArray⟩] ?_ rfl (World.news_of_block (cs := #[.string ⟨x.toArray⟩]) (t := 9) (fr := (0, 0)) (heap_al0 w1 _)) (oneS [x]) (q + 1) ?_ ?_ ?_ ?_ ?_
                  rfl
                  rfl
                  omega
                  omega
                  omega
                  (refine kp_size (N := w0.heap.size) ?_; focus (repeat (first | exact Below.refl _ _ | assumption | refine kp_grown ?_ (Nat.le_refl _) hgrow1 (own_ge (Nat.le_refl _)) | refine kp_grown ?_ (Nat.le_refl _) hgrow1 (own_ge (Nat.le_add_right _ _)) | refine kp_grown ?_ (Nat.le_refl _) hgrow2 (row_ge hrow1) | refine kp_grown ?_ (Nat.le_refl _) hgrow3 (row_ge hrow2) | refine kp_alloc _ ?_ (Nat.le_refl _) | apply Below.drew)))
                  intro A2 c2 w2 hrow2 hgrow2)
               | (refine step_app _ (by rfl) _ _ _ (by rfl) w0.heap.size 9 i0 _ 16 Try.underlying24 hi hz0 hz1 hz2 rfl A1 _ c1 _ ?_ (hrow1) ⟨w0.heap.size + 1, 0, none⟩ 1 1 [.string ⟨x.toArray⟩] ?_ rfl (World.news_of_block (cs := #[.string ⟨x.toArray⟩]) (t := 9) (fr := (0, 0)) (block_far hgrow1 (heap_al2 _ _ _) (own_ne (Nat.ne_of_gt (Nat.lt_succ_self _))))) (oneS [x]) (q + 1) ?_ ?_ ?_ ?_ ?_
                  rfl
                  rfl
                  omega
                  omega
                  omega
                  (refine kp_size (N := w0.heap.size) ?_; focus (repeat (first | exact Below.refl _ _ | assumption | refine kp_grown ?_ (Nat.le_refl _) hgrow1 (own_ge (Nat.le_refl _)) | refine kp_grown ?_ (Nat.le_refl _) hgrow1 (own_ge (Nat.le_add_right _ _)) | refine kp_grown ?_ (Nat.le_refl _) hgrow2 (row_ge hrow1) | refine kp_grown ?_ (Nat.le_refl _) hgrow3 (row_ge hrow2) | refine kp_alloc _ ?_ (Nat.le_refl _) | apply Below.drew)))
                  intro A2 c2 w2 hrow2 hgrow2)
               | (refine step_app _ (by rfl) _ _ _ (by rfl) w0.heap.size 9 i0 _ 16 Try.underlying24 hi hz0 hz1 hz2 rfl A1 _ c1 _ ?_ (hrow1) ⟨w0.heap.size, 0, none⟩ 1 1 [.string ⟨x.toArray⟩] ?_ rfl (World.news_of_block (cs := #[.string ⟨x.toArray⟩]) (t := 9) (fr := (0, 0)) (block_far hgrow1 (heap_al1 _ _ _) (own_ne (Nat.ne_of_lt (Nat.lt_succ_self _))))) (oneS [x]) (q + 1) ?_ ?_ ?_ ?_ ?_
                  rfl
                  rfl
                  omega
                  omega
                  omega
                  (refine kp_size (N := w0.heap.size) ?_; focus (repeat (first | exact Below.refl _ _ | assumption | refine kp_grown ?_ (Nat.le_refl _) hgrow1 (own_ge (Nat.le_refl _)) | refine kp_grown ?_ (Nat.le_refl _) hgrow1 (own_ge (Nat.le_add_right _ _)) | refine kp_grown ?_ (Nat.le_refl _) hgrow2 (row_ge hrow1) | refine kp_grown ?_ (Nat.le_refl _) hgrow3 (row_ge hrow2) | refine kp_alloc _ ?_ (Nat.le_refl _) | apply Below.drew)))
                  intro A2 c2 w2 hrow2 hgrow2)
               | (refine step_app _ (by rfl) _ _ _ (by rfl) w0.heap.size 9 i0 _ 16 Try.underlying24 hi hz0 hz1 hz2 rfl A2 _ c2 _ ?_ hrow2 (if c' = q then ⟨g, 0, none⟩ else ⟨g, q, none⟩) (j - q) (c' - q) (((stT (ws.take j)).map S).drop q) ?_ (len_back hlen0) (rd_back2 hrd0 ?_) (one_back _ _ (oneS _)) (j + 1) ?_ ?_ ?_ ?_ ?_
                  rfl
                  exact slice_if
                  (focus (repeat (first | exact Below.refl _ _ | assumption | refine kp_grown ?_ (Nat.le_refl _) hgrow1 (own_ge (Nat.le_refl _)) | refine kp_grown ?_ (Nat.le_refl _) hgrow1 (own_ge (Nat.le_add_right _ _)) | refine kp_grown ?_ (Nat.le_refl _) hgrow2 (row_ge hrow1) | refine kp_grown ?_ (Nat.le_refl _) hgrow3 (row_ge hrow2) | refine kp_alloc _ ?_ (Nat.le_refl _) | apply Below.drew)))
                  omega
                  omega
                  omega
                  (refine kp_size (N := w0.heap.size) ?_; focus (repeat (first | exact Below.refl _ _ | assumption | refine kp_grown ?_ (Nat.le_refl _) hgrow1 (own_ge (Nat.le_refl _)) | refine kp_grown ?_ (Nat.le_refl _) hgrow1 (own_ge (Nat.le_add_right _ _)) | refine kp_grown ?_ (Nat.le_refl _) hgrow2 (row_ge hrow1) | refine kp_grown ?_ (Nat.le_refl _) hgrow3 (row_ge hrow2) | refine kp_alloc _ ?_ (Nat.le_refl _) | apply Below.drew)))
                  intro A3 c3 w3 hrow3 hgrow3))
            all_goals
              have hbe3 : Below w0.heap.size w0 w3 := by focus (repeat (first | exact Below.refl _ _ | assumption | refine kp_grown ?_ (Nat.le_refl _) hgrow1 (own_ge (Nat.le_refl _)) | refine kp_grown ?_ (Nat.le_refl _) hgrow1 (own_ge (Nat.le_add_right _ _)) | refine kp_grown ?_ (Nat.le_refl _) hgrow2 (row_ge hrow1) | refine kp_grown ?_ (Nat.le_refl _) hgrow3 (row_ge hrow2) | refine kp_alloc _ ?_ (Nat.le_refl _) | apply Below.drew))
              obtain ⟨g3, cap3, he3, _, _⟩ := World.ownsRow.form hrow3 (by omega)
              injection he3 with ha3 _ _
              subst ha3
              have hre : w.heap.size ≤ w0.heap.size := hsz0
              have HR := Lib.hid (hrow3.more hre)
              have HB := Lib.hid (Hbe0.out.trans (hbe3.mono hre))
              clear hrow3 hrow2 hrow1 hgrow1 hgrow2 hgrow3 hbe3
              go_wp2_with fail
              go_roundw
              case rel =>
                refine ⟨j + 1, g3, c3, by omega, by go_num, rfl, ?_, HB.out⟩
                have h := HR.out
                rw [stT_take_succ Hx.out, Hin.out]
                simp only [List.map_append, List.map_take, List.map_drop, List.map_cons, List.map_nil, List.nil_append, List.append_assoc, S] at h ⊢
                exact h
              case measure => simp [intOf]; omega
        · have hq' : ¬ (q : Int) < (j : Int) := by omega
          have hqj' : decide ((q : Int) < (j : Int)) = false := by simp; omega
          have Hin := Lib.hid (insS_two (l := stT (ws.take j)) (q := q) (by rw [stT_len, List.length_take, Hn.out]; omega) Hle.out (.inl (by rw [stT_len, List.length_take, Hn.out]; omega)))
          go_wp2_with fail
          go_quiet (fail)
          go_wp2_with fail
          obtain ⟨w0, hw0⟩ : ∃ w0, w0 = wr.drewN nq := ⟨_, rfl⟩
          have hcx0 : w0.cell? ⟨b, o + j, none⟩ = some (.string ⟨x.toArray⟩) := by rw [hw0]; exact hcx
          have hrow0 : Row w0 w.heap.size 9 (some ⟨g, 0, none⟩) j c' ((stT (ws.take j)).map S) := by rw [hw0]; exact hown.quiet (hqw.drewN nq)
          have hbe0 : Below w.heap.size w w0 := by rw [hw0]; exact hbw.trans ((hqw.drewN nq).bel _)
          have hsz0 := hbe0.size
          have Hbe0 := Lib.hid hbe0
          rw [← hw0]
          have hq0 : (0 : Int) ≤ (q : Int) := by omega
          have hj0 : (0 : Int) ≤ (j : Int) := by omega
          have hrd0 := hrow0.rd
          have hcb0 := hrd0.2.1
          have hlen0 : ((stT (ws.take j)).map S).length = j := hrd0.1
          have hqc : (q : Int) ≤ (c' : Int) := by omega
          have hbN : (⟨b, o + j, none⟩ : Addr).block < w0.heap.size := by show b < w0.heap.size; omega
          clear hw0 hbw hown hrd hcx hqw hbe0
          go_region_held3 (fun w' => w'.cell? ⟨b, o + j, none⟩ = some (.string ⟨x.toArray⟩) ∧ Below w0.heap.size w0 w')
            ((refine kp_one hcx0 hbN ?_; focus (repeat (first | exact Below.refl _ _ | assumption | refine kp_grown ?_ (Nat.le_refl _) hgrow1 (own_ge (Nat.le_refl _)) | refine kp_grown ?_ (Nat.le_refl _) hgrow1 (own_ge (Nat.le_add_right _ _)) | refine kp_grown ?_ (Nat.le_refl _) hgrow2 (row_ge hrow1) | refine kp_grown ?_ (Nat.le_refl _) hgrow3 (row_ge hrow2) | refine kp_alloc _ ?_ (Nat.le_refl _) | apply Below.drew))))
            (first
             | (refine step_app _ (by rfl) _ _ _ (by rfl) w0.heap.size 9 i0 _ 16 Try.underlying24 hi hz0 hz1 hz2 rfl _ 0 0 [] (by rfl) ?_ _ q _ (((stT (ws.take j)).map S).take q) (by rfl) (len_front hlen0 hq) (rd_front hrd0 ?_) (one_front _ _ (oneS _)) q ?_ ?_ ?_ ?_ ?_
                first | exact Row.of_block #[] 0 (heap_al0 _ _) (Nat.le_refl _) rfl (Nat.zero_le _) | exact Row.of_block #[] 0 (heap_al1 _ _ _) (Nat.le_refl _) rfl (Nat.zero_le _) | exact Row.of_block #[] 0 (heap_al2 _ _ _) (Nat.le_add_right _ _) rfl (Nat.zero_le _)
                (focus (repeat (first | exact Below.refl _ _ | assumption | refine kp_grown ?_ (Nat.le_refl _) hgrow1 (own_ge (Nat.le_refl _)) | refine kp_grown ?_ (Nat.le_refl _) hgrow1 (own_ge (Nat.le_add_right _ _)) | refine kp_grown ?_ (Nat.le_refl _) hgrow2 (row_ge hrow1) | refine kp_grown ?_ (Nat.le_refl _) hgrow3 (row_ge hrow2) | refine kp_alloc _ ?_ (Nat.le_refl _) | apply Below.drew)))
                omega
                omega
                omega
                (refine kp_size (N := w0.heap.size) ?_; focus (repeat (first | exact Below.refl _ _ | assumption | refine kp_grown ?_ (Nat.le_refl _) hgrow1 (own_ge (Nat.le_refl _)) | refine kp_grown ?_ (Nat.le_refl _) hgrow1 (own_ge (Nat.le_add_right _ _)) | refine kp_grown ?_ (Nat.le_refl _) hgrow2 (row_ge hrow1) | refine kp_grown ?_ (Nat.le_refl _) hgrow3 (row_ge hrow2) | refine kp_alloc _ ?_ (Nat.le_refl _) | apply Below.drew)))
                intro A1 c1 w1 hrow1 hgrow1)
             | (refine step_app _ (by rfl) _ _ _ (by rfl) w0.heap.size 9 i0 _ 16 Try.underlying24 hi hz0 hz1 hz2 rfl A1 _ c1 _ ?_ (hrow1.alloc _) ⟨w1.heap.size, 0, none⟩ 1 1 [.string ⟨x.toArray⟩] ?_ rfl (World.news_of_block (cs := #[.string ⟨x.toArray⟩]) (t := 9) (fr := (0, 0)) (heap_al0 w1 _)) (oneS [x]) (q + 1) ?_ ?_ ?_ ?_ ?_
                rfl
                rfl
                omega
                omega
                omega
                (refine kp_size (N := w0.heap.size) ?_; focus (repeat (first | exact Below.refl _ _ | assumption | refine kp_grown ?_ (Nat.le_refl _) hgrow1 (own_ge (Nat.le_refl _)) | refine kp_grown ?_ (Nat.le_refl _) hgrow1 (own_ge (Nat.le_add_right _ _)) | refine kp_grown ?_ (Nat.le_refl _) hgrow2 (row_ge hrow1) | refine kp_grown ?_ (Nat.le_refl _) hgrow3 (row_ge hrow2) | refine kp_alloc _ ?_ (Nat.le_refl _) | apply Below.drew)))
                intro A2 c2 w2 hrow2 hgrow2)
             | (refine step_app _ (by rfl) _ _ _ (by rfl) w0.heap.size 9 i0 _ 16 Try.underlying24 hi hz0 hz1 hz2 rfl A1 _ c1 _ ?_ (hrow1) ⟨w0.heap.size + 1, 0, none⟩ 1 1 [.string ⟨x.toArray⟩] ?_ rfl (World.news_of_block (cs := #[.string ⟨x.toArray⟩]) (t := 9) (fr := (0, 0)) (block_far hgrow1 (heap_al2 _ _ _) (own_ne (Nat.ne_of_gt (Nat.lt_succ_self _))))) (oneS [x]) (q + 1) ?_ ?_ ?_ ?_ ?_
                rfl
                rfl
                omega
                omega
                omega
                (refine kp_size (N := w0.heap.size) ?_; focus (repeat (first | exact Below.refl _ _ | assumption | refine kp_grown ?_ (Nat.le_refl _) hgrow1 (own_ge (Nat.le_refl _)) | refine kp_grown ?_ (Nat.le_refl _) hgrow1 (own_ge (Nat.le_add_right _ _)) | refine kp_grown ?_ (Nat.le_refl _) hgrow2 (row_ge hrow1) | refine kp_grown ?_ (Nat.le_refl _) hgrow3 (row_ge hrow2) | refine kp_alloc _ ?_ (Nat.le_refl _) | apply Below.drew)))
                intro A2 c2 w2 hrow2 hgrow2)
             | (refine step_app _ (by rfl) _ _ _ (by rfl) w0.heap.size 9 i0 _ 16 Try.underlying24 hi hz0 hz1 hz2 rfl A1 _ c1 _ ?_ (hrow1) ⟨w0.heap.size, 0, none⟩ 1 1 [.string ⟨x.toArray⟩] ?_ rfl (World.news_of_block (cs := #[.string ⟨x.toArray⟩]) (t := 9) (fr := (0, 0)) (block_far hgrow1 (heap_al1 _ _ _) (own_ne (Nat.ne_of_lt (Nat.lt_succ_self _))))) (oneS [x]) (q + 1) ?_ ?_ ?_ ?_ ?_
                rfl
                rfl
                omega
                omega
                omega
                (refine kp_size (N := w0.heap.size) ?_; focus (repeat (first | exact Below.refl _ _ | assumption | refine kp_grown ?_ (Nat.le_refl _) hgrow1 (own_ge (Nat.le_refl _)) | refine kp_grown ?_ (Nat.le_refl _) hgrow1 (own_ge (Nat.le_add_right _ _)) | refine kp_grown ?_ (Nat.le_refl _) hgrow2 (row_ge hrow1) | refine kp_grown ?_ (Nat.le_refl _) hgrow3 (row_ge hrow2) | refine kp_alloc _ ?_ (Nat.le_refl _) | apply Below.drew)))
                intro A2 c2 w2 hrow2 hgrow2)
             | (refine step_app _ (by rfl) _ _ _ (by rfl) w0.heap.size 9 i0 _ 16 Try.underlying24 hi hz0 hz1 hz2 rfl A2 _ c2 _ ?_ hrow2 (if c' = q then ⟨g, 0, none⟩ else ⟨g, q, none⟩) (j - q) (c' - q) (((stT (ws.take j)).map S).drop q) ?_ (len_back hlen0) (rd_back2 hrd0 ?_) (one_back _ _ (oneS _)) (j + 1) ?_ ?_ ?_ ?_ ?_
                rfl
                exact slice_if
                (focus (repeat (first | exact Below.refl _ _ | assumption | refine kp_grown ?_ (Nat.le_refl _) hgrow1 (own_ge (Nat.le_refl _)) | refine kp_grown ?_ (Nat.le_refl _) hgrow1 (own_ge (Nat.le_add_right _ _)) | refine kp_grown ?_ (Nat.le_refl _) hgrow2 (row_ge hrow1) | refine kp_grown ?_ (Nat.le_refl _) hgrow3 (row_ge hrow2) | refine kp_alloc _ ?_ (Nat.le_refl _) | apply Below.drew)))
                omega
                omega
                omega
                (refine kp_size (N := w0.heap.size) ?_; focus (repeat (first | exact Below.refl _ _ | assumption | refine kp_grown ?_ (Nat.le_refl _) hgrow1 (own_ge (Nat.le_refl _)) | refine kp_grown ?_ (Nat.le_refl _) hgrow1 (own_ge (Nat.le_add_right _ _)) | refine kp_grown ?_ (Nat.le_refl _) hgrow2 (row_ge hrow1) | refine kp_grown ?_ (Nat.le_refl _) hgrow3 (row_ge hrow2) | refine kp_alloc _ ?_ (Nat.le_refl _) | apply Below.drew)))
                intro A3 c3 w3 hrow3 hgrow3))
          all_goals
            have hbe3 : Below w0.heap.size w0 w3 := by focus (repeat (first | exact Below.refl _ _ | assumption | refine kp_grown ?_ (Nat.le_refl _) hgrow1 (own_ge (Nat.le_refl _)) | refine kp_grown ?_ (Nat.le_refl _) hgrow1 (own_ge (Nat.le_add_right _ _)) | refine kp_grown ?_ (Nat.le_refl _) hgrow2 (row_ge hrow1) | refine kp_grown ?_ (Nat.le_refl _) hgrow3 (row_ge hrow2) | refine kp_alloc _ ?_ (Nat.le_refl _) | apply Below.drew))
            obtain ⟨g3, cap3, he3, _, _⟩ := World.ownsRow.form hrow3 (by omega)
            injection he3 with ha3 _ _
            subst ha3
            have hre : w.heap.size ≤ w0.heap.size := hsz0
            have HR := Lib.hid (hrow3.more hre)
            have HB := Lib.hid (Hbe0.out.trans (hbe3.mono hre))
            clear hrow3 hrow2 hrow1 hgrow1 hgrow2 hgrow3 hbe3
            go_wp2_with fail
            go_roundw
            case rel =>
              refine ⟨j + 1, g3, c3, by omega, by go_num, rfl, ?_, HB.out⟩
              have h := HR.out
              rw [stT_take_succ Hx.out, Hin.out]
              simp only [List.map_append, List.map_take, List.map_drop, List.map_cons, List.map_nil, List.nil_append, List.append_assoc, S] at h ⊢
              exact h
            case measure => simp [intOf]; omega
    · have hj' : ¬ (j : Int) < (n : Int) := by omega
      have hjn' : j = n := by omega
      subst hjn'
      go_wp2_with fail
      go_ret
      rw [List.take_of_length_le (by rw [Hn.out]; exact Nat.le_refl _)] at hown
      exact ⟨_, _, _, rfl, hown, hbw⟩
set_option maxRecDepth 8000 in
set_option maxHeartbeats 1600000 in
theorem specWindowsR_any (s : List UInt8) (k : Nat) (w : World) (hs : s.length ≤ 1000) (hk : k ≤ 1000) :
    Calls Try.prog 67 #[.string ⟨s.toArray⟩, .int .i64 k] w (RetRo w 9 ((stT (winds s k)).map S)) := by
  obtain ⟨i0, hi, hz0, hz1, hz2⟩ := info_parts Try.infoXs
  go_enter Try.func67, Try.ntmps67
  go_wp2_with fail
  go_loopw [5, 6] (fun v i wr => ∃ (j g c' : Nat), j ≤ s.length + 1 - k ∧ i = .int .i64 j ∧ v = .slice (some ⟨g, 0, none⟩) j c' ∧ Row wr w.heap.size 9 (some ⟨g, 0, none⟩) j c' ((windsTo s k j).map S) ∧ Below w.heap.size w wr) (fun _ i _ => s.length + 1 - (intOf i).toNat)
  case atStart => exact ⟨0, w.heap.size, 0, Nat.zero_le _, rfl, rfl, Row.nil_ w 9, (Below.refl _ _).alloc (Nat.le_refl _) _⟩
  case round =>
    obtain ⟨j, g, c', hj, rfl, rfl, hown, hbw⟩ := hrel
    have hsz := hbw.size
    by_cases hlt : j + k ≤ s.length
    · go_wp2_with (at_builtin; refine wpList_app1 _ rfl _ _ 24 rfl w.heap.size 9 i0 (.string ⟨#[]⟩) 16 Try.underlying24 hi hz0 hz1 hz2 rfl _ _ _ _ rfl (hown.alloc _) _ (.string ⟨(List.take k (List.drop j s)).toArray⟩) rfl (cell_one_new _ _ _) rfl (by omega) (by omega) (by simp; omega) ?_; intro A2 c2 w2 hown2 hgrow2)
      have hbe : Below w.heap.size w w2 := (hown.alloc _).grown (hbw.alloc hsz _) hgrow2 (Nat.le_refl _) (by simp; omega)
      obtain ⟨g2, cap2, he2, _, _⟩ := World.ownsRow.form hown2 (by omega)
      injection he2 with ha2 _ _
      subst ha2
      clear hgrow2 hown
      go_wp2_with fail
      go_roundw
      case rel => exact ⟨j + 1, g2, c2, by omega, by go_num, rfl, by rw [windsTo_succ, List.map_append]; exact hown2, hbe⟩
      case measure => simp [intOf]; omega
    · obtain rfl : j = s.length + 1 - k := by omega
      have hS := Lib.hid (sortTextsR_any (some ⟨g, 0, none⟩) (s.length + 1 - k) c' (windsTo s k (s.length + 1 - k)) wr hown.rd (by omega))
      clear hown
      go_wp2_with fail
      refine hS.out.mono ?_
      rintro e w2 ⟨A2, n2, c2, rfl, ho2, hb2⟩
      go_wp2_with fail
      go_ret
      exact ⟨_, _, _, rfl, ho2.more hsz, hbw.trans (hb2.mono hsz)⟩
end Go.Proofs.Ytfbmcfdmffpfmaa

namespace Go.Proofs.Ytfbmcfdmffpfmaa
open Go.RowKit
set_option linter.unusedVariables false
set_option linter.unusedSimpArgs false

theorem Row.setW {w : World} {base g n cap : Nat} {e : TypeId} {xs : List Value} (h : Row w base e (some ⟨g, 0, none⟩) n cap xs) {j : Nat} (hj : j < n) (v : Value) : Row (w.setCell ⟨g, j, none⟩ v) base e (some ⟨g, 0, none⟩) n cap (xs.set j v) := by
  obtain ⟨h1, ⟨_, h0⟩ | ⟨g', cap', cur, hv, hbase, hb, h2, h3, h4, h5⟩⟩ := h
  · omega
  · injection hv with ha hb' hc
    injection ha with ha
    injection ha with ha
    subst ha hc
    refine ⟨by rw [List.length_set]; exact h1, .inr ⟨g, cap, _, rfl, hbase, Go.Joins.block_setCell (i := j) hb v, h2, h3, by simpa using h4, ?_⟩⟩
    rw [Array.toList_setIfInBounds, List.take_set, h5]
theorem Row.cellsW {w : World} {base g n cap : Nat} {e : TypeId} {xs : List Value} (h : Row w base e (some ⟨g, 0, none⟩) n cap xs) {j : Nat} {u : Value} (hu : xs[j]? = some u) : w.cell? ⟨g, j, none⟩ = some u ∧ w.frozen? ⟨g, j, none⟩ = false := by
  have hj : j < xs.length := (List.getElem?_eq_some_iff.1 hu).1
  have hl := h.len
  obtain ⟨g', cur, e1, _, hb, ht, _⟩ := h.blk (g := 0) (by omega)
  injection e1 with e1
  injection e1 with e1
  subst e1
  refine ⟨?_, frozen_of_row w g j cur _ hb⟩
  rw [cell_of_row w g j cur _ (0, 0) hb]
  rw [← ht, List.getElem?_take_of_lt (by omega)] at hu
  simpa using hu
theorem grown_setW (w : World) (g j : Nat) (v : Value) : w.grownBy (w.setCell ⟨g, j, none⟩ v) (some g) :=
  ⟨rfl, rfl, rfl, by simp, fun b hb hne => RowKit.Below.heap_setCell w ⟨g, j, none⟩ v b (fun e => hne (by rw [e]))⟩
theorem gr_afterW {w w1 w2 : World} {R : Nat} {row : Option Nat} (h : w.grownBy w1 (some R)) (hg : w1.grownBy w2 row) (hk : ∀ k, row = some k → w.heap.size ≤ k) : w.grownBy w2 (some R) := by
  refine ⟨hg.os.trans h.os, hg.tape.trans h.tape, hg.output.trans h.output, Nat.le_trans h.size hg.size, fun b hb hne => ?_⟩
  exact (hg.block b (Nat.lt_of_lt_of_le hb h.size) (fun e => by have := hk b e.symm; omega)).trans (h.block b hb hne)
def SomeWins (R : Nat) (w : World) (e : Ending) (w' : World) : Prop :=
  ∃ (A : Option Addr) (n c : Nat) (ws : List (List UInt8)), e = .returned (.slice A n c) ∧ Row w' w.heap.size 9 A n c (ws.map S) ∧ Short ws 50 ∧ n ≤ 50 ∧ w.grownBy w' (some R)
set_option maxRecDepth 8000 in
set_option maxHeartbeats 6400000 in
theorem someWindows_any (B R : Nat) (zs : List Int) (p : Nat) (w : World) (hR : Rdr w B R zs p) (hp : p + 1000 ≤ 1099511627776) :
    Calls Try.prog 93 #[.pointer (some ⟨R, 0, none⟩)] w (SomeWins R w) := by
  have hlt := hR.lt
  have hBR := hR.1
  obtain ⟨i0, hi, hz0, hz1, hz2⟩ := info_parts Try.infoXs
  go_enter Try.func93, Try.ntmps93
  go_wp2_with fail
  refine (one_any B R zs p _ 5 5 [2, 3, 2, 4, 1] _ (hR.alloc _) (by omega) (rd_lit _ _ _ 5 _ rfl rfl (by omega)) (by omega) (by omega) (fun b o e => by injection e with e; injection e with e1 e2; omega)).mono ?_
  rintro e w1 ⟨k, hk, rfl, hR1, hg1⟩
  have hk1 : 1 ≤ k ∧ k ≤ 4 := by simp at hk; omega
  obtain ⟨hk1a, hk1b⟩ := hk1
  have hG1 := grown_trans (grown_alloc (grown_refl w (some R)) _) hg1
  clear hk hg1
  obtain ⟨k, rfl⟩ := Int.eq_ofNat_of_zero_le (show 0 ≤ k by omega)
  obtain ⟨m, hm⟩ : ∃ m : Nat, m = 7 + k := ⟨_, rfl⟩
  have e1 : 7 + (k : Int) = (m : Int) := by omega
  have E1 := Lib.hid e1
  have hm11 : m ≤ 11 := by omega
  clear hm e1
  go_wp2_with fail
  rw [E1.out]
  refine (someText_any B R zs (p + 1) m w1 hR1 (by omega) (by omega)).mono ?_
  rintro e w2 ⟨l, q, rfl, hl, hq, hR2, hg2⟩
  have hG2 := grown_trans hG1 hg2
  have hs2 := hG2.size
  clear hR1 hG1 hg2
  have HV := Lib.hid (validText_any l w2 (by omega))
  cases hv : vt l with
  | false =>
    have Hv := Lib.hid hv
    clear hv
    go_wp2_with fail
    refine HV.out.mono ?_
    rintro e w' ⟨rfl, rfl⟩
    rw [Hv.out]
    go_wp2_with fail
    go_ret
    refine ⟨_, 2, 2, [[97, 98], [98, 97]], rfl, (Row.of_block #[.string ⟨#[97, 98]⟩, .string ⟨#[98, 97]⟩] 2 (heap_al0 w2 _) hs2 rfl (by omega)), ?_, by omega, grown_alloc hG2 _⟩
    intro x hx
    simp at hx
    rcases hx with rfl | rfl <;> simp
  | true =>
  have Hv := Lib.hid hv
  clear hv
  by_cases hlk : l.length < k
  · have hlk' : (l.length : Int) < (k : Int) := by omega
    go_wp2_with fail
    refine HV.out.mono ?_
    rintro e w' ⟨rfl, rfl⟩
    rw [Hv.out]
    go_wp2_with fail
    go_ret
    refine ⟨_, 2, 2, [[97, 98], [98, 97]], rfl, (Row.of_block #[.string ⟨#[97, 98]⟩, .string ⟨#[98, 97]⟩] 2 (heap_al0 w2 _) hs2 rfl (by omega)), ?_, by omega, grown_alloc hG2 _⟩
    intro x hx
    simp at hx
    rcases hx with rfl | rfl <;> simp
  have hlk' : ¬ (l.length : Int) < (k : Int) := by omega
  go_wp2_with fail
  refine HV.out.mono ?_
  rintro e w' ⟨rfl, rfl⟩
  rw [Hv.out]
  go_wp2_with fail
  refine (specWindowsR_any l k w2 (by omega) (by omega)).mono ?_
  rintro e w3 ⟨A, n, c, rfl, hrow, hb3⟩
  have hrow := hrow.more hs2
  have hG := grown_below hG2 hb3
  have hR := hR2.kept hb3
  have hn : n = l.length + 1 - k := by have := hrow.len; rw [List.length_map, stT_len, winds_len] at this; omega
  have hn1 : 1 ≤ n := by omega
  have hn40 : n ≤ 20 := by omega
  obtain ⟨ws, hws⟩ : ∃ ws, ws = stT (winds l k) := ⟨_, rfl⟩
  have hsh : Short ws 50 := fun x hx => by
    rw [hws] at hx
    have := winds_memlen ((stT_perm _).mem_iff.1 hx)
    omega
  rw [← hws] at hrow
  clear hn hws hb3 hR2 hG2 HV hlk hlk'
  have hwl := hrow.len
  rw [List.length_map] at hwl
  go_wp2_with fail
  refine (pick_any B R zs _ 4 _ hR (by omega) (by omega) (by omega)).mono ?_
  rintro e w4 ⟨v, rfl, hv, _, hR, hg⟩
  have hrow := hrow.drawn hg (hrow.ne_of_lt hlt)
  have hG := grown_trans hG hg
  have hsz := hG.size
  clear hv hg
  have arms : v = 0 ∨ (v ≠ 0 ∧ 1 < n) ∨ (v ≠ 0 ∧ n ≤ 1) := by omega
  rcases arms with rfl | ⟨hv0, h2⟩ | ⟨hv0, h2⟩
  case' inl =>
    obtain ⟨g, cur, rfl, hgB, hh, ht, hc, hm2⟩ := Row.blk (g := 0) hrow (by omega)
    obtain ⟨x, hx⟩ : ∃ x, ws[0]? = some x := ⟨_, List.getElem?_eq_getElem (by omega)⟩
    have hcx := (hrow.cellsW (j := 0) (u := .string ⟨x.toArray⟩) (by rw [List.getElem?_map, hx]; rfl)).1
    have hx50 := hsh x (List.mem_of_getElem? hx)
    have n0 : (0 : Int) < (n : Int) := by omega
    have b1 : (n : Int) + 1 > 1 := by omega
    have b2 : 1 < (n : Int) + 1 := by omega
    unfold maxLen at hm2
    clear hx hh ht
    go_wp2_with (at_builtin; refine wpList_app1 _ rfl _ _ 24 rfl w.heap.size 9 i0 (.string ⟨#[]⟩) 16 Try.underlying24 hi hz0 hz1 hz2 rfl _ _ _ _ rfl (hrow.alloc _) _ (.string ⟨x.toArray⟩) rfl (cell_one_new _ _ _) rfl (by omega) (by omega) (by simp; omega) ?_; intro A c w5 hrow5 hg5)
    have hG := grown_app hlt hG hrow hg5
    have hR := (hR.alloc (.cells #[.string ⟨x.toArray⟩] 9)).grown hg5 (fun k hk => by have := row_ge hrow k hk; omega)
    have hsh := hsh.snoc hx50
    have hrow : Row w5 w.heap.size 9 A (n + 1) c ((ws ++ [x]).map S) := by rw [List.map_append]; exact hrow5
    obtain ⟨ws, hws⟩ : ∃ l, l = ws ++ [x] := ⟨_, rfl⟩
    obtain ⟨n, hnn⟩ : ∃ m, m = n + 1 := ⟨_, rfl⟩
    rw [← hws] at hsh hrow
    rw [← hnn] at hrow ⊢
    have hn1 : 1 < n := by omega
    have hn40 : n ≤ 21 := by omega
    have hwl := hrow.len
    rw [List.length_map] at hwl
    clear hnn hws hg5 hcx n0 b1 b2 hrow5
  case' inr.inl =>
    have hn1 : 1 < n := h2
    have b1 : (n : Int) > 1 := by omega
    have b2 : 1 < (n : Int) := by omega
    have e0 : ((v : Int) == 0) = false := by simp; omega
    go_wp2_with fail
    clear b1 b2 e0
  case' inr.inr =>
    have b1 : ¬ (n : Int) > 1 := by omega
    have b2 : ¬ 1 < (n : Int) := by omega
    have e0 : ((v : Int) == 0) = false := by simp; omega
    go_wp2_with fail
    clear b1 b2 e0
  case' inl | inr.inl =>
    refine (pick_any B R zs _ 6 _ hR (by omega) (by omega) (by omega)).mono ?_
    rintro e w6 ⟨u, rfl, hu, _, hR, hg⟩
    have hrow := hrow.drawn hg (hrow.ne_of_lt hlt)
    have hG := grown_trans hG hg
    have hsz := hG.size
    clear hu hg
    by_cases hu0 : u = 0
    case' pos =>
      subst hu0
      obtain ⟨g, cur, rfl, hgB, hh, ht, hc, hm2⟩ := Row.blk (g := 0) hrow (by omega)
      obtain ⟨m2, hm3⟩ : ∃ m2, m2 + 1 = n := ⟨n - 1, by omega⟩
      obtain ⟨y, hy⟩ : ∃ y, ws[m2]? = some y := ⟨_, List.getElem?_eq_getElem (by omega)⟩
      obtain ⟨z, hz⟩ : ∃ z, ws[0]? = some z := ⟨_, List.getElem?_eq_getElem (by omega)⟩
      have hcy := (hrow.cellsW (j := m2) (u := .string ⟨y.toArray⟩) (by rw [List.getElem?_map, hy]; rfl)).1
      obtain ⟨hcz, hfz⟩ := hrow.cellsW (j := 0) (u := .string ⟨z.toArray⟩) (by rw [List.getElem?_map, hz]; rfl)
      have hy50 := hsh y (List.mem_of_getElem? hy)
      have n0 : (0 : Int) < (n : Int) := by omega
      have e1 : IntKind.i64.wrap ((n : Int) - 1) = (m2 : Int) := by rw [IntKind.wrap_i64]; omega
      have e2 : (n : Int) - 1 = (m2 : Int) := by omega
      have e3 : IntKind.i64.wrap (m2 : Int) = (m2 : Int) := by rw [IntKind.wrap_i64]; omega
      have b1 : (m2 : Int) < (n : Int) := by omega
      have b0 : (0 : Int) ≤ (m2 : Int) := by omega
      unfold maxLen at hm2
      clear hy hz hh ht hm3
      go_wp2_with fail
      have hrow : Row (w6.setCell ⟨g, 0, none⟩ (.string ⟨y.toArray⟩)) w.heap.size 9 (some ⟨g, 0, none⟩) n c ((ws.set 0 y).map S) := by
        rw [List.map_set]
        exact hrow.setW (j := 0) (by omega) _
      have hR := hR.grown (grown_setW w6 g 0 (.string ⟨y.toArray⟩)) (fun k hk => by cases hk; omega)
      have hG := gr_afterW hG (grown_setW w6 g 0 (.string ⟨y.toArray⟩)) (fun k hk => by cases hk; omega)
      have hsh : Short (ws.set 0 y) 50 := fun x hx => by
        rcases List.mem_or_eq_of_mem_set hx with h | h
        · exact hsh x h
        · rw [h]; exact hy50
      clear hcy hcz hfz n0 e1 e2 e3 b1 b0
    case' neg =>
      have e0 : ((u : Int) == 0) = false := by simp; omega
      go_wp2_with fail
      clear e0
  all_goals
    refine (pick_any B R zs _ 30 _ hR (by omega) (by omega) (by omega)).mono ?_
    rintro e w8 ⟨u, rfl, hu, _, hR, hg⟩
    have hrow := hrow.drawn hg (hrow.ne_of_lt hlt)
    have hG := grown_trans hG hg
    have hsz := hG.size
    have hnc := hrow.own.2.1
    have hcm := hrow.own.2.2.1
    unfold maxLen at hcm
    clear hu hg
    by_cases hu0 : u = 0
    · subst hu0
      go_wp2_with (at_builtin; refine wpList_app1 _ rfl _ _ 24 rfl w.heap.size 9 i0 (.string ⟨#[]⟩) 16 Try.underlying24 hi hz0 hz1 hz2 rfl _ _ _ _ rfl (hrow.alloc _) _ (.string ⟨#[]⟩) rfl (cell_one_new _ _ _) rfl (by omega) (by omega) (by simp; omega) ?_; intro A9 c9 w9 hrow9 hg9)
      go_ret
      exact ⟨A9, _, c9, _ ++ [[]], rfl, by rw [List.map_append]; exact hrow9, hsh.snoc (by simp), by omega, grown_app hlt hG hrow hg9⟩
    · have e0 : ((u : Int) == 0) = false := by simp; omega
      by_cases hu1 : u = 1
      · subst hu1
        go_wp2_with fail
        go_ret
        exact ⟨_, 0, 0, [], rfl, (Row.nil_ w8 9).more hsz, (show Short [] 50 from fun x hx => absurd hx (by simp)), by omega, grown_alloc hG _⟩
      · have e1 : ((u : Int) == 1) = false := by simp; omega
        by_cases hu2 : u = 2
        · subst hu2
          go_wp2_with (at_builtin; refine wpList_app1 _ rfl _ _ 24 rfl w.heap.size 9 i0 (.string ⟨#[]⟩) 16 Try.underlying24 hi hz0 hz1 hz2 rfl _ _ _ _ rfl (hrow.alloc _) _ (.string ⟨#[101]⟩) rfl (cell_one_new _ _ _) rfl (by omega) (by omega) (by simp; omega) ?_; intro A9 c9 w9 hrow9 hg9)
          go_ret
          exact ⟨A9, _, c9, _ ++ [[101]], rfl, by rw [List.map_append]; exact hrow9, hsh.snoc (by simp), by omega, grown_app hlt hG hrow hg9⟩
        · have e2 : ((u : Int) == 2) = false := by simp; omega
          go_wp2_with fail
          go_ret
          exact ⟨_, _, _, _, rfl, hrow, hsh, by omega, hG⟩
/-- Drawn windows returned. -/
def DrawnW (w : World) (e : Ending) (w' : World) : Prop := ∃ (A : Option Addr) (n c : Nat) (ws : List (List UInt8)), e = .returned (.slice A n c) ∧ Row w' w.heap.size 9 A n c (ws.map S) ∧ Short ws 50 ∧ n ≤ 50 ∧ Below w.heap.size w w'
set_option maxHeartbeats 800000 in
theorem DrawTextsOf_any (A : Option Addr) (n c : Nat) (zs : List Int) (w : World) (hr : Rd w w.heap.size A n c (zs.map U8)) (hz : ∀ z ∈ zs, 0 ≤ z ∧ z ≤ 255) :
    Calls Try.prog 57 #[.slice A n c] w (DrawnW w) := by
  have H := Lib.hid (newReader_any A n c zs w hr hz)
  clear hr hz
  go_enter Try.func57, Try.ntmps57
  go_wp2_with fail
  refine H.out.mono ?_
  rintro e w1 ⟨R, rs, rfl, hR, hb1⟩
  have hBR := hR.1
  have s1 := hb1.size
  go_wp2_with fail
  refine (someWindows_any _ R rs 0 w1 hR (by omega)).mono ?_
  rintro e w2 ⟨A2, n2, c2, ws, rfl, hrow, hsh, hn, hg⟩
  go_wp2_with fail
  go_ret
  exact ⟨A2, n2, c2, ws, rfl, hrow.more s1, hsh, hn, grown_bel hb1 hBR hg⟩
set_option maxHeartbeats 800000 in
theorem DrawStretchesOf_any (A : Option Addr) (n c : Nat) (zs : List Int) (w : World) (hr : Rd w w.heap.size A n c (zs.map U8)) (hz : ∀ z ∈ zs, 0 ≤ z ∧ z ≤ 255) :
    Calls Try.prog 56 #[.slice A n c] w (DrawnW w) := by
  have H := Lib.hid (newReader_any A n c zs w hr hz)
  clear hr hz
  go_enter Try.func56, Try.ntmps56
  go_wp2_with fail
  refine H.out.mono ?_
  rintro e w1 ⟨R, rs, rfl, hR, hb1⟩
  have hBR := hR.1
  have s1 := hb1.size
  go_wp2_with fail
  refine (someWindows_any _ R rs 0 w1 hR (by omega)).mono ?_
  rintro e w2 ⟨A2, n2, c2, ws, rfl, hrow, hsh, hn, hg⟩
  go_wp2_with fail
  go_ret
  exact ⟨A2, n2, c2, ws, rfl, hrow.more s1, hsh, hn, grown_bel hb1 hBR hg⟩
end Go.Proofs.Ytfbmcfdmffpfmaa

namespace Go.Proofs.Ytfbmcfdmffpfmaa
open Go.RowKit
set_option linter.unusedVariables false
set_option linter.unusedSimpArgs false

theorem Short.len47S {ws : List (List UInt8)} (h : Short ws 50) : Len47 ws := fun x hx => by have := h x hx; omega
theorem bel_step {N : Nat} {w0 w1 w2 : World} (h : Below N w0 w1) (hb : Below w1.heap.size w1 w2) (hN : N ≤ w0.heap.size := by omega) : Below N w0 w2 := h.trans (hb.mono (Nat.le_trans hN h.size))
theorem allW_app (R Q : List (List UInt8)) (k : Nat) : allW (R ++ Q) k = allW R k ++ allW Q k := by unfold allW; rw [List.flatMap_append]
theorem allW_one (y : List UInt8) (k : Nat) : allW [y] k = winds y k := by unfold allW; simp
theorem allW_at {R : List (List UInt8)} {i : Nat} {y : List UInt8} (k : Nat) (hy : R[i]? = some y) : allW (R.take (i + 1)) k = allW (R.take i) k ++ winds y k := by rw [take_ats hy, allW_app, allW_one]
theorem allW_parts {R : List (List UInt8)} {i : Nat} {y : List UInt8} (k : Nat) (hy : R[i]? = some y) : allW R k = allW (R.take i) k ++ (winds y k ++ allW (R.drop (i + 1)) k) := by
  have h : R = R.take (i + 1) ++ R.drop (i + 1) := (List.take_append_drop _ _).symm
  rw [h, allW_app, ← h, allW_at k hy, List.append_assoc]
theorem winds_parts {y : List UInt8} {k a : Nat} (h : a + k ≤ y.length) : ∃ t, winds y k = windsTo y k a ++ win y k a :: t := by
  refine ⟨(winds y k).drop (a + 1), ?_⟩
  have h1 : (winds y k).take (a + 1) = windsTo y k (a + 1) := by
    unfold winds windsTo
    rw [← List.map_take, List.take_range, Nat.min_eq_left (by omega)]
  have h2 := List.take_append_drop (a + 1) (winds y k)
  rw [h1, windsTo_succ, List.append_assoc] at h2
  exact h2.symm
theorem allW_split {R : List (List UInt8)} {k i a : Nat} {y : List UInt8} (hy : R[i]? = some y) (ha : a + k ≤ y.length) : ∃ t, allW R k = (allW (R.take i) k ++ windsTo y k a) ++ win y k a :: t := by
  obtain ⟨t, ht⟩ := winds_parts ha
  exact ⟨t ++ allW (R.drop (i + 1)) k, by rw [allW_parts k hy, ht]; simp⟩
/-- What the law asks at a window: it is a word of the list, and was not met. -/
theorem SO_step {ws : List (List UInt8)} {i a : Nat} {y : List UInt8} (hy : (SO ws)[i]? = some y) (ha : a + klen ws ≤ y.length) :
    ws.contains (win y (klen ws) a) = true ∧ (allW ((SO ws).take i) (klen ws) ++ windsTo y (klen ws) a).contains (win y (klen ws) a) = false := by
  obtain ⟨h1, h2, _⟩ := SO_law ws
  obtain ⟨t, ht⟩ := allW_split (k := klen ws) hy ha
  constructor
  · rw [List.contains_iff_mem]
    exact h2 _ (by rw [ht]; simp)
  · rw [ht, List.nodup_append] at h1
    have h3 := h1.2.2
    cases h : (allW ((SO ws).take i) (klen ws) ++ windsTo y (klen ws) a).contains (win y (klen ws) a) with
    | false => rfl
    | true =>
      rw [List.contains_iff_mem] at h
      exact absurd rfl (h3 _ h _ (by simp))
theorem SO_few {ws : List (List UInt8)} {i a : Nat} {y : List UInt8} (hy : (SO ws)[i]? = some y) : (allW ((SO ws).take i) (klen ws)).length + (winds y (klen ws)).length ≤ ws.length := by
  have h := (SO_law ws).2.2
  rw [allW_parts (klen ws) hy, List.length_append, List.length_append] at h
  omega
set_option maxRecDepth 8000 in
set_option maxHeartbeats 6400000 in
theorem walkStretchesOf (A : Option Addr) (nc c : Nat) (zs : List Int) (w : World) (hr : Rd w w.heap.size A nc c (zs.map U8)) (hz : ∀ z ∈ zs, 0 ≤ z ∧ z ≤ 255) (hvr : Vr w) :
    Calls Try.prog 18 #[.slice A nc c] w (RetVal w (.bool true)) := by
  by_cases hbig : 1048576 < nc
  · go_enter Try.func18, Try.ntmps18
    go_wp2_with fail
    go_ret
    exact ⟨rfl, Below.refl _ _⟩
  have HD := Lib.hid (DrawStretchesOf_any A nc c zs w hr hz)
  clear hr hz hvr
  go_enter Try.func18, Try.ntmps18
  go_wp2_with fail
  refine HD.out.mono ?_
  rintro e w1 ⟨A1, n1, c1, ws, rfl, hrow1, hsh, hn1, B1⟩
  have s1 := B1.size
  have o1 := hrow1.own.win
  have hl47 := hsh.len47S
  clear HD hbig hrow1
  obtain ⟨R, hRe⟩ : ∃ R, R = SO ws := ⟨_, rfl⟩
  have HR := Lib.hid hRe
  have hRl : R.length ≤ 100000 := by rw [hRe]; exact SO_len ws
  clear hRe
  have H2 := Lib.hid (StretchesOf_any A1 n1 c1 ws w1 (o1.rd' (by omega)) hl47)
  rw [← HR.out] at H2
  go_wp2_with fail
  refine H2.out.mono ?_
  rintro e w2 ⟨A2, n2, c2, rfl, ho2, hb2⟩
  have s2 := hb2.size
  have B2 := B1.trans (hb2.mono (by omega))
  have o2 := ho2.win
  have o1 := o1.below hb2 (by omega)
  have H3 := Lib.hid (specStretchesOf_any A1 n1 c1 ws w2 (o1.rd' (by omega)) hl47)
  rw [← HR.out] at H3
  clear H2 ho2 hb2 B1
  go_wp2_with fail
  refine H3.out.mono ?_
  rintro e w3 ⟨A3, n3, c3, rfl, ho3, hb3⟩
  have s3 := hb3.size
  have B3 := B2.trans (hb3.mono (by omega))
  have o3 := ho3.win
  have o2 := o2.below hb3 (by omega)
  have o1 := o1.below hb3 (by omega)
  clear H3 ho3 hb3 B2
  go_wp2_with fail
  refine (equalTexts_same A2 n2 c2 R A3 n3 c3 w3 _ _ o2.rd o3.rd).mono ?_
  rintro e w4 ⟨rfl, hq4⟩
  have hb4 := hq4.bel w3.heap.size
  have s4 := hb4.size
  have B4 := B3.trans (hb4.mono (by omega))
  have o2 := o2.below hb4 (by omega)
  have o1 := o1.below hb4 (by omega)
  clear hq4 hb4 B3 o3
  have hl2 := o2.rd.slen
  have hm2 := o2.rd.2.2.1
  have hnc2 := o2.rd.2.1
  unfold maxLen at hm2
  by_cases h0 : n2 = 0
  · have hn0 : ((n2 : Int) == 0) = true := by simp [h0]
    have H5 := Lib.hid (specStretchesOf_any A1 n1 c1 ws w4 (o1.rd' (by omega)) hl47)
    rw [← HR.out] at H5
    clear h0
    go_wp2_with fail
    refine H5.out.mono ?_
    rintro e w6 ⟨A6, n6, c6, rfl, ho6, hb6⟩
    have s6 := hb6.size
    have B6 := B4.trans (hb6.mono (by omega))
    have o6 := ho6.win
    have o2 := o2.below hb6 (by omega)
    clear H5 ho6 hb6 B4
    go_wp2_with fail
    refine (equalTexts_same A2 n2 c2 R A6 n6 c6 w6 _ _ o2.rd o6.rd).mono ?_
    rintro e w7 ⟨rfl, hq7⟩
    have B7 := B6.trans ((hq7.bel w6.heap.size).mono (by omega))
    clear hq7
    go_wp2_with fail
    go_ret
    exact ⟨rfl, B7⟩
  have hn0 : ((n2 : Int) == 0) = false := by simp; omega
  have hRne : SO ws ≠ [] := fun e => by rw [← HR.out] at e; rw [e] at hl2; simp at hl2; omega
  obtain ⟨hvw, hk2, hso⟩ := SO_yes hRne
  clear hso
  obtain ⟨hk1, hk6, _, hn8, hn1'⟩ := vwd_k hvw
  have hl1 := o1.rd.slen
  obtain ⟨b1, o1', x0, rfl, hbb1, hx0, hcx0⟩ := o1.rd.str (k := 0) (by omega)
  rw [Nat.add_zero] at hcx0
  obtain ⟨k, hk⟩ : ∃ k, k = klen ws := ⟨_, rfl⟩
  have HK := Lib.hid hk
  have Hx0 := Lib.hid (show x0.length = k by rw [hk]; exact (klen_at hx0).symm)
  have Hl1 := Lib.hid hl1
  have Hl2 := Lib.hid hl2
  rw [← hk] at hk1 hk2 hk6
  have hn1i : (0 : Int) < (n1 : Int) := by omega
  have hn1j : 0 < n1 := by omega
  obtain ⟨i0, hi, hz0, hz1, hz2⟩ := info_parts Try.infoXs
  clear hx0 h0 hvw hk hRne hl1 hl2 hn1'
  go_wp2_with fail
  rw [Hx0.out]
  go_loopw [6, 7] (fun v iv wr => ∃ (i : Nat) (A' : Option Addr) (n' c' : Nat), i ≤ n2 ∧ iv = .int .i64 i ∧ v = .slice A' n' c' ∧ Row wr w4.heap.size 9 A' n' c' ((allW (R.take i) k).map S) ∧ Below w4.heap.size w4 wr) (fun _ iv _ => n2 - (intOf iv).toNat)
  case atStart => exact ⟨0, _, 0, 0, Nat.zero_le _, rfl, rfl, Row.nil_ w4 9, (Below.refl _ _).alloc (Nat.le_refl _) _⟩
  case round =>
    obtain ⟨i, A', n', c', hi8, rfl, rfl, hrow, hbr⟩ := hrel
    have hsz := hbr.size
    by_cases hlt : i < n2
    · obtain ⟨y, hy⟩ : ∃ y, R[i]? = some y := ⟨_, List.getElem?_eq_getElem (by have := Hl2.out; omega)⟩
      have Hy := Lib.hid hy
      have hfew := SO_few (ws := ws) (i := i) (y := y) (a := 0) (by rw [← HR.out]; exact hy)
      rw [← HR.out, ← HK.out, winds_len] at hfew
      have hwl : ws.length ≤ 8 := hn8
      have hyl : y.length ≤ 20 := by omega
      have hstep := Lib.hid (fun a (ha : a + k ≤ y.length) => SO_step (ws := ws) (i := i) (a := a) (by rw [← HR.out]; exact hy) (by rw [← HK.out]; exact ha))
      rw [← HR.out, ← HK.out] at hstep
      have hrl := hrow.len
      rw [List.length_map] at hrl
      have h0 : (i : Int) < (n2 : Int) := by omega
      have h00 : (0 : Int) ≤ (i : Int) := by omega
      have Hrl := Lib.hid hrl
      clear hy hrl
      go_wp2_with fail
      go_loopw [6, 8] (fun v av wz => ∃ (a : Nat) (A' : Option Addr) (n' c' : Nat), a ≤ y.length + 1 - k ∧ av = .int .i64 a ∧ v = .slice A' n' c' ∧ Row wz w4.heap.size 9 A' n' c' ((allW (R.take i) k ++ windsTo y k a).map S) ∧ Below w4.heap.size w4 wz) (fun _ av _ => y.length + 1 - (intOf av).toNat)
      case atStart => exact ⟨0, A', n', c', Nat.zero_le _, rfl, rfl, by simpa [windsTo] using hrow, hbr⟩
      case round =>
        obtain ⟨a, A', n', c', ha8, rfl, rfl, hrow, hbr⟩ := hrel
        have hsz := hbr.size
        have o1z := o1.below hbr (by omega)
        have o2z := o2.below hbr (by omega)
        have hrl := hrow.len
        rw [List.length_map, List.length_append, windsTo_len] at hrl
        have hn' : n' ≤ 50 := by have := Hrl.out; omega
        obtain ⟨b, o, y', rfl, hb, hy', hcy⟩ := o2z.rd.str hlt
        obtain rfl : y' = y := by
          have := Hy.out
          rw [hy'] at this
          injection this
        clear hy' hrl
        by_cases hat : a + k ≤ y'.length
        · have a1 : (a : Int) + (k : Int) ≤ (y'.length : Int) := by omega
          have a2 : IntKind.i64.wrap ((a : Int) + (k : Int)) = (a : Int) + (k : Int) := by rw [IntKind.wrap_i64]; omega
          have a3 : (0 : Int) ≤ (a : Int) := by omega
          have a4 : (a : Int) ≤ (a : Int) + (k : Int) := by omega
          have a5 : (0 : Int) ≤ (a : Int) + (k : Int) := by omega
          obtain ⟨g1, g2⟩ := hstep.out a hat
          have G1 := Lib.hid (show ws.contains (List.take k (List.drop a y')) = true from g1)
          have G2 := Lib.hid (show (allW (R.take i) k ++ windsTo y' k a).contains (List.take k (List.drop a y')) = false from g2)
          clear g1 g2
          go_wp2_with fail
          refine (hasText_any _ n1 c1 ws _ wr _ o1z.rd).mono ?_
          rintro e w8 ⟨rfl, hq8⟩
          rw [G1.out]
          have hrow8 := hrow.quiet hq8
          have hb8 := bel_step hbr (hq8.bel wr.heap.size)
          clear hrow hcy hq8
          go_wp2_with fail
          refine (hasText_any A' n' c' _ _ w8 _ hrow8.rd).mono ?_
          rintro e w9 ⟨rfl, hq9⟩
          rw [G2.out]
          have hrow9 := hrow8.quiet hq9
          have hb9 := bel_step hb8 (hq9.bel w8.heap.size)
          have hs9 := hb9.size
          have hnc9 := hrow9.own.2.1
          have hcm9 := hrow9.own.2.2.1
          unfold maxLen at hcm9
          clear hrow8 hq9 hb8
          go_wp2_with (at_builtin; refine wpList_app1 _ rfl _ _ 24 rfl w4.heap.size 9 i0 (.string ⟨#[]⟩) 16 Try.underlying24 hi hz0 hz1 hz2 rfl _ _ _ _ rfl (hrow9.alloc _) _ (.string ⟨(List.take k (List.drop a y')).toArray⟩) rfl (cell_one_new _ _ _) rfl (by omega) (by omega) (by simp; omega) ?_; intro A10 c10 w10 hown10 hgrow10)
          have hb10 : Below w4.heap.size w4 w10 := kp_grown (kp_alloc _ hb9 (Nat.le_refl _)) (Nat.le_refl _) hgrow10 (row_ge hrow9)
          go_roundw
          case rel => exact ⟨a + 1, A10, n' + 1, c10, by omega, by go_num, rfl, by rw [windsTo_succ, ← List.append_assoc, List.map_append]; exact hown10, hb10⟩
          case measure => simp [intOf]; omega
        · obtain rfl : a = y'.length + 1 - k := by omega
          have a1 : ¬ (((y'.length + 1 - k : Nat) : Int) + (k : Int) ≤ (y'.length : Int)) := by omega
          have a2 : IntKind.i64.wrap (((y'.length + 1 - k : Nat) : Int) + (k : Int)) = ((y'.length + 1 - k : Nat) : Int) + (k : Int) := by rw [IntKind.wrap_i64]; omega
          have Hst := Lib.hid (allW_at k Hy.out)
          obtain ⟨d, hd⟩ : ∃ d, d = y'.length + 1 - k := ⟨_, rfl⟩
          rw [← hd] at a1 a2 hrow ⊢
          rw [show windsTo y' k d = winds y' k by rw [hd]; rfl] at hrow
          clear hd
          go_wp2_with fail
          go_roundw
          case rel => exact ⟨i + 1, A', n', c', by omega, by go_num, rfl, by rw [Hst.out]; exact hrow, hbr⟩
          case measure => simp [intOf]; omega
    · obtain rfl : i = n2 := by omega
      have hrl := hrow.len
      rw [List.length_map, List.take_of_length_le (by have := Hl2.out; omega)] at hrl
      have hlaw := (SO_law ws).2.2
      rw [← HR.out, ← HK.out, hrl, Hl1.out] at hlaw
      have hle : (n' : Int) ≤ (n1 : Int) := by omega
      have B5 := B4.trans (hbr.mono (by omega))
      clear hrl hlaw
      go_wp2_with fail
      go_ret
      exact ⟨ret_bool (by simp), B5⟩
end Go.Proofs.Ytfbmcfdmffpfmaa
