/-
  Contracts of the functions that put numbers in order by insertion.
-/
import Derived.Test.YtopmifidhabobaaRegn
import Derived.Test.YtopmifidhabobaaDst
namespace Go.Proofs.Ytopmifidhabobaa
open Go.RowKit
set_option linter.unusedVariables false
set_option linter.unusedSimpArgs false

theorem take_while_at {l : List Int} {x : Int} {q : Nat} (h : ∀ y ∈ l.take q, y ≤ x) (h2 : q = l.length ∨ ∃ y, l[q]? = some y ∧ x < y) : l.takeWhile (fun y => decide (y ≤ x)) = l.take q ∧ l.dropWhile (fun y => decide (y ≤ x)) = l.drop q := by
  induction l generalizing q with
  | nil => simp
  | cons a l ih =>
    cases q with
    | zero =>
      rcases h2 with h2 | ⟨y, hy, hxy⟩
      · cases h2
      · simp at hy
        subst hy
        have : ¬ a ≤ x := by omega
        simp [List.takeWhile_cons, List.dropWhile_cons, this]
    | succ q =>
      have ha : a ≤ x := h a (by simp)
      obtain ⟨h3, h4⟩ := ih (q := q) (fun y hy => h y (by simp [hy])) (by
        rcases h2 with h2 | ⟨y, hy, hxy⟩
        · left; simpa using h2
        · right; exact ⟨y, by simpa using hy, hxy⟩)
      simp [List.takeWhile_cons, List.dropWhile_cons, ha, h3, h4]
theorem insn_at {l : List Int} {x : Int} {q : Nat} (h : ∀ y ∈ l.take q, y ≤ x) (h2 : q = l.length ∨ ∃ y, l[q]? = some y ∧ x < y) : insn l x = l.take q ++ [x] ++ l.drop q := by
  obtain ⟨h3, h4⟩ := take_while_at h h2
  unfold insn
  rw [h3, h4]
  simp
theorem srt_nil : srt [] = [] := List.eq_nil_of_length_eq_zero (srt_len [])
theorem srt_take_succ {zs : List Int} {j : Nat} {x : Int} (hx : zs[j]? = some x) : srt (zs.take (j + 1)) = insn (srt (zs.take j)) x := by
  obtain ⟨h1, rfl⟩ := List.getElem?_eq_some_iff.1 hx
  rw [srt_snoc, List.take_succ_eq_append_getElem h1]
theorem take_le_succ {l : List Int} {x y : Int} {q : Nat} (h : ∀ z ∈ l.take q, z ≤ x) (hy : l[q]? = some y) (hyx : y ≤ x) : ∀ z ∈ l.take (q + 1), z ≤ x := by
  obtain ⟨h1, rfl⟩ := List.getElem?_eq_some_iff.1 hy
  intro z hz
  rw [List.take_succ_eq_append_getElem h1, List.mem_append, List.mem_singleton] at hz
  rcases hz with hz | rfl
  · exact h z hz
  · exact hyx
set_option maxRecDepth 8000 in
set_option maxHeartbeats 3200000 in
theorem sortInts_any (A : Option Addr) (n c : Nat) (zs : List Int) (w : World) (hr : Rd w w.heap.size A n c (zs.map I)) (hn20 : n ≤ 1048576) :
    Calls Try.prog 79 #[.slice A n c] w (RetRow w 3 ((srt zs).map I)) := by
  have hm := hr.2.2.1
  have hnc := hr.2.1
  have Hn := Lib.hid hr.ilen
  unfold maxLen at hm
  obtain ⟨i0, hi, hz0, hz1, hz2⟩ := info_parts Try.infoI
  go_enter Try.func79, Try.ntmps79
  go_wp2
  go_loopw [3, 4] (fun v i wr => ∃ (j g c' : Nat), j ≤ n ∧ i = .int .i64 j ∧ v = .slice (some ⟨g, 0, none⟩) j c' ∧ Row wr w.heap.size 3 (some ⟨g, 0, none⟩) j c' ((srt (zs.take j)).map I) ∧ Below w.heap.size w wr) (fun _ i _ => n - (intOf i).toNat)
  case atStart =>
    refine ⟨0, w.heap.size, 0, Nat.zero_le _, rfl, rfl, ?_, ?_⟩
    · rw [List.take_zero, srt_nil]
      exact Row.nil_ w 3
    · exact (Below.refl _ _).alloc (Nat.le_refl _) _
  case round =>
    obtain ⟨j, g, c', hj, rfl, rfl, hown, hbw⟩ := hrel
    by_cases hjn : j < n
    · obtain ⟨b, o, x, rfl, hb, hx, hc⟩ := (hr.below hbw).int hjn
      have Hx := Lib.hid hx
      clear hx
      have hj' : (j : Int) < (n : Int) := by omega
      have hrd := hown.rd
      have hsz := hbw.size
      go_wp2_with fail
      obtain ⟨wo, rfl⟩ : ∃ wo : World, wo = wr := ⟨_, rfl⟩
      go_loopw [5] (fun k wr => ∃ q : Nat, q ≤ j ∧ k = .int .i64 q ∧ (∀ y ∈ (srt (zs.take j)).take q, y ≤ x) ∧ Quiet wo wr) (fun k _ => j - (intOf k).toNat)
      case atStart => exact ⟨0, Nat.zero_le _, rfl, by simp, Quiet.refl _⟩
      case round =>
        obtain ⟨q, hq, rfl, hle, hqw⟩ := hrel
        have Hle := Lib.hid hle
        clear hle
        obtain ⟨x', hx', hcx⟩ := (hqw.rd (hr.below hbw)).int_at hjn
        rw [Hx.out] at hx'
        injection hx' with hx'
        subst hx'
        clear hc
        by_cases hqj : q < j
        · obtain ⟨y, hy, hcy⟩ := (hqw.rd hrd).int_at hqj
          have Hy := Lib.hid hy
          clear hy
          have hq' : (q : Int) < (j : Int) := by omega
          rw [Nat.zero_add] at hcy
          by_cases hyx : y ≤ x
          · have Hn2 := Lib.hid (take_le_succ Hle.out Hy.out hyx)
            go_wp2_with fail
            go_quiet (fail)
            go_wp2_with fail
            go_roundw
            case rel => exact ⟨q + 1, by omega, by go_num, Hn2.out, hqw.drewN _⟩
            case measure => simp [intOf]; omega
          · have hyx' : decide (y ≤ x) = false := by simpa using hyx
            have Hin := Lib.hid (insn_at Hle.out (.inr ⟨y, Hy.out, by omega⟩))
            go_wp2_with fail
            go_quiet (fail)
            go_wp2_with fail
            clear hcy
            obtain ⟨w0, hw0⟩ : ∃ w0, w0 = wr.drewN nq := ⟨_, rfl⟩
            have hcx0 : w0.cell? ⟨b, o + j, none⟩ = some (.int .i64 x) := by rw [hw0]; exact hcx
            have hrow0 : Row w0 w.heap.size 3 (some ⟨g, 0, none⟩) j c' ((srt (zs.take j)).map I) := by rw [hw0]; exact hown.quiet (hqw.drewN nq)
            have hbe0 : Below w.heap.size w w0 := by rw [hw0]; exact hbw.trans ((hqw.drewN nq).bel _)
            have hsz0 := hbe0.size
            have Hbe0 := Lib.hid hbe0
            rw [← hw0]
            have hq0 : (0 : Int) ≤ (q : Int) := by omega
            have hj0 : (0 : Int) ≤ (j : Int) := by omega
            have hrd0 := hrow0.rd
            have hcb0 := hrd0.2.1
            have hlen0 : ((srt (zs.take j)).map I).length = j := hrd0.1
            have hqc : (q : Int) ≤ (c' : Int) := by omega
            have hbN : (⟨b, o + j, none⟩ : Addr).block < w0.heap.size := by show b < w0.heap.size; omega
            clear hw0 hbw hown hrd hcx hqw hbe0
            go_region_held3 (fun w' => w'.cell? ⟨b, o + j, none⟩ = some (.int .i64 x) ∧ Below w0.heap.size w0 w')
              ((refine kp_one hcx0 hbN ?_; focus (repeat (first | exact Below.refl _ _ | assumption | refine kp_grown ?_ (Nat.le_refl _) hgrow1 (own_ge (Nat.le_refl _)) | refine kp_grown ?_ (Nat.le_refl _) hgrow1 (own_ge (Nat.le_add_right _ _)) | refine kp_grown ?_ (Nat.le_refl _) hgrow2 (row_ge hrow1) | refine kp_grown ?_ (Nat.le_refl _) hgrow3 (row_ge hrow2) | refine kp_alloc _ ?_ (Nat.le_refl _) | apply Below.drew))))
              (first
               | (refine step_app _ (by rfl) _ _ _ (by rfl) w0.heap.size 3 i0 _ 8 Try.underlying22 hi hz0 hz1 hz2 rfl _ 0 0 [] (by rfl) ?_ _ q _ (((srt (zs.take j)).map I).take q) (by rfl) (len_front hlen0 hq) (rd_front hrd0 ?_) (one_front _ _ (oneI _)) q ?_ ?_ ?_ ?_ ?_
                  first | exact Row.of_block #[] 0 (heap_al0 _ _) (Nat.le_refl _) rfl (Nat.zero_le _) | exact Row.of_block #[] 0 (heap_al1 _ _ _) (Nat.le_refl _) rfl (Nat.zero_le _) | exact Row.of_block #[] 0 (heap_al2 _ _ _) (Nat.le_add_right _ _) rfl (Nat.zero_le _)
                  (focus (repeat (first | exact Below.refl _ _ | assumption | refine kp_grown ?_ (Nat.le_refl _) hgrow1 (own_ge (Nat.le_refl _)) | refine kp_grown ?_ (Nat.le_refl _) hgrow1 (own_ge (Nat.le_add_right _ _)) | refine kp_grown ?_ (Nat.le_refl _) hgrow2 (row_ge hrow1) | refine kp_grown ?_ (Nat.le_refl _) hgrow3 (row_ge hrow2) | refine kp_alloc _ ?_ (Nat.le_refl _) | apply Below.drew)))
                  omega
                  omega
                  omega
                  (refine kp_size (N := w0.heap.size) ?_; focus (repeat (first | exact Below.refl _ _ | assumption | refine kp_grown ?_ (Nat.le_refl _) hgrow1 (own_ge (Nat.le_refl _)) | refine kp_grown ?_ (Nat.le_refl _) hgrow1 (own_ge (Nat.le_add_right _ _)) | refine kp_grown ?_ (Nat.le_refl _) hgrow2 (row_ge hrow1) | refine kp_grown ?_ (Nat.le_refl _) hgrow3 (row_ge hrow2) | refine kp_alloc _ ?_ (Nat.le_refl _) | apply Below.drew)))
                  intro A1 c1 w1 hrow1 hgrow1)
               | (refine step_app _ (by rfl) _ _ _ (by rfl) w0.heap.size 3 i0 _ 8 Try.underlying22 hi hz0 hz1 hz2 rfl A1 _ c1 _ ?_ (hrow1.alloc _) ⟨w1.heap.size, 0, none⟩ 1 1 [.int .i64 x] ?_ rfl (World.news_of_block (cs := #[.int .i64 x]) (t := 3) (fr := (0, 0)) (heap_al0 w1 _)) (oneI [x]) (q + 1) ?_ ?_ ?_ ?_ ?_
                  rfl
                  rfl
                  omega
                  omega
                  omega
                  (refine kp_size (N := w0.heap.size) ?_; focus (repeat (first | exact Below.refl _ _ | assumption | refine kp_grown ?_ (Nat.le_refl _) hgrow1 (own_ge (Nat.le_refl _)) | refine kp_grown ?_ (Nat.le_refl _) hgrow1 (own_ge (Nat.le_add_right _ _)) | refine kp_grown ?_ (Nat.le_refl _) hgrow2 (row_ge hrow1) | refine kp_grown ?_ (Nat.le_refl _) hgrow3 (row_ge hrow2) | refine kp_alloc _ ?_ (Nat.le_refl _) | apply Below.drew)))
                  intro A2 c2 w2 hrow2 hgrow2)
               | (refine step_app _ (by rfl) _ _ _ (by rfl) w0.heap.size 3 i0 _ 8 Try.underlying22 hi hz0 hz1 hz2 rfl A1 _ c1 _ ?_ (hrow1) ⟨w0.heap.size + 1, 0, none⟩ 1 1 [.int .i64 x] ?_ rfl (World.news_of_block (cs := #[.int .i64 x]) (t := 3) (fr := (0, 0)) (block_far hgrow1 (heap_al2 _ _ _) (own_ne (Nat.ne_of_gt (Nat.lt_succ_self _))))) (oneI [x]) (q + 1) ?_ ?_ ?_ ?_ ?_
                  rfl
                  rfl
                  omega
                  omega
                  omega
                  (refine kp_size (N := w0.heap.size) ?_; focus (repeat (first | exact Below.refl _ _ | assumption | refine kp_grown ?_ (Nat.le_refl _) hgrow1 (own_ge (Nat.le_refl _)) | refine kp_grown ?_ (Nat.le_refl _) hgrow1 (own_ge (Nat.le_add_right _ _)) | refine kp_grown ?_ (Nat.le_refl _) hgrow2 (row_ge hrow1) | refine kp_grown ?_ (Nat.le_refl _) hgrow3 (row_ge hrow2) | refine kp_alloc _ ?_ (Nat.le_refl _) | apply Below.drew)))
                  intro A2 c2 w2 hrow2 hgrow2)
               | (refine step_app _ (by rfl) _ _ _ (by rfl) w0.heap.size 3 i0 _ 8 Try.underlying22 hi hz0 hz1 hz2 rfl A1 _ c1 _ ?_ (hrow1) ⟨w0.heap.size, 0, none⟩ 1 1 [.int .i64 x] ?_ rfl (World.news_of_block (cs := #[.int .i64 x]) (t := 3) (fr := (0, 0)) (block_far hgrow1 (heap_al1 _ _ _) (own_ne (Nat.ne_of_lt (Nat.lt_succ_self _))))) (oneI [x]) (q + 1) ?_ ?_ ?_ ?_ ?_
                  rfl
                  rfl
                  omega
                  omega
                  omega
                  (refine kp_size (N := w0.heap.size) ?_; focus (repeat (first | exact Below.refl _ _ | assumption | refine kp_grown ?_ (Nat.le_refl _) hgrow1 (own_ge (Nat.le_refl _)) | refine kp_grown ?_ (Nat.le_refl _) hgrow1 (own_ge (Nat.le_add_right _ _)) | refine kp_grown ?_ (Nat.le_refl _) hgrow2 (row_ge hrow1) | refine kp_grown ?_ (Nat.le_refl _) hgrow3 (row_ge hrow2) | refine kp_alloc _ ?_ (Nat.le_refl _) | apply Below.drew)))
                  intro A2 c2 w2 hrow2 hgrow2)
               | (refine step_app _ (by rfl) _ _ _ (by rfl) w0.heap.size 3 i0 _ 8 Try.underlying22 hi hz0 hz1 hz2 rfl A2 _ c2 _ ?_ hrow2 (if c' = q then ⟨g, 0, none⟩ else ⟨g, q, none⟩) (j - q) (c' - q) (((srt (zs.take j)).map I).drop q) ?_ (len_back hlen0) (rd_back2 hrd0 ?_) (one_back _ _ (oneI _)) (j + 1) ?_ ?_ ?_ ?_ ?_
                  rfl
                  exact slice_if
                  (focus (repeat (first | exact Below.refl _ _ | assumption | refine kp_grown ?_ (Nat.le_refl _) hgrow1 (own_ge (Nat.le_refl _)) | refine kp_grown ?_ (Nat.le_refl _) hgrow1 (own_ge (Nat.le_add_right _ _)) | refine kp_grown ?_ (Nat.le_refl _) hgrow2 (row_ge hrow1) | refine kp_grown ?_ (Nat.le_refl _) hgrow3 (row_ge hrow2) | refine kp_alloc _ ?_ (Nat.le_refl _) | apply Below.drew)))
                  omega
                  omega
                  omega
                  (refine kp_size (N := w0.heap.size) ?_; focus (repeat (first | exact Below.refl _ _ | assumption | refine kp_grown ?_ (Nat.le_refl _) hgrow1 (own_ge (Nat.le_refl _)) | refine kp_grown ?_ (Nat.le_refl _) hgrow1 (own_ge (Nat.le_add_right _ _)) | refine kp_grown ?_ (Nat.le_refl _) hgrow2 (row_ge hrow1) | refine kp_grown ?_ (Nat.le_refl _) hgrow3 (row_ge hrow2) | refine kp_alloc _ ?_ (Nat.le_refl _) | apply Below.drew)))
                  intro A3 c3 w3 hrow3 hgrow3))
            all_goals
              have hbe3 : Below w0.heap.size w0 w3 := by focus (repeat (first | exact Below.refl _ _ | assumption | refine kp_grown ?_ (Nat.le_refl _) hgrow1 (own_ge (Nat.le_refl _)) | refine kp_grown ?_ (Nat.le_refl _) hgrow1 (own_ge (Nat.le_add_right _ _)) | refine kp_grown ?_ (Nat.le_refl _) hgrow2 (row_ge hrow1) | refine kp_grown ?_ (Nat.le_refl _) hgrow3 (row_ge hrow2) | refine kp_alloc _ ?_ (Nat.le_refl _) | apply Below.drew))
              obtain ⟨g3, cap3, he3, _, _⟩ := World.ownsRow.form hrow3 (by omega)
              injection he3 with ha3 _ _
              subst ha3
              have hre : w.heap.size ≤ w0.heap.size := hsz0
              have HR := Lib.hid (hrow3.more hre)
              have HB := Lib.hid (Hbe0.out.trans (hbe3.mono hre))
              clear hrow3 hrow2 hrow1 hgrow1 hgrow2 hgrow3 hbe3
              go_wp2_with fail
              go_roundw
              case rel =>
                refine ⟨j + 1, g3, c3, by omega, by go_num, rfl, ?_, HB.out⟩
                have h := HR.out
                rw [srt_take_succ Hx.out, Hin.out]
                simp only [List.map_append, List.map_take, List.map_drop, List.map_cons, List.map_nil, List.nil_append, List.append_assoc, I] at h ⊢
                exact h
              case measure => simp [intOf]; omega
        · have hq' : ¬ (q : Int) < (j : Int) := by omega
          have hqj' : decide ((q : Int) < (j : Int)) = false := by simp; omega
          have Hin := Lib.hid (insn_at (q := q) Hle.out (.inl (by rw [srt_len, List.length_take, Hn.out]; omega)))
          go_wp2_with fail
          go_quiet (fail)
          go_wp2_with fail
          obtain ⟨w0, hw0⟩ : ∃ w0, w0 = wr.drewN nq := ⟨_, rfl⟩
          have hcx0 : w0.cell? ⟨b, o + j, none⟩ = some (.int .i64 x) := by rw [hw0]; exact hcx
          have hrow0 : Row w0 w.heap.size 3 (some ⟨g, 0, none⟩) j c' ((srt (zs.take j)).map I) := by rw [hw0]; exact hown.quiet (hqw.drewN nq)
          have hbe0 : Below w.heap.size w w0 := by rw [hw0]; exact hbw.trans ((hqw.drewN nq).bel _)
          have hsz0 := hbe0.size
          have Hbe0 := Lib.hid hbe0
          rw [← hw0]
          have hq0 : (0 : Int) ≤ (q : Int) := by omega
          have hj0 : (0 : Int) ≤ (j : Int) := by omega
          have hrd0 := hrow0.rd
          have hcb0 := hrd0.2.1
          have hlen0 : ((srt (zs.take j)).map I).length = j := hrd0.1
          have hqc : (q : Int) ≤ (c' : Int) := by omega
          have hbN : (⟨b, o + j, none⟩ : Addr).block < w0.heap.size := by show b < w0.heap.size; omega
          clear hw0 hbw hown hrd hcx hqw hbe0
          go_region_held3 (fun w' => w'.cell? ⟨b, o + j, none⟩ = some (.int .i64 x) ∧ Below w0.heap.size w0 w')
            ((refine kp_one hcx0 hbN ?_; focus (repeat (first | exact Below.refl _ _ | assumption | refine kp_grown ?_ (Nat.le_refl _) hgrow1 (own_ge (Nat.le_refl _)) | refine kp_grown ?_ (Nat.le_refl _) hgrow1 (own_ge (Nat.le_add_right _ _)) | refine kp_grown ?_ (Nat.le_refl _) hgrow2 (row_ge hrow1) | refine kp_grown ?_ (Nat.le_refl _) hgrow3 (row_ge hrow2) | refine kp_alloc _ ?_ (Nat.le_refl _) | apply Below.drew))))
            (first
             | (refine step_app _ (by rfl) _ _ _ (by rfl) w0.heap.size 3 i0 _ 8 Try.underlying22 hi hz0 hz1 hz2 rfl _ 0 0 [] (by rfl) ?_ _ q _ (((srt (zs.take j)).map I).take q) (by rfl) (len_front hlen0 hq) (rd_front hrd0 ?_) (one_front _ _ (oneI _)) q ?_ ?_ ?_ ?_ ?_
                first | exact Row.of_block #[] 0 (heap_al0 _ _) (Nat.le_refl _) rfl (Nat.zero_le _) | exact Row.of_block #[] 0 (heap_al1 _ _ _) (Nat.le_refl _) rfl (Nat.zero_le _) | exact Row.of_block #[] 0 (heap_al2 _ _ _) (Nat.le_add_right _ _) rfl (Nat.zero_le _)
                (focus (repeat (first | exact Below.refl _ _ | assumption | refine kp_grown ?_ (Nat.le_refl _) hgrow1 (own_ge (Nat.le_refl _)) | refine kp_grown ?_ (Nat.le_refl _) hgrow1 (own_ge (Nat.le_add_right _ _)) | refine kp_grown ?_ (Nat.le_refl _) hgrow2 (row_ge hrow1) | refine kp_grown ?_ (Nat.le_refl _) hgrow3 (row_ge hrow2) | refine kp_alloc _ ?_ (Nat.le_refl _) | apply Below.drew)))
                omega
                omega
                omega
                (refine kp_size (N := w0.heap.size) ?_; focus (repeat (first | exact Below.refl _ _ | assumption | refine kp_grown ?_ (Nat.le_refl _) hgrow1 (own_ge (Nat.le_refl _)) | refine kp_grown ?_ (Nat.le_refl _) hgrow1 (own_ge (Nat.le_add_right _ _)) | refine kp_grown ?_ (Nat.le_refl _) hgrow2 (row_ge hrow1) | refine kp_grown ?_ (Nat.le_refl _) hgrow3 (row_ge hrow2) | refine kp_alloc _ ?_ (Nat.le_refl _) | apply Below.drew)))
                intro A1 c1 w1 hrow1 hgrow1)
             | (refine step_app _ (by rfl) _ _ _ (by rfl) w0.heap.size 3 i0 _ 8 Try.underlying22 hi hz0 hz1 hz2 rfl A1 _ c1 _ ?_ (hrow1.alloc _) ⟨w1.heap.size, 0, none⟩ 1 1 [.int .i64 x] ?_ rfl (World.news_of_block (cs := #[.int .i64 x]) (t := 3) (fr := (0, 0)) (heap_al0 w1 _)) (oneI [x]) (q + 1) ?_ ?_ ?_ ?_ ?_
                rfl
                rfl
                omega
                omega
                omega
                (refine kp_size (N := w0.heap.size) ?_; focus (repeat (first | exact Below.refl _ _ | assumption | refine kp_grown ?_ (Nat.le_refl _) hgrow1 (own_ge (Nat.le_refl _)) | refine kp_grown ?_ (Nat.le_refl _) hgrow1 (own_ge (Nat.le_add_right _ _)) | refine kp_grown ?_ (Nat.le_refl _) hgrow2 (row_ge hrow1) | refine kp_grown ?_ (Nat.le_refl _) hgrow3 (row_ge hrow2) | refine kp_alloc _ ?_ (Nat.le_refl _) | apply Below.drew)))
                intro A2 c2 w2 hrow2 hgrow2)
             | (refine step_app _ (by rfl) _ _ _ (by rfl) w0.heap.size 3 i0 _ 8 Try.underlying22 hi hz0 hz1 hz2 rfl A1 _ c1 _ ?_ (hrow1) ⟨w0.heap.size + 1, 0, none⟩ 1 1 [.int .i64 x] ?_ rfl (World.news_of_block (cs := #[.int .i64 x]) (t := 3) (fr := (0, 0)) (block_far hgrow1 (heap_al2 _ _ _) (own_ne (Nat.ne_of_gt (Nat.lt_succ_self _))))) (oneI [x]) (q + 1) ?_ ?_ ?_ ?_ ?_
                rfl
                rfl
                omega
                omega
                omega
                (refine kp_size (N := w0.heap.size) ?_; focus (repeat (first | exact Below.refl _ _ | assumption | refine kp_grown ?_ (Nat.le_refl _) hgrow1 (own_ge (Nat.le_refl _)) | refine kp_grown ?_ (Nat.le_refl _) hgrow1 (own_ge (Nat.le_add_right _ _)) | refine kp_grown ?_ (Nat.le_refl _) hgrow2 (row_ge hrow1) | refine kp_grown ?_ (Nat.le_refl _) hgrow3 (row_ge hrow2) | refine kp_alloc _ ?_ (Nat.le_refl _) | apply Below.drew)))
                intro A2 c2 w2 hrow2 hgrow2)
             | (refine step_app _ (by rfl) _ _ _ (by rfl) w0.heap.size 3 i0 _ 8 Try.underlying22 hi hz0 hz1 hz2 rfl A1 _ c1 _ ?_ (hrow1) ⟨w0.heap.size, 0, none⟩ 1 1 [.int .i64 x] ?_ rfl (World.news_of_block (cs := #[.int .i64 x]) (t := 3) (fr := (0, 0)) (block_far hgrow1 (heap_al1 _ _ _) (own_ne (Nat.ne_of_lt (Nat.lt_succ_self _))))) (oneI [x]) (q + 1) ?_ ?_ ?_ ?_ ?_
                rfl
                rfl
                omega
                omega
                omega
                (refine kp_size (N := w0.heap.size) ?_; focus (repeat (first | exact Below.refl _ _ | assumption | refine kp_grown ?_ (Nat.le_refl _) hgrow1 (own_ge (Nat.le_refl _)) | refine kp_grown ?_ (Nat.le_refl _) hgrow1 (own_ge (Nat.le_add_right _ _)) | refine kp_grown ?_ (Nat.le_refl _) hgrow2 (row_ge hrow1) | refine kp_grown ?_ (Nat.le_refl _) hgrow3 (row_ge hrow2) | refine kp_alloc _ ?_ (Nat.le_refl _) | apply Below.drew)))
                intro A2 c2 w2 hrow2 hgrow2)
             | (refine step_app _ (by rfl) _ _ _ (by rfl) w0.heap.size 3 i0 _ 8 Try.underlying22 hi hz0 hz1 hz2 rfl A2 _ c2 _ ?_ hrow2 (if c' = q then ⟨g, 0, none⟩ else ⟨g, q, none⟩) (j - q) (c' - q) (((srt (zs.take j)).map I).drop q) ?_ (len_back hlen0) (rd_back2 hrd0 ?_) (one_back _ _ (oneI _)) (j + 1) ?_ ?_ ?_ ?_ ?_
                rfl
                exact slice_if
                (focus (repeat (first | exact Below.refl _ _ | assumption | refine kp_grown ?_ (Nat.le_refl _) hgrow1 (own_ge (Nat.le_refl _)) | refine kp_grown ?_ (Nat.le_refl _) hgrow1 (own_ge (Nat.le_add_right _ _)) | refine kp_grown ?_ (Nat.le_refl _) hgrow2 (row_ge hrow1) | refine kp_grown ?_ (Nat.le_refl _) hgrow3 (row_ge hrow2) | refine kp_alloc _ ?_ (Nat.le_refl _) | apply Below.drew)))
                omega
                omega
                omega
                (refine kp_size (N := w0.heap.size) ?_; focus (repeat (first | exact Below.refl _ _ | assumption | refine kp_grown ?_ (Nat.le_refl _) hgrow1 (own_ge (Nat.le_refl _)) | refine kp_grown ?_ (Nat.le_refl _) hgrow1 (own_ge (Nat.le_add_right _ _)) | refine kp_grown ?_ (Nat.le_refl _) hgrow2 (row_ge hrow1) | refine kp_grown ?_ (Nat.le_refl _) hgrow3 (row_ge hrow2) | refine kp_alloc _ ?_ (Nat.le_refl _) | apply Below.drew)))
                intro A3 c3 w3 hrow3 hgrow3))
          all_goals
            have hbe3 : Below w0.heap.size w0 w3 := by focus (repeat (first | exact Below.refl _ _ | assumption | refine kp_grown ?_ (Nat.le_refl _) hgrow1 (own_ge (Nat.le_refl _)) | refine kp_grown ?_ (Nat.le_refl _) hgrow1 (own_ge (Nat.le_add_right _ _)) | refine kp_grown ?_ (Nat.le_refl _) hgrow2 (row_ge hrow1) | refine kp_grown ?_ (Nat.le_refl _) hgrow3 (row_ge hrow2) | refine kp_alloc _ ?_ (Nat.le_refl _) | apply Below.drew))
            obtain ⟨g3, cap3, he3, _, _⟩ := World.ownsRow.form hrow3 (by omega)
            injection he3 with ha3 _ _
            subst ha3
            have hre : w.heap.size ≤ w0.heap.size := hsz0
            have HR := Lib.hid (hrow3.more hre)
            have HB := Lib.hid (Hbe0.out.trans (hbe3.mono hre))
            clear hrow3 hrow2 hrow1 hgrow1 hgrow2 hgrow3 hbe3
            go_wp2_with fail
            go_roundw
            case rel =>
              refine ⟨j + 1, g3, c3, by omega, by go_num, rfl, ?_, HB.out⟩
              have h := HR.out
              rw [srt_take_succ Hx.out, Hin.out]
              simp only [List.map_append, List.map_take, List.map_drop, List.map_cons, List.map_nil, List.nil_append, List.append_assoc, I] at h ⊢
              exact h
            case measure => simp [intOf]; omega
    · have hj' : ¬ (j : Int) < (n : Int) := by omega
      have hjn' : j = n := by omega
      subst hjn'
      go_wp2_with fail
      go_ret
      rw [List.take_of_length_le (by rw [Hn.out]; exact Nat.le_refl _)] at hown
      exact ⟨_, _, _, rfl, hown.own, hbw⟩
set_option maxRecDepth 8000 in
set_option maxHeartbeats 3200000 in
theorem sorted_any (A : Option Addr) (n c : Nat) (zs : List Int) (w : World) (hr : Rd w w.heap.size A n c (zs.map I)) (hn20 : n ≤ 1048576) :
    Calls Try.prog 37 #[.slice A n c] w (RetRow w 3 ((srt zs).map I)) := by
  have hm := hr.2.2.1
  have hnc := hr.2.1
  have Hn := Lib.hid hr.ilen
  unfold maxLen at hm
  obtain ⟨i0, hi, hz0, hz1, hz2⟩ := info_parts Try.infoI
  go_enter Try.func37, Try.ntmps37
  go_wp2
  go_loopw [3, 4] (fun v i wr => ∃ (j g c' : Nat), j ≤ n ∧ i = .int .i64 j ∧ v = .slice (some ⟨g, 0, none⟩) j c' ∧ Row wr w.heap.size 3 (some ⟨g, 0, none⟩) j c' ((srt (zs.take j)).map I) ∧ Below w.heap.size w wr) (fun _ i _ => n - (intOf i).toNat)
  case atStart =>
    refine ⟨0, w.heap.size, 0, Nat.zero_le _, rfl, rfl, ?_, ?_⟩
    · rw [List.take_zero, srt_nil]
      exact Row.nil_ w 3
    · exact (Below.refl _ _).alloc (Nat.le_refl _) _
  case round =>
    obtain ⟨j, g, c', hj, rfl, rfl, hown, hbw⟩ := hrel
    by_cases hjn : j < n
    · obtain ⟨b, o, x, rfl, hb, hx, hc⟩ := (hr.below hbw).int hjn
      have Hx := Lib.hid hx
      clear hx
      have hj' : (j : Int) < (n : Int) := by omega
      have hrd := hown.rd
      have hsz := hbw.size
      go_wp2_with fail
      obtain ⟨wo, rfl⟩ : ∃ wo : World, wo = wr := ⟨_, rfl⟩
      go_loopw [5] (fun k wr => ∃ q : Nat, q ≤ j ∧ k = .int .i64 q ∧ (∀ y ∈ (srt (zs.take j)).take q, y ≤ x) ∧ Quiet wo wr) (fun k _ => j - (intOf k).toNat)
      case atStart => exact ⟨0, Nat.zero_le _, rfl, by simp, Quiet.refl _⟩
      case round =>
        obtain ⟨q, hq, rfl, hle, hqw⟩ := hrel
        have Hle := Lib.hid hle
        clear hle
        obtain ⟨x', hx', hcx⟩ := (hqw.rd (hr.below hbw)).int_at hjn
        rw [Hx.out] at hx'
        injection hx' with hx'
        subst hx'
        clear hc
        by_cases hqj : q < j
        · obtain ⟨y, hy, hcy⟩ := (hqw.rd hrd).int_at hqj
          have Hy := Lib.hid hy
          clear hy
          have hq' : (q : Int) < (j : Int) := by omega
          rw [Nat.zero_add] at hcy
          by_cases hyx : y ≤ x
          · have Hn2 := Lib.hid (take_le_succ Hle.out Hy.out hyx)
            go_wp2_with fail
            go_quiet (fail)
            go_wp2_with fail
            go_roundw
            case rel => exact ⟨q + 1, by omega, by go_num, Hn2.out, hqw.drewN _⟩
            case measure => simp [intOf]; omega
          · have hyx' : decide (y ≤ x) = false := by simpa using hyx
            have Hin := Lib.hid (insn_at Hle.out (.inr ⟨y, Hy.out, by omega⟩))
            go_wp2_with fail
            go_quiet (fail)
            go_wp2_with fail
            clear hcy
            obtain ⟨w0, hw0⟩ : ∃ w0, w0 = wr.drewN nq := ⟨_, rfl⟩
            have hcx0 : w0.cell? ⟨b, o + j, none⟩ = some (.int .i64 x) := by rw [hw0]; exact hcx
            have hrow0 : Row w0 w.heap.size 3 (some ⟨g, 0, none⟩) j c' ((srt (zs.take j)).map I) := by rw [hw0]; exact hown.quiet (hqw.drewN nq)
            have hbe0 : Below w.heap.size w w0 := by rw [hw0]; exact hbw.trans ((hqw.drewN nq).bel _)
            have hsz0 := hbe0.size
            have Hbe0 := Lib.hid hbe0
            rw [← hw0]
            have hq0 : (0 : Int) ≤ (q : Int) := by omega
            have hj0 : (0 : Int) ≤ (j : Int) := by omega
            have hrd0 := hrow0.rd
            have hcb0 := hrd0.2.1
            have hlen0 : ((srt (zs.take j)).map I).length = j := hrd0.1
            have hqc : (q : Int) ≤ (c' : Int) := by omega
            have hbN : (⟨b, o + j, none⟩ : Addr).block < w0.heap.size := by show b < w0.heap.size; omega
            clear hw0 hbw hown hrd hcx hqw hbe0
            go_region_held3 (fun w' => w'.cell? ⟨b, o + j, none⟩ = some (.int .i64 x) ∧ Below w0.heap.size w0 w')
              ((refine kp_one hcx0 hbN ?_; focus (repeat (first | exact Below.refl _ _ | assumption | refine kp_grown ?_ (Nat.le_refl _) hgrow1 (own_ge (Nat.le_refl _)) | refine kp_grown ?_ (Nat.le_refl _) hgrow1 (own_ge (Nat.le_add_right _ _)) | refine kp_grown ?_ (Nat.le_refl _) hgrow2 (row_ge hrow1) | refine kp_grown ?_ (Nat.le_refl _) hgrow3 (row_ge hrow2) | refine kp_alloc _ ?_ (Nat.le_refl _) | apply Below.drew))))
              (first
               | (refine step_app _ (by rfl) _ _ _ (by rfl) w0.heap.size 3 i0 _ 8 Try.underlying22 hi hz0 hz1 hz2 rfl _ 0 0 [] (by rfl) ?_ _ q _ (((srt (zs.take j)).map I).take q) (by rfl) (len_front hlen0 hq) (rd_front hrd0 ?_) (one_front _ _ (oneI _)) q ?_ ?_ ?_ ?_ ?_
                  first | exact Row.of_block #[] 0 (heap_al0 _ _) (Nat.le_refl _) rfl (Nat.zero_le _) | exact Row.of_block #[] 0 (heap_al1 _ _ _) (Nat.le_refl _) rfl (Nat.zero_le _) | exact Row.of_block #[] 0 (heap_al2 _ _ _) (Nat.le_add_right _ _) rfl (Nat.zero_le _)
                  (focus (repeat (first | exact Below.refl _ _ | assumption | refine kp_grown ?_ (Nat.le_refl _) hgrow1 (own_ge (Nat.le_refl _)) | refine kp_grown ?_ (Nat.le_refl _) hgrow1 (own_ge (Nat.le_add_right _ _)) | refine kp_grown ?_ (Nat.le_refl _) hgrow2 (row_ge hrow1) | refine kp_grown ?_ (Nat.le_refl _) hgrow3 (row_ge hrow2) | refine kp_alloc _ ?_ (Nat.le_refl _) | apply Below.drew)))
                  omega
                  omega
                  omega
                  (refine kp_size (N := w0.heap.size) ?_; focus (repeat (first | exact Below.refl _ _ | assumption | refine kp_grown ?_ (Nat.le_refl _) hgrow1 (own_ge (Nat.le_refl _)) | refine kp_grown ?_ (Nat.le_refl _) hgrow1 (own_ge (Nat.le_add_right _ _)) | refine kp_grown ?_ (Nat.le_refl _) hgrow2 (row_ge hrow1) | refine kp_grown ?_ (Nat.le_refl _) hgrow3 (row_ge hrow2) | refine kp_alloc _ ?_ (Nat.le_refl _) | apply Below.drew)))
                  intro A1 c1 w1 hrow1 hgrow1)
               | (refine step_app _ (by rfl) _ _ _ (by rfl) w0.heap.size 3 i0 _ 8 Try.underlying22 hi hz0 hz1 hz2 rfl A1 _ c1 _ ?_ (hrow1.alloc _) ⟨w1.heap.size, 0, none⟩ 1 1 [.int .i64 x] ?_ rfl (World.news_of_block (cs := #[.int .i64 x]) (t := 3) (fr := (0, 0)) (heap_al0 w1 _)) (oneI [x]) (q + 1) ?_ ?_ ?_ ?_ ?_
                  rfl
                  rfl
                  omega
                  omega
                  omega
                  (refine kp_size (N := w0.heap.size) ?_; focus (repeat (first | exact Below.refl _ _ | assumption | refine kp_grown ?_ (Nat.le_refl _) hgrow1 (own_ge (Nat.le_refl _)) | refine kp_grown ?_ (Nat.le_refl _) hgrow1 (own_ge (Nat.le_add_right _ _)) | refine kp_grown ?_ (Nat.le_refl _) hgrow2 (row_ge hrow1) | refine kp_grown ?_ (Nat.le_refl _) hgrow3 (row_ge hrow2) | refine kp_alloc _ ?_ (Nat.le_refl _) | apply Below.drew)))
                  intro A2 c2 w2 hrow2 hgrow2)
               | (refine step_app _ (by rfl) _ _ _ (by rfl) w0.heap.size 3 i0 _ 8 Try.underlying22 hi hz0 hz1 hz2 rfl A1 _ c1 _ ?_ (hrow1) ⟨w0.heap.size + 1, 0, none⟩ 1 1 [.int .i64 x] ?_ rfl (World.news_of_block (cs := #[.int .i64 x]) (t := 3) (fr := (0, 0)) (block_far hgrow1 (heap_al2 _ _ _) (own_ne (Nat.ne_of_gt (Nat.lt_succ_self _))))) (oneI [x]) (q + 1) ?_ ?_ ?_ ?_ ?_
                  rfl
                  rfl
                  omega
                  omega
                  omega
                  (refine kp_size (N := w0.heap.size) ?_; focus (repeat (first | exact Below.refl _ _ | assumption | refine kp_grown ?_ (Nat.le_refl _) hgrow1 (own_ge (Nat.le_refl _)) | refine kp_grown ?_ (Nat.le_refl _) hgrow1 (own_ge (Nat.le_add_right _ _)) | refine kp_grown ?_ (Nat.le_refl _) hgrow2 (row_ge hrow1) | refine kp_grown ?_ (Nat.le_refl _) hgrow3 (row_ge hrow2) | refine kp_alloc _ ?_ (Nat.le_refl _) | apply Below.drew)))
                  intro A2 c2 w2 hrow2 hgrow2)
               | (refine step_app _ (by rfl) _ _ _ (by rfl) w0.heap.size 3 i0 _ 8 Try.underlying22 hi hz0 hz1 hz2 rfl A1 _ c1 _ ?_ (hrow1) ⟨w0.heap.size, 0, none⟩ 1 1 [.int .i64 x] ?_ rfl (World.news_of_block (cs := #[.int .i64 x]) (t := 3) (fr := (0, 0)) (block_far hgrow1 (heap_al1 _ _ _) (own_ne (Nat.ne_of_lt (Nat.lt_succ_self _))))) (oneI [x]) (q + 1) ?_ ?_ ?_ ?_ ?_
                  rfl
                  rfl
                  omega
                  omega
                  omega
                  (refine kp_size (N := w0.heap.size) ?_; focus (repeat (first | exact Below.refl _ _ | assumption | refine kp_grown ?_ (Nat.le_refl _) hgrow1 (own_ge (Nat.le_refl _)) | refine kp_grown ?_ (Nat.le_refl _) hgrow1 (own_ge (Nat.le_add_right _ _)) | refine kp_grown ?_ (Nat.le_refl _) hgrow2 (row_ge hrow1) | refine kp_grown ?_ (Nat.le_refl _) hgrow3 (row_ge hrow2) | refine kp_alloc _ ?_ (Nat.le_refl _) | apply Below.drew)))
                  intro A2 c2 w2 hrow2 hgrow2)
               | (refine step_app _ (by rfl) _ _ _ (by rfl) w0.heap.size 3 i0 _ 8 Try.underlying22 hi hz0 hz1 hz2 rfl A2 _ c2 _ ?_ hrow2 (if c' = q then ⟨g, 0, none⟩ else ⟨g, q, none⟩) (j - q) (c' - q) (((srt (zs.take j)).map I).drop q) ?_ (len_back hlen0) (rd_back2 hrd0 ?_) (one_back _ _ (oneI _)) (j + 1) ?_ ?_ ?_ ?_ ?_
                  rfl
                  exact slice_if
                  (focus (repeat (first | exact Below.refl _ _ | assumption | refine kp_grown ?_ (Nat.le_refl _) hgrow1 (own_ge (Nat.le_refl _)) | refine kp_grown ?_ (Nat.le_refl _) hgrow1 (own_ge (Nat.le_add_right _ _)) | refine kp_grown ?_ (Nat.le_refl _) hgrow2 (row_ge hrow1) | refine kp_grown ?_ (Nat.le_refl _) hgrow3 (row_ge hrow2) | refine kp_alloc _ ?_ (Nat.le_refl _) | apply Below.drew)))
                  omega
                  omega
                  omega
                  (refine kp_size (N := w0.heap.size) ?_; focus (repeat (first | exact Below.refl _ _ | assumption | refine kp_grown ?_ (Nat.le_refl _) hgrow1 (own_ge (Nat.le_refl _)) | refine kp_grown ?_ (Nat.le_refl _) hgrow1 (own_ge (Nat.le_add_right _ _)) | refine kp_grown ?_ (Nat.le_refl _) hgrow2 (row_ge hrow1) | refine kp_grown ?_ (Nat.le_refl _) hgrow3 (row_ge hrow2) | refine kp_alloc _ ?_ (Nat.le_refl _) | apply Below.drew)))
                  intro A3 c3 w3 hrow3 hgrow3))
            all_goals
              have hbe3 : Below w0.heap.size w0 w3 := by focus (repeat (first | exact Below.refl _ _ | assumption | refine kp_grown ?_ (Nat.le_refl _) hgrow1 (own_ge (Nat.le_refl _)) | refine kp_grown ?_ (Nat.le_refl _) hgrow1 (own_ge (Nat.le_add_right _ _)) | refine kp_grown ?_ (Nat.le_refl _) hgrow2 (row_ge hrow1) | refine kp_grown ?_ (Nat.le_refl _) hgrow3 (row_ge hrow2) | refine kp_alloc _ ?_ (Nat.le_refl _) | apply Below.drew))
              obtain ⟨g3, cap3, he3, _, _⟩ := World.ownsRow.form hrow3 (by omega)
              injection he3 with ha3 _ _
              subst ha3
              have hre : w.heap.size ≤ w0.heap.size := hsz0
              have HR := Lib.hid (hrow3.more hre)
              have HB := Lib.hid (Hbe0.out.trans (hbe3.mono hre))
              clear hrow3 hrow2 hrow1 hgrow1 hgrow2 hgrow3 hbe3
              go_wp2_with fail
              go_roundw
              case rel =>
                refine ⟨j + 1, g3, c3, by omega, by go_num, rfl, ?_, HB.out⟩
                have h := HR.out
                rw [srt_take_succ Hx.out, Hin.out]
                simp only [List.map_append, List.map_take, List.map_drop, List.map_cons, List.map_nil, List.nil_append, List.append_assoc, I] at h ⊢
                exact h
              case measure => simp [intOf]; omega
        · have hq' : ¬ (q : Int) < (j : Int) := by omega
          have hqj' : decide ((q : Int) < (j : Int)) = false := by simp; omega
          have Hin := Lib.hid (insn_at (q := q) Hle.out (.inl (by rw [srt_len, List.length_take, Hn.out]; omega)))
          go_wp2_with fail
          go_quiet (fail)
          go_wp2_with fail
          obtain ⟨w0, hw0⟩ : ∃ w0, w0 = wr.drewN nq := ⟨_, rfl⟩
          have hcx0 : w0.cell? ⟨b, o + j, none⟩ = some (.int .i64 x) := by rw [hw0]; exact hcx
          have hrow0 : Row w0 w.heap.size 3 (some ⟨g, 0, none⟩) j c' ((srt (zs.take j)).map I) := by rw [hw0]; exact hown.quiet (hqw.drewN nq)
          have hbe0 : Below w.heap.size w w0 := by rw [hw0]; exact hbw.trans ((hqw.drewN nq).bel _)
          have hsz0 := hbe0.size
          have Hbe0 := Lib.hid hbe0
          rw [← hw0]
          have hq0 : (0 : Int) ≤ (q : Int) := by omega
          have hj0 : (0 : Int) ≤ (j : Int) := by omega
          have hrd0 := hrow0.rd
          have hcb0 := hrd0.2.1
          have hlen0 : ((srt (zs.take j)).map I).length = j := hrd0.1
          have hqc : (q : Int) ≤ (c' : Int) := by omega
          have hbN : (⟨b, o + j, none⟩ : Addr).block < w0.heap.size := by show b < w0.heap.size; omega
          clear hw0 hbw hown hrd hcx hqw hbe0
          go_region_held3 (fun w' => w'.cell? ⟨b, o + j, none⟩ = some (.int .i64 x) ∧ Below w0.heap.size w0 w')
            ((refine kp_one hcx0 hbN ?_; focus (repeat (first | exact Below.refl _ _ | assumption | refine kp_grown ?_ (Nat.le_refl _) hgrow1 (own_ge (Nat.le_refl _)) | refine kp_grown ?_ (Nat.le_refl _) hgrow1 (own_ge (Nat.le_add_right _ _)) | refine kp_grown ?_ (Nat.le_refl _) hgrow2 (row_ge hrow1) | refine kp_grown ?_ (Nat.le_refl _) hgrow3 (row_ge hrow2) | refine kp_alloc _ ?_ (Nat.le_refl _) | apply Below.drew))))
            (first
             | (refine step_app _ (by rfl) _ _ _ (by rfl) w0.heap.size 3 i0 _ 8 Try.underlying22 hi hz0 hz1 hz2 rfl _ 0 0 [] (by rfl) ?_ _ q _ (((srt (zs.take j)).map I).take q) (by rfl) (len_front hlen0 hq) (rd_front hrd0 ?_) (one_front _ _ (oneI _)) q ?_ ?_ ?_ ?_ ?_
                first | exact Row.of_block #[] 0 (heap_al0 _ _) (Nat.le_refl _) rfl (Nat.zero_le _) | exact Row.of_block #[] 0 (heap_al1 _ _ _) (Nat.le_refl _) rfl (Nat.zero_le _) | exact Row.of_block #[] 0 (heap_al2 _ _ _) (Nat.le_add_right _ _) rfl (Nat.zero_le _)
                (focus (repeat (first | exact Below.refl _ _ | assumption | refine kp_grown ?_ (Nat.le_refl _) hgrow1 (own_ge (Nat.le_refl _)) | refine kp_grown ?_ (Nat.le_refl _) hgrow1 (own_ge (Nat.le_add_right _ _)) | refine kp_grown ?_ (Nat.le_refl _) hgrow2 (row_ge hrow1) | refine kp_grown ?_ (Nat.le_refl _) hgrow3 (row_ge hrow2) | refine kp_alloc _ ?_ (Nat.le_refl _) | apply Below.drew)))
                omega
                omega
                omega
                (refine kp_size (N := w0.heap.size) ?_; focus (repeat (first | exact Below.refl _ _ | assumption | refine kp_grown ?_ (Nat.le_refl _) hgrow1 (own_ge (Nat.le_refl _)) | refine kp_grown ?_ (Nat.le_refl _) hgrow1 (own_ge (Nat.le_add_right _ _)) | refine kp_grown ?_ (Nat.le_refl _) hgrow2 (row_ge hrow1) | refine kp_grown ?_ (Nat.le_refl _) hgrow3 (row_ge hrow2) | refine kp_alloc _ ?_ (Nat.le_refl _) | apply Below.drew)))
                intro A1 c1 w1 hrow1 hgrow1)
             | (refine step_app _ (by rfl) _ _ _ (by rfl) w0.heap.size 3 i0 _ 8 Try.underlying22 hi hz0 hz1 hz2 rfl A1 _ c1 _ ?_ (hrow1.alloc _) ⟨w1.heap.size, 0, none⟩ 1 1 [.int .i64 x] ?_ rfl (World.news_of_block (cs := #[.int .i64 x]) (t := 3) (fr := (0, 0)) (heap_al0 w1 _)) (oneI [x]) (q + 1) ?_ ?_ ?_ ?_ ?_
                rfl
                rfl
                omega
                omega
                omega
                (refine kp_size (N := w0.heap.size) ?_; focus (repeat (first | exact Below.refl _ _ | assumption | refine kp_grown ?_ (Nat.le_refl _) hgrow1 (own_ge (Nat.le_refl _)) | refine kp_grown ?_ (Nat.le_refl _) hgrow1 (own_ge (Nat.le_add_right _ _)) | refine kp_grown ?_ (Nat.le_refl _) hgrow2 (row_ge hrow1) | refine kp_grown ?_ (Nat.le_refl _) hgrow3 (row_ge hrow2) | refine kp_alloc _ ?_ (Nat.le_refl _) | apply Below.drew)))
                intro A2 c2 w2 hrow2 hgrow2)
             | (refine step_app _ (by rfl) _ _ _ (by rfl) w0.heap.size 3 i0 _ 8 Try.underlying22 hi hz0 hz1 hz2 rfl A1 _ c1 _ ?_ (hrow1) ⟨w0.heap.size + 1, 0, none⟩ 1 1 [.int .i64 x] ?_ rfl (World.news_of_block (cs := #[.int .i64 x]) (t := 3) (fr := (0, 0)) (block_far hgrow1 (heap_al2 _ _ _) (own_ne (Nat.ne_of_gt (Nat.lt_succ_self _))))) (oneI [x]) (q + 1) ?_ ?_ ?_ ?_ ?_
                rfl
                rfl
                omega
                omega
                omega
                (refine kp_size (N := w0.heap.size) ?_; focus (repeat (first | exact Below.refl _ _ | assumption | refine kp_grown ?_ (Nat.le_refl _) hgrow1 (own_ge (Nat.le_refl _)) | refine kp_grown ?_ (Nat.le_refl _) hgrow1 (own_ge (Nat.le_add_right _ _)) | refine kp_grown ?_ (Nat.le_refl _) hgrow2 (row_ge hrow1) | refine kp_grown ?_ (Nat.le_refl _) hgrow3 (row_ge hrow2) | refine kp_alloc _ ?_ (Nat.le_refl _) | apply Below.drew)))
                intro A2 c2 w2 hrow2 hgrow2)
             | (refine step_app _ (by rfl) _ _ _ (by rfl) w0.heap.size 3 i0 _ 8 Try.underlying22 hi hz0 hz1 hz2 rfl A1 _ c1 _ ?_ (hrow1) ⟨w0.heap.size, 0, none⟩ 1 1 [.int .i64 x] ?_ rfl (World.news_of_block (cs := #[.int .i64 x]) (t := 3) (fr := (0, 0)) (block_far hgrow1 (heap_al1 _ _ _) (own_ne (Nat.ne_of_lt (Nat.lt_succ_self _))))) (oneI [x]) (q + 1) ?_ ?_ ?_ ?_ ?_
                rfl
                rfl
                omega
                omega
                omega
                (refine kp_size (N := w0.heap.size) ?_; focus (repeat (first | exact Below.refl _ _ | assumption | refine kp_grown ?_ (Nat.le_refl _) hgrow1 (own_ge (Nat.le_refl _)) | refine kp_grown ?_ (Nat.le_refl _) hgrow1 (own_ge (Nat.le_add_right _ _)) | refine kp_grown ?_ (Nat.le_refl _) hgrow2 (row_ge hrow1) | refine kp_grown ?_ (Nat.le_refl _) hgrow3 (row_ge hrow2) | refine kp_alloc _ ?_ (Nat.le_refl _) | apply Below.drew)))
                intro A2 c2 w2 hrow2 hgrow2)
             | (refine step_app _ (by rfl) _ _ _ (by rfl) w0.heap.size 3 i0 _ 8 Try.underlying22 hi hz0 hz1 hz2 rfl A2 _ c2 _ ?_ hrow2 (if c' = q then ⟨g, 0, none⟩ else ⟨g, q, none⟩) (j - q) (c' - q) (((srt (zs.take j)).map I).drop q) ?_ (len_back hlen0) (rd_back2 hrd0 ?_) (one_back _ _ (oneI _)) (j + 1) ?_ ?_ ?_ ?_ ?_
                rfl
                exact slice_if
                (focus (repeat (first | exact Below.refl _ _ | assumption | refine kp_grown ?_ (Nat.le_refl _) hgrow1 (own_ge (Nat.le_refl _)) | refine kp_grown ?_ (Nat.le_refl _) hgrow1 (own_ge (Nat.le_add_right _ _)) | refine kp_grown ?_ (Nat.le_refl _) hgrow2 (row_ge hrow1) | refine kp_grown ?_ (Nat.le_refl _) hgrow3 (row_ge hrow2) | refine kp_alloc _ ?_ (Nat.le_refl _) | apply Below.drew)))
                omega
                omega
                omega
                (refine kp_size (N := w0.heap.size) ?_; focus (repeat (first | exact Below.refl _ _ | assumption | refine kp_grown ?_ (Nat.le_refl _) hgrow1 (own_ge (Nat.le_refl _)) | refine kp_grown ?_ (Nat.le_refl _) hgrow1 (own_ge (Nat.le_add_right _ _)) | refine kp_grown ?_ (Nat.le_refl _) hgrow2 (row_ge hrow1) | refine kp_grown ?_ (Nat.le_refl _) hgrow3 (row_ge hrow2) | refine kp_alloc _ ?_ (Nat.le_refl _) | apply Below.drew)))
                intro A3 c3 w3 hrow3 hgrow3))
          all_goals
            have hbe3 : Below w0.heap.size w0 w3 := by focus (repeat (first | exact Below.refl _ _ | assumption | refine kp_grown ?_ (Nat.le_refl _) hgrow1 (own_ge (Nat.le_refl _)) | refine kp_grown ?_ (Nat.le_refl _) hgrow1 (own_ge (Nat.le_add_right _ _)) | refine kp_grown ?_ (Nat.le_refl _) hgrow2 (row_ge hrow1) | refine kp_grown ?_ (Nat.le_refl _) hgrow3 (row_ge hrow2) | refine kp_alloc _ ?_ (Nat.le_refl _) | apply Below.drew))
            obtain ⟨g3, cap3, he3, _, _⟩ := World.ownsRow.form hrow3 (by omega)
            injection he3 with ha3 _ _
            subst ha3
            have hre : w.heap.size ≤ w0.heap.size := hsz0
            have HR := Lib.hid (hrow3.more hre)
            have HB := Lib.hid (Hbe0.out.trans (hbe3.mono hre))
            clear hrow3 hrow2 hrow1 hgrow1 hgrow2 hgrow3 hbe3
            go_wp2_with fail
            go_roundw
            case rel =>
              refine ⟨j + 1, g3, c3, by omega, by go_num, rfl, ?_, HB.out⟩
              have h := HR.out
              rw [srt_take_succ Hx.out, Hin.out]
              simp only [List.map_append, List.map_take, List.map_drop, List.map_cons, List.map_nil, List.nil_append, List.append_assoc, I] at h ⊢
              exact h
            case measure => simp [intOf]; omega
    · have hj' : ¬ (j : Int) < (n : Int) := by omega
      have hjn' : j = n := by omega
      subst hjn'
      go_wp2_with fail
      go_ret
      rw [List.take_of_length_le (by rw [Hn.out]; exact Nat.le_refl _)] at hown
      exact ⟨_, _, _, rfl, hown.own, hbw⟩
end Go.Proofs.Ytopmifidhabobaa
