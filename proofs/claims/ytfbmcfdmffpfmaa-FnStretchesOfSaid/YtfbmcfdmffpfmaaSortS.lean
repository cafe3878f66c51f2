/-
  Contracts of the functions that put texts in order by insertion.
-/
import Derived.Test.YtfbmcfdmffpfmaaRegn
import Derived.Test.YtfbmcfdmffpfmaaFac
import Derived.Test.YtfbmcfdmffpfmaaXs
namespace Go.Proofs.Ytfbmcfdmffpfmaa
open Go.RowKit
set_option linter.unusedVariables false
set_option linter.unusedSimpArgs false

theorem insS_two {l : List (List UInt8)} {x : List UInt8} {q : Nat} (hq : q ≤ l.length) (h : ∀ y ∈ l.take q, y ≤ x) (h2 : q = l.length ∨ ∃ y, l[q]? = some y ∧ ¬ y ≤ x) : insS l x = l.take q ++ [x] ++ l.drop q := by
  rw [insS_at hq h]
  · simp
  · intro y hy
    rcases h2 with h2 | ⟨z, hz, hn⟩
    · rw [h2, List.getElem?_eq_none (Nat.le_refl _)] at hy
      cases hy
    · rw [hz] at hy
      injection hy with hy
      exact hy ▸ hn
theorem insT_two {l : List (List UInt8)} {x : List UInt8} {q : Nat} (hq : q ≤ l.length) (h : ∀ y ∈ l.take q, y < x) (h2 : q = l.length ∨ ∃ y, l[q]? = some y ∧ ¬ y < x ∧ y ≠ x) : insT l x = l.take q ++ [x] ++ l.drop q := by
  have e : l[q]? ≠ some x := by
    rcases h2 with h2 | ⟨z, hz, _, hn⟩
    · rw [h2, List.getElem?_eq_none (Nat.le_refl _)]
      simp
    · rw [hz]
      simpa using hn
  rw [insT_at hq h, if_neg e]
  · simp
  · intro y hy
    rcases h2 with h2 | ⟨z, hz, hn, _⟩
    · rw [h2, List.getElem?_eq_none (Nat.le_refl _)] at hy
      cases hy
    · rw [hz] at hy
      injection hy with hy
      exact hy ▸ hn
theorem insT_there {l : List (List UInt8)} {x : List UInt8} {q : Nat} (hq : q < l.length) (h : ∀ y ∈ l.take q, y < x) (hx : l[q]? = some x) : insT l x = l := by
  rw [insT_at (Nat.le_of_lt hq) h, if_pos hx]
  intro y hy
  rw [hx] at hy
  injection hy with hy
  exact hy ▸ List.lt_irrefl x
theorem stT_nil : stT [] = [] := List.eq_nil_of_length_eq_zero (stT_len [])
theorem stT_take_succ {ws : List (List UInt8)} {j : Nat} {x : List UInt8} (hx : ws[j]? = some x) : stT (ws.take (j + 1)) = insS (stT (ws.take j)) x := by
  obtain ⟨h1, rfl⟩ := List.getElem?_eq_some_iff.1 hx
  rw [← stT_snoc, List.take_succ_eq_append_getElem h1]
theorem take_all_succ {p : List UInt8 → Prop} {l : List (List UInt8)} {y : List UInt8} {q : Nat} (h : ∀ z ∈ l.take q, p z) (hy : l[q]? = some y) (hyx : p y) : ∀ z ∈ l.take (q + 1), p z := by
  obtain ⟨h1, rfl⟩ := List.getElem?_eq_some_iff.1 hy
  intro z hz
  rw [List.take_succ_eq_append_getElem h1, List.mem_append, List.mem_singleton] at hz
  rcases hz with hz | rfl
  · exact h z hz
  · exact hyx
set_option maxRecDepth 8000 in
set_option maxHeartbeats 3200000 in
theorem sortTexts_any (A : Option Addr) (n c : Nat) (ws : List (List UInt8)) (w : World) (hr : Rd w w.heap.size A n c (ws.map S)) (hn20 : n ≤ 1048576) :
    Calls Try.prog 80 #[.slice A n c] w (RetRow w 9 ((stT ws).map S)) := by
  have hm := hr.2.2.1
  have hnc := hr.2.1
  have Hn := Lib.hid hr.slen
  unfold maxLen at hm
  obtain ⟨i0, hi, hz0, hz1, hz2⟩ := info_parts Try.infoXs
  go_enter Try.func80, Try.ntmps80
  go_wp2
  go_loopw [3, 4] (fun v i wr => ∃ (j g c' : Nat), j ≤ n ∧ i = .int .i64 j ∧ v = .slice (some ⟨g, 0, none⟩) j c' ∧ Row wr w.heap.size 9 (some ⟨g, 0, none⟩) j c' ((stT (ws.take j)).map S) ∧ Below w.heap.size w wr) (fun _ i _ => n - (intOf i).toNat)
  case atStart =>
    refine ⟨0, w.heap.size, 0, Nat.zero_le _, rfl, rfl, ?_, ?_⟩
    · rw [List.take_zero, stT_nil]
      exact Row.nil_ w 9
    · exact (Below.refl _ _).alloc (Nat.le_refl _) _
  case round =>
    obtain ⟨j, g, c', hj, rfl, rfl, hown, hbw⟩ := hrel
    by_cases hjn : j < n
    · obtain ⟨b, o, x, rfl, hb, hx, hc⟩ := (hr.below hbw).str hjn
      have Hx := Lib.hid hx
      clear hx
      have hj' : (j : Int) < (n : Int) := by omega
      have hrd := hown.rd
      have hsz := hbw.size
      go_wp2_with fail
      obtain ⟨wo, rfl⟩ : ∃ wo : World, wo = wr := ⟨_, rfl⟩
      go_loopw [5] (fun k wr => ∃ q : Nat, q ≤ j ∧ k = .int .i64 q ∧ (∀ y ∈ (stT (ws.take j)).take q, y ≤ x) ∧ Quiet wo wr) (fun k _ => j - (intOf k).toNat)
      case atStart => exact ⟨0, Nat.zero_le _, rfl, by simp, Quiet.refl _⟩
      case round =>
        obtain ⟨q, hq, rfl, hle, hqw⟩ := hrel
        have Hle := Lib.hid hle
        clear hle
        obtain ⟨x', hx', hcx⟩ := (hqw.rd (hr.below hbw)).str_at hjn
        rw [Hx.out] at hx'
        injection hx' with hx'
        subst hx'
        clear hc
        by_cases hqj : q < j
        · obtain ⟨y, hy, hcy⟩ := (hqw.rd hrd).str_at hqj
          have Hy := Lib.hid hy
          clear hy
          have hq' : (q : Int) < (j : Int) := by omega
          rw [Nat.zero_add] at hcy
          cases hyx : (Op.bytesLess y x || y == x) with
          | true =>
            have Hn2 := Lib.hid (take_all_succ (p := fun z => z ≤ x) Hle.out Hy.out (bleq_le hyx))
            go_wp2_with fail
            go_quiet (fail)
            go_wp2_with fail
            go_roundw
            case rel => exact ⟨q + 1, by omega, by go_num, Hn2.out, hqw.drewN _⟩
            case measure => simp [intOf]; omega
          | false =>
            have Hin := Lib.hid (insS_two (l := stT (ws.take j)) (q := q) (by rw [stT_len, List.length_take, Hn.out]; omega) Hle.out (.inr ⟨y, Hy.out, bleq_nle hyx⟩))
            go_wp2_with fail
            go_quiet (fail)
            go_wp2_with fail
            clear hcy
            obtain ⟨w0, hw0⟩ : ∃ w0, w0 = wr.drewN nq := ⟨_, rfl⟩
            have hcx0 : w0.cell? ⟨b, o + j, none⟩ = some (.string ⟨x.toArray⟩) := by rw [hw0]; exact hcx
            have hrow0 : Row w0 w.heap.size 9 (some ⟨g, 0, none⟩) j c' ((stT (ws.take j)).map S) := by rw [hw0]; exact hown.quiet (hqw.drewN nq)
            have hbe0 : Below w.heap.size w w0 := by rw [hw0]; exact hbw.trans ((hqw.drewN nq).bel _)
            have hsz0 := hbe0.size
            have Hbe0 := Lib.hid hbe0
            rw [← hw0]
            have hq0 : (0 : Int) ≤ (q : Int) := by omega
            have hj0 : (0 : Int) ≤ (j : Int) := by omega
            have hrd0 := hrow0.rd
            have hcb0 := hrd0.2.1
            have hlen0 : ((stT (ws.take j)).map S).length = j := hrd0.1
            have hqc : (q : Int) ≤ (c' : Int) := by omega
            have hbN : (⟨b, o + j, none⟩ : Addr).block < w0.heap.size := by show b < w0.heap.size; omega
            clear hw0 hbw hown hrd hcx hqw hbe0
            go_region_held3 (fun w' => w'.cell? ⟨b, o + j, none⟩ = some (.string ⟨x.toArray⟩) ∧ Below w0.heap.size w0 w')
              ((refine kp_one hcx0 hbN ?_; focus (repeat (first | exact Below.refl _ _ | assumption | refine kp_grown ?_ (Nat.le_refl _) hgrow1 (own_ge (Nat.le_refl _)) | refine kp_grown ?_ (Nat.le_refl _) hgrow1 (own_ge (Nat.le_add_right _ _)) | refine kp_grown ?_ (Nat.le_refl _) hgrow2 (row_ge hrow1) | refine kp_grown ?_ (Nat.le_refl _) hgrow3 (row_ge hrow2) | refine kp_alloc _ ?_ (Nat.le_refl _) | apply Below.drew))))
              (first
               | (refine step_app _ (by rfl) _ _ _ (by rfl) w0.heap.size 9 i0 _ 16 Try.underlying24 hi hz0 hz1 hz2 rfl _ 0 0 [] (by rfl) ?_ _ q _ (((stT (ws.take j)).map S).take q) (by rfl) (len_front hlen0 hq) (rd_front hrd0 ?_) (one_front _ _ (oneS _)) q ?_ ?_ ?_ ?_ ?_
                  first | exact Row.of_block #[] 0 (heap_al0 _ _) (Nat.le_refl _) rfl (Nat.zero_le _) | exact Row.of_block #[] 0 (heap_al1 _ _ _) (Nat.le_refl _) rfl (Nat.zero_le _) | exact Row.of_block #[] 0 (heap_al2 _ _ _) (Nat.le_add_right _ _) rfl (Nat.zero_le _)
                  (focus (repeat (first | exact Below.refl _ _ | assumption | refine kp_grown ?_ (Nat.le_refl _) hgrow1 (own_ge (Nat.le_refl _)) | refine kp_grown ?_ (Nat.le_refl _) hgrow1 (own_ge (Nat.le_add_right _ _)) | refine kp_grown ?_ (Nat.le_refl _) hgrow2 (row_ge hrow1) | refine kp_grown ?_ (Nat.le_refl _) hgrow3 (row_ge hrow2) | refine kp_alloc _ ?_ (Nat.le_refl _) | apply Below.drew)))
                  omega
                  omega
                  omega
                  (refine kp_size (N := w0.heap.size) ?_; focus (repeat (first | exact Below.refl _ _ | assumption | refine kp_grown ?_ (Nat.le_refl _) hgrow1 (own_ge (Nat.le_refl _)) | refine kp_grown ?_ (Nat.le_refl _) hgrow1 (own_ge (Nat.le_add_right _ _)) | refine kp_grown ?_ (Nat.le_refl _) hgrow2 (row_ge hrow1) | refine kp_grown ?_ (Nat.le_refl _) hgrow3 (row_ge hrow2) | refine kp_alloc _ ?_ (Nat.le_refl _) | apply Below.drew)))
                  intro A1 c1 w1 hrow1 hgrow1)
               | (refine step_app _ (by rfl) _ _ _ (by rfl) w0.heap.size 9 i0 _ 16 Try.underlying24 hi hz0 hz1 hz2 rfl A1 _ c1 _ ?_ (hrow1.alloc _) ⟨w1.heap.size, 0, none⟩ 1 1 [.string ⟨x.toArray⟩] ?_ rfl (World.news_of_block (cs := #[.string ⟨x.toArray⟩]) (t := 9) (fr := (0, 0)) (heap_al0 w1 _)) (oneS [x]) (q + 1) ?_ ?_ ?_ ?_ ?_
                  rfl
                  rfl
                  omega
                  omega
                  omega
                  (refine kp_size (N := w0.heap.size) ?_; focus (repeat (first | exact Below.refl _ _ | assumption | refine kp_grown ?_ (Nat.le_refl _) hgrow1 (own_ge (Nat.le_refl _)) | refine kp_grown ?_ (Nat.le_refl _) hgrow1 (own_ge (Nat.le_add_right _ _)) | refine kp_grown ?_ (Nat.le_refl _) hgrow2 (row_ge hrow1) | refine kp_grown ?_ (Nat.le_refl _) hgrow3 (row_ge hrow2) | refine kp_alloc _ ?_ (Nat.le_refl _) | apply Below.drew)))
                  intro A2 c2 w2 hrow2 hgrow2)
               | (refine step_app _ (by rfl) _ _ _ (by rfl) w0.heap.size 9 i0 _ 16 Try.underlying24 hi hz0 hz1 hz2 rfl A1 _ c1 _ ?_ (hrow1) ⟨w0.heap.size + 1, 0, none⟩ 1 1 [.string ⟨x.toArray⟩] ?_ rfl (World.news_of_block (cs := #[.string ⟨x.toArray⟩]) (t := 9) (fr := (0, 0)) (block_far hgrow1 (heap_al2 _ _ _) (own_ne (Nat.ne_of_gt (Nat.lt_succ_self _))))) (oneS [x]) (q + 1) ?_ ?_ ?_ ?_ ?_
                  rfl
                  rfl
                  omega
                  omega
                  omega
                  (refine kp_size (N := w0.heap.size) ?_; focus (repeat (first | exact Below.refl _ _ | assumption | refine kp_grown ?_ (Nat.le_refl _) hgrow1 (own_ge (Nat.le_refl _)) | refine kp_grown ?_ (Nat.le_refl _) hgrow1 (own_ge (Nat.le_add_right _ _)) | refine kp_grown ?_ (Nat.le_refl _) hgrow2 (row_ge hrow1) | refine kp_grown ?_ (Nat.le_refl _) hgrow3 (row_ge hrow2) | refine kp_alloc _ ?_ (Nat.le_refl _) | apply Below.drew)))
                  intro A2 c2 w2 hrow2 hgrow2)
               | (refine step_app _ (by rfl) _ _ _ (by rfl) w0.heap.size 9 i0 _ 16 Try.underlying24 hi hz0 hz1 hz2 rfl A1 _ c1 _ ?_ (hrow1) ⟨w0.heap.size, 0, none⟩ 1 1 [.string ⟨x.toArray⟩] ?_ rfl (World.news_of_block (cs := #[.string ⟨x.toArray⟩]) (t := 9) (fr := (0, 0)) (block_far hgrow1 (heap_al1 _ _ _) (own_ne (Nat.ne_of_lt (Nat.lt_succ_self _))))) (oneS [x]) (q + 1) ?_ ?_ ?_ ?_ ?_
                  rfl
                  rfl
                  omega
                  omega
                  omega
                  (refine kp_size (N := w0.heap.size) ?_; focus (repeat (first | exact Below.refl _ _ | assumption | refine kp_grown ?_ (Nat.le_refl _) hgrow1 (own_ge (Nat.le_refl _)) | refine kp_grown ?_ (Nat.le_refl _) hgrow1 (own_ge (Nat.le_add_right _ _)) | refine kp_grown ?_ (Nat.le_refl _) hgrow2 (row_ge hrow1) | refine kp_grown ?_ (Nat.le_refl _) hgrow3 (row_ge hrow2) | refine kp_alloc _ ?_ (Nat.le_refl _) | apply Below.drew)))
                  intro A2 c2 w2 hrow2 hgrow2)
               | (refine step_app _ (by rfl) _ _ _ (by rfl) w0.heap.size 9 i0 _ 16 Try.underlying24 hi hz0 hz1 hz2 rfl A2 _ c2 _ ?_ hrow2 (if c' = q then ⟨g, 0, none⟩ else ⟨g, q, none⟩) (j - q) (c' - q) (((stT (ws.take j)).map S).drop q) ?_ (len_back hlen0) (rd_back2 hrd0 ?_) (one_back _ _ (oneS _)) (j + 1) ?_ ?_ ?_ ?_ ?_
                  rfl
                  exact slice_if
                  (focus (repeat (first | exact Below.refl _ _ | assumption | refine kp_grown ?_ (Nat.le_refl _) hgrow1 (own_ge (Nat.le_refl _)) | refine kp_grown ?_ (Nat.le_refl _) hgrow1 (own_ge (Nat.le_add_right _ _)) | refine kp_grown ?_ (Nat.le_refl _) hgrow2 (row_ge hrow1) | refine kp_grown ?_ (Nat.le_refl _) hgrow3 (row_ge hrow2) | refine kp_alloc _ ?_ (Nat.le_refl _) | apply Below.drew)))
                  omega
                  omega
                  omega
                  (refine kp_size (N := w0.heap.size) ?_; focus (repeat (first | exact Below.refl _ _ | assumption | refine kp_grown ?_ (Nat.le_refl _) hgrow1 (own_ge (Nat.le_refl _)) | refine kp_grown ?_ (Nat.le_refl _) hgrow1 (own_ge (Nat.le_add_right _ _)) | refine kp_grown ?_ (Nat.le_refl _) hgrow2 (row_ge hrow1) | refine kp_grown ?_ (Nat.le_refl _) hgrow3 (row_ge hrow2) | refine kp_alloc _ ?_ (Nat.le_refl _) | apply Below.drew)))
                  intro A3 c3 w3 hrow3 hgrow3))
            all_goals
              have hbe3 : Below w0.heap.size w0 w3 := by focus (repeat (first | exact Below.refl _ _ | assumption | refine kp_grown ?_ (Nat.le_refl _) hgrow1 (own_ge (Nat.le_refl _)) | refine kp_grown ?_ (Nat.le_refl _) hgrow1 (own_ge (Nat.le_add_right _ _)) | refine kp_grown ?_ (Nat.le_refl _) hgrow2 (row_ge hrow1) | refine kp_grown ?_ (Nat.le_refl _) hgrow3 (row_ge hrow2) | refine kp_alloc _ ?_ (Nat.le_refl _) | apply Below.drew))
              obtain ⟨g3, cap3, he3, _, _⟩ := World.ownsRow.form hrow3 (by omega)
              injection he3 with ha3 _ _
              subst ha3
              have hre : w.heap.size ≤ w0.heap.size := hsz0
              have HR := Lib.hid (hrow3.more hre)
              have HB := Lib.hid (Hbe0.out.trans (hbe3.mono hre))
              clear hrow3 hrow2 hrow1 hgrow1 hgrow2 hgrow3 hbe3
              go_wp2_with fail
              go_roundw
              case rel =>
                refine ⟨j + 1, g3, c3, by omega, by go_num, rfl, ?_, HB.out⟩
                have h := HR.out
                rw [stT_take_succ Hx.out, Hin.out]
                simp only [List.map_append, List.map_take, List.map_drop, List.map_cons, List.map_nil, List.nil_append, List.append_assoc, S] at h ⊢
                exact h
              case measure => simp [intOf]; omega
        · have hq' : ¬ (q : Int) < (j : Int) := by omega
          have hqj' : decide ((q : Int) < (j : Int)) = false := by simp; omega
          have Hin := Lib.hid (insS_two (l := stT (ws.take j)) (q := q) (by rw [stT_len, List.length_take, Hn.out]; omega) Hle.out (.inl (by rw [stT_len, List.length_take, Hn.out]; omega)))
          go_wp2_with fail
          go_quiet (fail)
          go_wp2_with fail
          obtain ⟨w0, hw0⟩ : ∃ w0, w0 = wr.drewN nq := ⟨_, rfl⟩
          have hcx0 : w0.cell? ⟨b, o + j, none⟩ = some (.string ⟨x.toArray⟩) := by rw [hw0]; exact hcx
          have hrow0 : Row w0 w.heap.size 9 (some ⟨g, 0, none⟩) j c' ((stT (ws.take j)).map S) := by rw [hw0]; exact hown.quiet (hqw.drewN nq)
          have hbe0 : Below w.heap.size w w0 := by rw [hw0]; exact hbw.trans ((hqw.drewN nq).bel _)
          have hsz0 := hbe0.size
          have Hbe0 := Lib.hid hbe0
          rw [← hw0]
          have hq0 : (0 : Int) ≤ (q : Int) := by omega
          have hj0 : (0 : Int) ≤ (j : Int) := by omega
          have hrd0 := hrow0.rd
          have hcb0 := hrd0.2.1
          have hlen0 : ((stT (ws.take j)).map S).length = j := hrd0.1
          have hqc : (q : Int) ≤ (c' : Int) := by omega
          have hbN : (⟨b, o + j, none⟩ : Addr).block < w0.heap.size := by show b < w0.heap.size; omega
          clear hw0 hbw hown hrd hcx hqw hbe0
          go_region_held3 (fun w' => w'.cell? ⟨b, o + j, none⟩ = some (.string ⟨x.toArray⟩) ∧ Below w0.heap.size w0 w')
            ((refine kp_one hcx0 hbN ?_; focus (repeat (first | exact Below.refl _ _ | assumption | refine kp_grown ?_ (Nat.le_refl _) hgrow1 (own_ge (Nat.le_refl _)) | refine kp_grown ?_ (Nat.le_refl _) hgrow1 (own_ge (Nat.le_add_right _ _)) | refine kp_grown ?_ (Nat.le_refl _) hgrow2 (row_ge hrow1) | refine kp_grown ?_ (Nat.le_refl _) hgrow3 (row_ge hrow2) | refine kp_alloc _ ?_ (Nat.le_refl _) | apply Below.drew))))
            (first
             | (refine step_app _ (by rfl) _ _ _ (by rfl) w0.heap.size 9 i0 _ 16 Try.underlying24 hi hz0 hz1 hz2 rfl _ 0 0 [] (by rfl) ?_ _ q _ (((stT (ws.take j)).map S).take q) (by rfl) (len_front hlen0 hq) (rd_front hrd0 ?_) (one_front _ _ (oneS _)) q ?_ ?_ ?_ ?_ ?_
                first | exact Row.of_block #[] 0 (heap_al0 _ _) (Nat.le_refl _) rfl (Nat.zero_le _) | exact Row.of_block #[] 0 (heap_al1 _ _ _) (Nat.le_refl _) rfl (Nat.zero_le _) | exact Row.of_block #[] 0 (heap_al2 _ _ _) (Nat.le_add_right _ _) rfl (Nat.zero_le _)
                (focus (repeat (first | exact Below.refl _ _ | assumption | refine kp_grown ?_ (Nat.le_refl _) hgrow1 (own_ge (Nat.le_refl _)) | refine kp_grown ?_ (Nat.le_refl _) hgrow1 (own_ge (Nat.le_add_right _ _)) | refine kp_grown ?_ (Nat.le_refl _) hgrow2 (row_ge hrow1) | refine kp_grown ?_ (Nat.le_refl _) hgrow3 (row_ge hrow2) | refine kp_alloc _ ?_ (Nat.le_refl _) | apply Below.drew)))
                omega
                omega
                omega
                (refine kp_size (N := w0.heap.size) ?_; focus (repeat (first | exact Below.refl _ _ | assumption | refine kp_grown ?_ (Nat.le_refl _) hgrow1 (own_ge (Nat.le_refl _)) | refine kp_grown ?_ (Nat.le_refl _) hgrow1 (own_ge (Nat.le_add_right _ _)) | refine kp_grown ?_ (Nat.le_refl _) hgrow2 (row_ge hrow1) | refine kp_grown ?_ (Nat.le_refl _) hgrow3 (row_ge hrow2) | refine kp_alloc _ ?_ (Nat.le_refl _) | apply Below.drew)))
                intro A1 c1 w1 hrow1 hgrow1)
             | (refine step_app _ (by rfl) _ _ _ (by rfl) w0.heap.size 9 i0 _ 16 Try.underlying24 hi hz0 hz1 hz2 rfl A1 _ c1 _ ?_ (hrow1.alloc _) ⟨w1.heap.size, 0, none⟩ 1 1 [.string ⟨x.toArray⟩] ?_ rfl (World.news_of_block (cs := #[.string ⟨x.toArray⟩]) (t := 9) (fr := (0, 0)) (heap_al0 w1 _)) (oneS [x]) (q + 1) ?_ ?_ ?_ ?_ ?_
                rfl
                rfl
                omega
                omega
                omega
                (refine kp_size (N := w0.heap.size) ?_; focus (repeat (first | exact Below.refl _ _ | assumption | refine kp_grown ?_ (Nat.le_refl _) hgrow1 (own_ge (Nat.le_refl _)) | refine kp_grown ?_ (Nat.le_refl _) hgrow1 (own_ge (Nat.le_add_right _ _)) | refine kp_grown ?_ (Nat.le_refl _) hgrow2 (row_ge hrow1) | refine kp_grown ?_ (Nat.le_refl _) hgrow3 (row_ge hrow2) | refine kp_alloc _ ?_ (Nat.le_refl _) | apply Below.drew)))
                intro A2 c2 w2 hrow2 hgrow2)
             | (refine step_app _ (by rfl) _ _ _ (by rfl) w0.heap.size 9 i0 _ 16 Try.underlying24 hi hz0 hz1 hz2 rfl A1 _ c1 _ ?_ (hrow1) ⟨w0.heap.size + 1, 0, none⟩ 1 1 [.string ⟨x.toArray⟩] ?_ rfl (World.news_of_block (cs := #[.string ⟨x.toArray⟩]) (t := 9) (fr := (0, 0)) (block_far hgrow1 (heap_al2 _ _ _) (own_ne (Nat.ne_of_gt (Nat.lt_succ_self _))))) (oneS [x]) (q + 1) ?_ ?_ ?_ ?_ ?_
                rfl
                rfl
                omega
                omega
                omega
                (refine kp_size (N := w0.heap.size) ?_; focus (repeat (first | exact Below.refl _ _ | assumption | refine kp_grown ?_ (Nat.le_refl _) hgrow1 (own_ge (Nat.le_refl _)) | refine kp_grown ?_ (Nat.le_refl _) hgrow1 (own_ge (Nat.le_add_right _ _)) | refine kp_grown ?_ (Nat.le_refl _) hgrow2 (row_ge hrow1) | refine kp_grown ?_ (Nat.le_refl _) hgrow3 (row_ge hrow2) | refine kp_alloc _ ?_ (Nat.le_refl _) | apply Below.drew)))
                intro A2 c2 w2 hrow2 hgrow2)
             | (refine step_app _ (by rfl) _ _ _ (by rfl) w0.heap.size 9 i0 _ 16 Try.underlying24 hi hz0 hz1 hz2 rfl A1 _ c1 _ ?_ (hrow1) ⟨w0.heap.size, 0, none⟩ 1 1 [.string ⟨x.toArray⟩] ?_ rfl (World.news_of_block (cs := #[.string ⟨x.toArray⟩]) (t := 9) (fr := (0, 0)) (block_far hgrow1 (heap_al1 _ _ _) (own_ne (Nat.ne_of_lt (Nat.lt_succ_self _))))) (oneS [x]) (q + 1) ?_ ?_ ?_ ?_ ?_
                rfl
                rfl
                omega
                omega
                omega
                (refine kp_size (N := w0.heap.size) ?_; focus (repeat (first | exact Below.refl _ _ | assumption | refine kp_grown ?_ (Nat.le_refl _) hgrow1 (own_ge (Nat.le_refl _)) | refine kp_grown ?_ (Nat.le_refl _) hgrow1 (own_ge (Nat.le_add_right _ _)) | refine kp_grown ?_ (Nat.le_refl _) hgrow2 (row_ge hrow1) | refine kp_grown ?_ (Nat.le_refl _) hgrow3 (row_ge hrow2) | refine kp_alloc _ ?_ (Nat.le_refl _) | apply Below.drew)))
                intro A2 c2 w2 hrow2 hgrow2)
             | (refine step_app _ (by rfl) _ _ _ (by rfl) w0.heap.size 9 i0 _ 16 Try.underlying24 hi hz0 hz1 hz2 rfl A2 _ c2 _ ?_ hrow2 (if c' = q then ⟨g, 0, none⟩ else ⟨g, q, none⟩) (j - q) (c' - q) (((stT (ws.take j)).map S).drop q) ?_ (len_back hlen0) (rd_back2 hrd0 ?_) (one_back _ _ (oneS _)) (j + 1) ?_ ?_ ?_ ?_ ?_
                rfl
                exact slice_if
                (focus (repeat (first | exact Below.refl _ _ | assumption | refine kp_grown ?_ (Nat.le_refl _) hgrow1 (own_ge (Nat.le_refl _)) | refine kp_grown ?_ (Nat.le_refl _) hgrow1 (own_ge (Nat.le_add_right _ _)) | refine kp_grown ?_ (Nat.le_refl _) hgrow2 (row_ge hrow1) | refine kp_grown ?_ (Nat.le_refl _) hgrow3 (row_ge hrow2) | refine kp_alloc _ ?_ (Nat.le_refl _) | apply Below.drew)))
                omega
                omega
                omega
                (refine kp_size (N := w0.heap.size) ?_; focus (repeat (first | exact Below.refl _ _ | assumption | refine kp_grown ?_ (Nat.le_refl _) hgrow1 (own_ge (Nat.le_refl _)) | refine kp_grown ?_ (Nat.le_refl _) hgrow1 (own_ge (Nat.le_add_right _ _)) | refine kp_grown ?_ (Nat.le_refl _) hgrow2 (row_ge hrow1) | refine kp_grown ?_ (Nat.le_refl _) hgrow3 (row_ge hrow2) | refine kp_alloc _ ?_ (Nat.le_refl _) | apply Below.drew)))
                intro A3 c3 w3 hrow3 hgrow3))
          all_goals
            have hbe3 : Below w0.heap.size w0 w3 := by focus (repeat (first | exact Below.refl _ _ | assumption | refine kp_grown ?_ (Nat.le_refl _) hgrow1 (own_ge (Nat.le_refl _)) | refine kp_grown ?_ (Nat.le_refl _) hgrow1 (own_ge (Nat.le_add_right _ _)) | refine kp_grown ?_ (Nat.le_refl _) hgrow2 (row_ge hrow1) | refine kp_grown ?_ (Nat.le_refl _) hgrow3 (row_ge hrow2) | refine kp_alloc _ ?_ (Nat.le_refl _) | apply Below.drew))
            obtain ⟨g3, cap3, he3, _, _⟩ := World.ownsRow.form hrow3 (by omega)
            injection he3 with ha3 _ _
            subst ha3
            have hre : w.heap.size ≤ w0.heap.size := hsz0
            have HR := Lib.hid (hrow3.more hre)
            have HB := Lib.hid (Hbe0.out.trans (hbe3.mono hre))
            clear hrow3 hrow2 hrow1 hgrow1 hgrow2 hgrow3 hbe3
            go_wp2_with fail
            go_roundw
            case rel =>
              refine ⟨j + 1, g3, c3, by omega, by go_num, rfl, ?_, HB.out⟩
              have h := HR.out
              rw [stT_take_succ Hx.out, Hin.out]
              simp only [List.map_append, List.map_take, List.map_drop, List.map_cons, List.map_nil, List.nil_append, List.append_assoc, S] at h ⊢
              exact h
            case measure => simp [intOf]; omega
    · have hj' : ¬ (j : Int) < (n : Int) := by omega
      have hjn' : j = n := by omega
      subst hjn'
      go_wp2_with fail
      go_ret
      rw [List.take_of_length_le (by rw [Hn.out]; exact Nat.le_refl _)] at hown
      exact ⟨_, _, _, rfl, hown.own, hbw⟩
set_option maxRecDepth 8000 in
set_option maxHeartbeats 3200000 in
theorem alphabetical_any (A : Option Addr) (n c : Nat) (ws : List (List UInt8)) (w : World) (hr : Rd w w.heap.size A n c (ws.map S)) (hn20 : n ≤ 1048576) :
    Calls Try.prog 58 #[.slice A n c] w (RetRow w 9 ((stT ws).map S)) := by
  have hm := hr.2.2.1
  have hnc := hr.2.1
  have Hn := Lib.hid hr.slen
  unfold maxLen at hm
  obtain ⟨i0, hi, hz0, hz1, hz2⟩ := info_parts Try.infoXs
  go_enter Try.func58, Try.ntmps58
  go_wp2
  go_loopw [3, 4] (fun v i wr => ∃ (j g c' : Nat), j ≤ n ∧ i = .int .i64 j ∧ v = .slice (some ⟨g, 0, none⟩) j c' ∧ Row wr w.heap.size 9 (some ⟨g, 0, none⟩) j c' ((stT (ws.take j)).map S) ∧ Below w.heap.size w wr) (fun _ i _ => n - (intOf i).toNat)
  case atStart =>
    refine ⟨0, w.heap.size, 0, Nat.zero_le _, rfl, rfl, ?_, ?_⟩
    · rw [List.take_zero, stT_nil]
      exact Row.nil_ w 9
    · exact (Below.refl _ _).alloc (Nat.le_refl _) _
  case round =>
    obtain ⟨j, g, c', hj, rfl, rfl, hown, hbw⟩ := hrel
    by_cases hjn : j < n
    · obtain ⟨b, o, x, rfl, hb, hx, hc⟩ := (hr.below hbw).str hjn
      have Hx := Lib.hid hx
      clear hx
      have hj' : (j : Int) < (n : Int) := by omega
      have hrd := hown.rd
      have hsz := hbw.size
      go_wp2_with fail
      obtain ⟨wo, rfl⟩ : ∃ wo : World, wo = wr := ⟨_, rfl⟩
      go_loopw [5] (fun k wr => ∃ q : Nat, q ≤ j ∧ k = .int .i64 q ∧ (∀ y ∈ (stT (ws.take j)).take q, y ≤ x) ∧ Quiet wo wr) (fun k _ => j - (intOf k).toNat)
      case atStart => exact ⟨0, Nat.zero_le _, rfl, by simp, Quiet.refl _⟩
      case round =>
        obtain ⟨q, hq, rfl, hle, hqw⟩ := hrel
        have Hle := Lib.hid hle
        clear hle
        obtain ⟨x', hx', hcx⟩ := (hqw.rd (hr.below hbw)).str_at hjn
        rw [Hx.out] at hx'
        injection hx' with hx'
        subst hx'
        clear hc
        by_cases hqj : q < j
        · obtain ⟨y, hy, hcy⟩ := (hqw.rd hrd).str_at hqj
          have Hy := Lib.hid hy
          clear hy
          have hq' : (q : Int) < (j : Int) := by omega
          rw [Nat.zero_add] at hcy
          cases hyx : (Op.bytesLess y x || y == x) with
          | true =>
            have Hn2 := Lib.hid (take_all_succ (p := fun z => z ≤ x) Hle.out Hy.out (bleq_le hyx))
            go_wp2_with fail
            go_quiet (fail)
            go_wp2_with fail
            go_roundw
            case rel => exact ⟨q + 1, by omega, by go_num, Hn2.out, hqw.drewN _⟩
            case measure => simp [intOf]; omega
          | false =>
            have Hin := Lib.hid (insS_two (l := stT (ws.take j)) (q := q) (by rw [stT_len, List.length_take, Hn.out]; omega) Hle.out (.inr ⟨y, Hy.out, bleq_nle hyx⟩))
            go_wp2_with fail
            go_quiet (fail)
            go_wp2_with fail
            clear hcy
            obtain ⟨w0, hw0⟩ : ∃ w0, w0 = wr.drewN nq := ⟨_, rfl⟩
            have hcx0 : w0.cell? ⟨b, o + j, none⟩ = some (.string ⟨x.toArray⟩) := by rw [hw0]; exact hcx
            have hrow0 : Row w0 w.heap.size 9 (some ⟨g, 0, none⟩) j c' ((stT (ws.take j)).map S) := by rw [hw0]; exact hown.quiet (hqw.drewN nq)
            have hbe0 : Below w.heap.size w w0 := by rw [hw0]; exact hbw.trans ((hqw.drewN nq).bel _)
            have hsz0 := hbe0.size
            have Hbe0 := Lib.hid hbe0
            rw [← hw0]
            have hq0 : (0 : Int) ≤ (q : Int) := by omega
            have hj0 : (0 : Int) ≤ (j : Int) := by omega
            have hrd0 := hrow0.rd
            have hcb0 := hrd0.2.1
            have hlen0 : ((stT (ws.take j)).map S).length = j := hrd0.1
            have hqc : (q : Int) ≤ (c' : Int) := by omega
            have hbN : (⟨b, o + j, none⟩ : Addr).block < w0.heap.size := by show b < w0.heap.size; omega
            clear hw0 hbw hown hrd hcx hqw hbe0
            go_region_held3 (fun w' => w'.cell? ⟨b, o + j, none⟩ = some (.string ⟨x.toArray⟩) ∧ Below w0.heap.size w0 w')
              ((refine kp_one hcx0 hbN ?_; focus (repeat (first | exact Below.refl _ _ | assumption | refine kp_grown ?_ (Nat.le_refl _) hgrow1 (own_ge (Nat.le_refl _)) | refine kp_grown ?_ (Nat.le_refl _) hgrow1 (own_ge (Nat.le_add_right _ _)) | refine kp_grown ?_ (Nat.le_refl _) hgrow2 (row_ge hrow1) | refine kp_grown ?_ (Nat.le_refl _) hgrow3 (row_ge hrow2) | refine kp_alloc _ ?_ (Nat.le_refl _) | apply Below.drew))))
              (first
               | (refine step_app _ (by rfl) _ _ _ (by rfl) w0.heap.size 9 i0 _ 16 Try.underlying24 hi hz0 hz1 hz2 rfl _ 0 0 [] (by rfl) ?_ _ q _ (((stT (ws.take j)).map S).take q) (by rfl) (len_front hlen0 hq) (rd_front hrd0 ?_) (one_front _ _ (oneS _)) q ?_ ?_ ?_ ?_ ?_
                  first | exact Row.of_block #[] 0 (heap_al0 _ _) (Nat.le_refl _) rfl (Nat.zero_le _) | exact Row.of_block #[] 0 (heap_al1 _ _ _) (Nat.le_refl _) rfl (Nat.zero_le _) | exact Row.of_block #[] 0 (heap_al2 _ _ _) (Nat.le_add_right _ _) rfl (Nat.zero_le _)
                  (focus (repeat (first | exact Below.refl _ _ | assumption | refine kp_grown ?_ (Nat.le_refl _) hgrow1 (own_ge (Nat.le_refl _)) | refine kp_grown ?_ (Nat.le_refl _) hgrow1 (own_ge (Nat.le_add_right _ _)) | refine kp_grown ?_ (Nat.le_refl _) hgrow2 (row_ge hrow1) | refine kp_grown ?_ (Nat.le_refl _) hgrow3 (row_ge hrow2) | refine kp_alloc _ ?_ (Nat.le_refl _) | apply Below.drew)))
                  omega
                  omega
                  omega
                  (refine kp_size (N := w0.heap.size) ?_; focus (repeat (first | exact Below.refl _ _ | assumption | refine kp_grown ?_ (Nat.le_refl _) hgrow1 (own_ge (Nat.le_refl _)) | refine kp_grown ?_ (Nat.le_refl _) hgrow1 (own_ge (Nat.le_add_right _ _)) | refine kp_grown ?_ (Nat.le_refl _) hgrow2 (row_ge hrow1) | refine kp_grown ?_ (Nat.le_refl _) hgrow3 (row_ge hrow2) | refine kp_alloc _ ?_ (Nat.le_refl _) | apply Below.drew)))
                  intro A1 c1 w1 hrow1 hgrow1)
               | (refine step_app _ (by rfl) _ _ _ (by rfl) w0.heap.size 9 i0 _ 16 Try.underlying24 hi hz0 hz1 hz2 rfl A1 _ c1 _ ?_ (hrow1.alloc _) ⟨w1.heap.size, 0, none⟩ 1 1 [.string ⟨x.toArray⟩] ?_ rfl (World.news_of_block (cs := #[.string ⟨x.toArray⟩]) (t := 9) (fr := (0, 0)) (heap_al0 w1 _)) (oneS [x]) (q + 1) ?_ ?_ ?_ ?_ ?_
                  rfl
                  rfl
                  omega
                  omega
                  omega
                  (refine kp_size (N := w0.heap.size) ?_; focus (repeat (first | exact Below.refl _ _ | assumption | refine kp_grown ?_ (Nat.le_refl _) hgrow1 (own_ge (Nat.le_refl _)) | refine kp_grown ?_ (Nat.le_refl _) hgrow1 (own_ge (Nat.le_add_right _ _)) | refine kp_grown ?_ (Nat.le_refl _) hgrow2 (row_ge hrow1) | refine kp_grown ?_ (Nat.le_refl _) hgrow3 (row_ge hrow2) | refine kp_alloc _ ?_ (Nat.le_refl _) | apply Below.drew)))
                  intro A2 c2 w2 hrow2 hgrow2)
               | (refine step_app _ (by rfl) _ _ _ (by rfl) w0.heap.size 9 i0 _ 16 Try.underlying24 hi hz0 hz1 hz2 rfl A1 _ c1 _ ?_ (hrow1) ⟨w0.heap.size + 1, 0, none⟩ 1 1 [.string ⟨x.toArray⟩] ?_ rfl (World.news_of_block (cs := #[.string ⟨x.toArray⟩]) (t := 9) (fr := (0, 0)) (block_far hgrow1 (heap_al2 _ _ _) (own_ne (Nat.ne_of_gt (Nat.lt_succ_self _))))) (oneS [x]) (q + 1) ?_ ?_ ?_ ?_ ?_
                  rfl
                  rfl
                  omega
                  omega
                  omega
                  (refine kp_size (N := w0.heap.size) ?_; focus (repeat (first | exact Below.refl _ _ | assumption | refine kp_grown ?_ (Nat.le_refl _) hgrow1 (own_ge (Nat.le_refl _)) | refine kp_grown ?_ (Nat.le_refl _) hgrow1 (own_ge (Nat.le_add_right _ _)) | refine kp_grown ?_ (Nat.le_refl _) hgrow2 (row_ge hrow1) | refine kp_grown ?_ (Nat.le_refl _) hgrow3 (row_ge hrow2) | refine kp_alloc _ ?_ (Nat.le_refl _) | apply Below.drew)))
                  intro A2 c2 w2 hrow2 hgrow2)
               | (refine step_app _ (by rfl) _ _ _ (by rfl) w0.heap.size 9 i0 _ 16 Try.underlying24 hi hz0 hz1 hz2 rfl A1 _ c1 _ ?_ (hrow1) ⟨w0.heap.size, 0, none⟩ 1 1 [.string ⟨x.toArray⟩] ?_ rfl (World.news_of_block (cs := #[.string ⟨x.toArray⟩]) (t := 9) (fr := (0, 0)) (block_far hgrow1 (heap_al1 _ _ _) (own_ne (Nat.ne_of_lt (Nat.lt_succ_self _))))) (oneS [x]) (q + 1) ?_ ?_ ?_ ?_ ?_
                  rfl
                  rfl
                  omega
                  omega
                  omega
                  (refine kp_size (N := w0.heap.size) ?_; focus (repeat (first | exact Below.refl _ _ | assumption | refine kp_grown ?_ (Nat.le_refl _) hgrow1 (own_ge (Nat.le_refl _)) | refine kp_grown ?_ (Nat.le_refl _) hgrow1 (own_ge (Nat.le_add_right _ _)) | refine kp_grown ?_ (Nat.le_refl _) hgrow2 (row_ge hrow1) | refine kp_grown ?_ (Nat.le_refl _) hgrow3 (row_ge hrow2) | refine kp_alloc _ ?_ (Nat.le_refl _) | apply Below.drew)))
                  intro A2 c2 w2 hrow2 hgrow2)
               | (refine step_app _ (by rfl) _ _ _ (by rfl) w0.heap.size 9 i0 _ 16 Try.underlying24 hi hz0 hz1 hz2 rfl A2 _ c2 _ ?_ hrow2 (if c' = q then ⟨g, 0, none⟩ else ⟨g, q, none⟩) (j - q) (c' - q) (((stT (ws.take j)).map S).drop q) ?_ (len_back hlen0) (rd_back2 hrd0 ?_) (one_back _ _ (oneS _)) (j + 1) ?_ ?_ ?_ ?_ ?_
                  rfl
                  exact slice_if
                  (focus (repeat (first | exact Below.refl _ _ | assumption | refine kp_grown ?_ (Nat.le_refl _) hgrow1 (own_ge (Nat.le_refl _)) | refine kp_grown ?_ (Nat.le_refl _) hgrow1 (own_ge (Nat.le_add_right _ _)) | refine kp_grown ?_ (Nat.le_refl _) hgrow2 (row_ge hrow1) | refine kp_grown ?_ (Nat.le_refl _) hgrow3 (row_ge hrow2) | refine kp_alloc _ ?_ (Nat.le_refl _) | apply Below.drew)))
                  omega
                  omega
                  omega
                  (refine kp_size (N := w0.heap.size) ?_; focus (repeat (first | exact Below.refl _ _ | assumption | refine kp_grown ?_ (Nat.le_refl _) hgrow1 (own_ge (Nat.le_refl _)) | refine kp_grown ?_ (Nat.le_refl _) hgrow1 (own_ge (Nat.le_add_right _ _)) | refine kp_grown ?_ (Nat.le_refl _) hgrow2 (row_ge hrow1) | refine kp_grown ?_ (Nat.le_refl _) hgrow3 (row_ge hrow2) | refine kp_alloc _ ?_ (Nat.le_refl _) | apply Below.drew)))
                  intro A3 c3 w3 hrow3 hgrow3))
            all_goals
              have hbe3 : Below w0.heap.size w0 w3 := by focus (repeat (first | exact Below.refl _ _ | assumption | refine kp_grown ?_ (Nat.le_refl _) hgrow1 (own_ge (Nat.le_refl _)) | refine kp_grown ?_ (Nat.le_refl _) hgrow1 (own_ge (Nat.le_add_right _ _)) | refine kp_grown ?_ (Nat.le_refl _) hgrow2 (row_ge hrow1) | refine kp_grown ?_ (Nat.le_refl _) hgrow3 (row_ge hrow2) | refine kp_alloc _ ?_ (Nat.le_refl _) | apply Below.drew))
              obtain ⟨g3, cap3, he3, _, _⟩ := World.ownsRow.form hrow3 (by omega)
              injection he3 with ha3 _ _
              subst ha3
              have hre : w.heap.size ≤ w0.heap.size := hsz0
              have HR := Lib.hid (hrow3.more hre)
              have HB := Lib.hid (Hbe0.out.trans (hbe3.mono hre))
              clear hrow3 hrow2 hrow1 hgrow1 hgrow2 hgrow3 hbe3
              go_wp2_with fail
              go_roundw
              case rel =>
                refine ⟨j + 1, g3, c3, by omega, by go_num, rfl, ?_, HB.out⟩
                have h := HR.out
                rw [stT_take_succ Hx.out, Hin.out]
                simp only [List.map_append, List.map_take, List.map_drop, List.map_cons, List.map_nil, List.nil_append, List.append_assoc, S] at h ⊢
                exact h
              case measure => simp [intOf]; omega
        · have hq' : ¬ (q : Int) < (j : Int) := by omega
          have hqj' : decide ((q : Int) < (j : Int)) = false := by simp; omega
          have Hin := Lib.hid (insS_two (l := stT (ws.take j)) (q := q) (by rw [stT_len, List.length_take, Hn.out]; omega) Hle.out (.inl (by rw [stT_len, List.length_take, Hn.out]; omega)))
          go_wp2_with fail
          go_quiet (fail)
          go_wp2_with fail
          obtain ⟨w0, hw0⟩ : ∃ w0, w0 = wr.drewN nq := ⟨_, rfl⟩
          have hcx0 : w0.cell? ⟨b, o + j, none⟩ = some (.string ⟨x.toArray⟩) := by rw [hw0]; exact hcx
          have hrow0 : Row w0 w.heap.size 9 (some ⟨g, 0, none⟩) j c' ((stT (ws.take j)).map S) := by rw [hw0]; exact hown.quiet (hqw.drewN nq)
          have hbe0 : Below w.heap.size w w0 := by rw [hw0]; exact hbw.trans ((hqw.drewN nq).bel _)
          have hsz0 := hbe0.size
          have Hbe0 := Lib.hid hbe0
          rw [← hw0]
          have hq0 : (0 : Int) ≤ (q : Int) := by omega
          have hj0 : (0 : Int) ≤ (j : Int) := by omega
          have hrd0 := hrow0.rd
          have hcb0 := hrd0.2.1
          have hlen0 : ((stT (ws.take j)).map S).length = j := hrd0.1
          have hqc : (q : Int) ≤ (c' : Int) := by omega
          have hbN : (⟨b, o + j, none⟩ : Addr).block < w0.heap.size := by show b < w0.heap.size; omega
          clear hw0 hbw hown hrd hcx hqw hbe0
          go_region_held3 (fun w' => w'.cell? ⟨b, o + j, none⟩ = some (.string ⟨x.toArray⟩) ∧ Below w0.heap.size w0 w')
            ((refine kp_one hcx0 hbN ?_; focus (repeat (first | exact Below.refl _ _ | assumption | refine kp_grown ?_ (Nat.le_refl _) hgrow1 (own_ge (Nat.le_refl _)) | refine kp_grown ?_ (Nat.le_refl _) hgrow1 (own_ge (Nat.le_add_right _ _)) | refine kp_grown ?_ (Nat.le_refl _) hgrow2 (row_ge hrow1) | refine kp_grown ?_ (Nat.le_refl _) hgrow3 (row_ge hrow2) | refine kp_alloc _ ?_ (Nat.le_refl _) | apply Below.drew))))
            (first
             | (refine step_app _ (by rfl) _ _ _ (by rfl) w0.heap.size 9 i0 _ 16 Try.underlying24 hi hz0 hz1 hz2 rfl _ 0 0 [] (by rfl) ?_ _ q _ (((stT (ws.take j)).map S).take q) (by rfl) (len_front hlen0 hq) (rd_front hrd0 ?_) (one_front _ _ (oneS _)) q ?_ ?_ ?_ ?_ ?_
                first | exact Row.of_block #[] 0 (heap_al0 _ _) (Nat.le_refl _) rfl (Nat.zero_le _) | exact Row.of_block #[] 0 (heap_al1 _ _ _) (Nat.le_refl _) rfl (Nat.zero_le _) | exact Row.of_block #[] 0 (heap_al2 _ _ _) (Nat.le_add_right _ _) rfl (Nat.zero_le _)
                (focus (repeat (first | exact Below.refl _ _ | assumption | refine kp_grown ?_ (Nat.le_refl _) hgrow1 (own_ge (Nat.le_refl _)) | refine kp_grown ?_ (Nat.le_refl _) hgrow1 (own_ge (Nat.le_add_right _ _)) | refine kp_grown ?_ (Nat.le_refl _) hgrow2 (row_ge hrow1) | refine kp_grown ?_ (Nat.le_refl _) hgrow3 (row_ge hrow2) | refine kp_alloc _ ?_ (Nat.le_refl _) | apply Below.drew)))
                omega
                omega
                omega
                (refine kp_size (N := w0.heap.size) ?_; focus (repeat (first | exact Below.refl _ _ | assumption | refine kp_grown ?_ (Nat.le_refl _) hgrow1 (own_ge (Nat.le_refl _)) | refine kp_grown ?_ (Nat.le_refl _) hgrow1 (own_ge (Nat.le_add_right _ _)) | refine kp_grown ?_ (Nat.le_refl _) hgrow2 (row_ge hrow1) | refine kp_grown ?_ (Nat.le_refl _) hgrow3 (row_ge hrow2) | refine kp_alloc _ ?_ (Nat.le_refl _) | apply Below.drew)))
                intro A1 c1 w1 hrow1 hgrow1)
             | (refine step_app _ (by rfl) _ _ _ (by rfl) w0.heap.size 9 i0 _ 16 Try.underlying24 hi hz0 hz1 hz2 rfl A1 _ c1 _ ?_ (hrow1.alloc _) ⟨w1.heap.size, 0, none⟩ 1 1 [.string ⟨x.toArray⟩] ?_ rfl (World.news_of_block (cs := #[.string ⟨x.toArray⟩]) (t := 9) (fr := (0, 0)) (heap_al0 w1 _)) (oneS [x]) (q + 1) ?_ ?_ ?_ ?_ ?_
                rfl
                rfl
                omega
                omega
                omega
                (refine kp_size (N := w0.heap.size) ?_; focus (repeat (first | exact Below.refl _ _ | assumption | refine kp_grown ?_ (Nat.le_refl _) hgrow1 (own_ge (Nat.le_refl _)) | refine kp_grown ?_ (Nat.le_refl _) hgrow1 (own_ge (Nat.le_add_right _ _)) | refine kp_grown ?_ (Nat.le_refl _) hgrow2 (row_ge hrow1) | refine kp_grown ?_ (Nat.le_refl _) hgrow3 (row_ge hrow2) | refine kp_alloc _ ?_ (Nat.le_refl _) | apply Below.drew)))
                intro A2 c2 w2 hrow2 hgrow2)
             | (refine step_app _ (by rfl) _ _ _ (by rfl) w0.heap.size 9 i0 _ 16 Try.underlying24 hi hz0 hz1 hz2 rfl A1 _ c1 _ ?_ (hrow1) ⟨w0.heap.size + 1, 0, none⟩ 1 1 [.string ⟨x.toArray⟩] ?_ rfl (World.news_of_block (cs := #[.string ⟨x.toArray⟩]) (t := 9) (fr := (0, 0)) (block_far hgrow1 (heap_al2 _ _ _) (own_ne (Nat.ne_of_gt (Nat.lt_succ_self _))))) (oneS [x]) (q + 1) ?_ ?_ ?_ ?_ ?_
                rfl
                rfl
                omega
                omega
                omega
                (refine kp_size (N := w0.heap.size) ?_; focus (repeat (first | exact Below.refl _ _ | assumption | refine kp_grown ?_ (Nat.le_refl _) hgrow1 (own_ge (Nat.le_refl _)) | refine kp_grown ?_ (Nat.le_refl _) hgrow1 (own_ge (Nat.le_add_right _ _)) | refine kp_grown ?_ (Nat.le_refl _) hgrow2 (row_ge hrow1) | refine kp_grown ?_ (Nat.le_refl _) hgrow3 (row_ge hrow2) | refine kp_alloc _ ?_ (Nat.le_refl _) | apply Below.drew)))
                intro A2 c2 w2 hrow2 hgrow2)
             | (refine step_app _ (by rfl) _ _ _ (by rfl) w0.heap.size 9 i0 _ 16 Try.underlying24 hi hz0 hz1 hz2 rfl A1 _ c1 _ ?_ (hrow1) ⟨w0.heap.size, 0, none⟩ 1 1 [.string ⟨x.toArray⟩] ?_ rfl (World.news_of_block (cs := #[.string ⟨x.toArray⟩]) (t := 9) (fr := (0, 0)) (block_far hgrow1 (heap_al1 _ _ _) (own_ne (Nat.ne_of_lt (Nat.lt_succ_self _))))) (oneS [x]) (q + 1) ?_ ?_ ?_ ?_ ?_
                rfl
                rfl
                omega
                omega
                omega
                (refine kp_size (N := w0.heap.size) ?_; focus (repeat (first | exact Below.refl _ _ | assumption | refine kp_grown ?_ (Nat.le_refl _) hgrow1 (own_ge (Nat.le_refl _)) | refine kp_grown ?_ (Nat.le_refl _) hgrow1 (own_ge (Nat.le_add_right _ _)) | refine kp_grown ?_ (Nat.le_refl _) hgrow2 (row_ge hrow1) | refine kp_grown ?_ (Nat.le_refl _) hgrow3 (row_ge hrow2) | refine kp_alloc _ ?_ (Nat.le_refl _) | apply Below.drew)))
                intro A2 c2 w2 hrow2 hgrow2)
             | (refine step_app _ (by rfl) _ _ _ (by rfl) w0.heap.size 9 i0 _ 16 Try.underlying24 hi hz0 hz1 hz2 rfl A2 _ c2 _ ?_ hrow2 (if c' = q then ⟨g, 0, none⟩ else ⟨g, q, none⟩) (j - q) (c' - q) (((stT (ws.take j)).map S).drop q) ?_ (len_back hlen0) (rd_back2 hrd0 ?_) (one_back _ _ (oneS _)) (j + 1) ?_ ?_ ?_ ?_ ?_
                rfl
                exact slice_if
                (focus (repeat (first | exact Below.refl _ _ | assumption | refine kp_grown ?_ (Nat.le_refl _) hgrow1 (own_ge (Nat.le_refl _)) | refine kp_grown ?_ (Nat.le_refl _) hgrow1 (own_ge (Nat.le_add_right _ _)) | refine kp_grown ?_ (Nat.le_refl _) hgrow2 (row_ge hrow1) | refine kp_grown ?_ (Nat.le_refl _) hgrow3 (row_ge hrow2) | refine kp_alloc _ ?_ (Nat.le_refl _) | apply Below.drew)))
                omega
                omega
                omega
                (refine kp_size (N := w0.heap.size) ?_; focus (repeat (first | exact Below.refl _ _ | assumption | refine kp_grown ?_ (Nat.le_refl _) hgrow1 (own_ge (Nat.le_refl _)) | refine kp_grown ?_ (Nat.le_refl _) hgrow1 (own_ge (Nat.le_add_right _ _)) | refine kp_grown ?_ (Nat.le_refl _) hgrow2 (row_ge hrow1) | refine kp_grown ?_ (Nat.le_refl _) hgrow3 (row_ge hrow2) | refine kp_alloc _ ?_ (Nat.le_refl _) | apply Below.drew)))
                intro A3 c3 w3 hrow3 hgrow3))
          all_goals
            have hbe3 : Below w0.heap.size w0 w3 := by focus (repeat (first | exact Below.refl _ _ | assumption | refine kp_grown ?_ (Nat.le_refl _) hgrow1 (own_ge (Nat.le_refl _)) | refine kp_grown ?_ (Nat.le_refl _) hgrow1 (own_ge (Nat.le_add_right _ _)) | refine kp_grown ?_ (Nat.le_refl _) hgrow2 (row_ge hrow1) | refine kp_grown ?_ (Nat.le_refl _) hgrow3 (row_ge hrow2) | refine kp_alloc _ ?_ (Nat.le_refl _) | apply Below.drew))
            obtain ⟨g3, cap3, he3, _, _⟩ := World.ownsRow.form hrow3 (by omega)
            injection he3 with ha3 _ _
            subst ha3
            have hre : w.heap.size ≤ w0.heap.size := hsz0
            have HR := Lib.hid (hrow3.more hre)
            have HB := Lib.hid (Hbe0.out.trans (hbe3.mono hre))
            clear hrow3 hrow2 hrow1 hgrow1 hgrow2 hgrow3 hbe3
            go_wp2_with fail
            go_roundw
            case rel =>
              refine ⟨j + 1, g3, c3, by omega, by go_num, rfl, ?_, HB.out⟩
              have h := HR.out
              rw [stT_take_succ Hx.out, Hin.out]
              simp only [List.map_append, List.map_take, List.map_drop, List.map_cons, List.map_nil, List.nil_append, List.append_assoc, S] at h ⊢
              exact h
            case measure => simp [intOf]; omega
    · have hj' : ¬ (j : Int) < (n : Int) := by omega
      have hjn' : j = n := by omega
      subst hjn'
      go_wp2_with fail
      go_ret
      rw [List.take_of_length_le (by rw [Hn.out]; exact Nat.le_refl _)] at hown
      exact ⟨_, _, _, rfl, hown.own, hbw⟩
/-- A row returned that lies in a block from B on. -/
def RetOwn (w : World) (B : Nat) (xs : List Value) (e : Ending) (w' : World) : Prop := ∃ g n c, e = .returned (.slice (some ⟨g, 0, none⟩) n c) ∧ Row w' B 9 (some ⟨g, 0, none⟩) n c xs ∧ Below w.heap.size w w'
set_option maxRecDepth 8000 in
set_option maxHeartbeats 3200000 in
theorem insertText_any (g n c : Nat) (L : List (List UInt8)) (x : List UInt8) (w : World) (B : Nat) (hown : Row w B 9 (some ⟨g, 0, none⟩) n c (L.map S)) (hn20 : n ≤ 1048576) (hB : B ≤ w.heap.size) :
    Calls Try.prog 94 #[.slice (some ⟨g, 0, none⟩) n c, .string ⟨x.toArray⟩] w (RetOwn w B ((insT L x).map S)) := by
  have hrd := hown.rd
  have Hn := Lib.hid hrd.slen
  have hcc := hrd.2.1
  have hcm := hrd.2.2.1
  unfold maxLen at hcm
  obtain ⟨i0, hi, hz0, hz1, hz2⟩ := info_parts Try.infoXs
  go_enter Try.func94, Try.ntmps94
  go_wp2
  go_loopw [5] (fun k wr => ∃ q : Nat, q ≤ n ∧ k = .int .i64 q ∧ (∀ y ∈ L.take q, y < x) ∧ Quiet w wr) (fun k _ => n - (intOf k).toNat)
  case atStart => exact ⟨0, Nat.zero_le _, rfl, by simp, Quiet.refl _⟩
  case round =>
    obtain ⟨q, hq, rfl, hle, hqw⟩ := hrel
    have Hle := Lib.hid hle
    have hsz := hqw.size
    clear hle
    by_cases hqj : q < n
    · obtain ⟨y, hy, hcy⟩ := (hqw.rd hrd).str_at hqj
      have Hy := Lib.hid hy
      clear hy
      have hq' : (q : Int) < (n : Int) := by omega
      rw [Nat.zero_add] at hcy
      cases hyx : Op.bytesLess y x with
      | true =>
        have Hn2 := Lib.hid (take_all_succ (p := fun z => z < x) Hle.out Hy.out (bless_lt hyx))
        go_wp2_with fail
        go_roundw
        case rel => exact ⟨q + 1, by omega, by go_num, Hn2.out, hqw⟩
        case measure => simp [intOf]; omega
      | false =>
        by_cases he : y = x
        · subst he
          have Hin := Lib.hid (insT_there (l := L) (q := q) (by rw [Hn.out]; omega) Hle.out Hy.out)
          go_wp2_with fail
          go_ret
          exact ⟨g, n, c, rfl, by rw [Hin.out]; exact hown.quiet hqw, hqw.bel _⟩
        · have he' : (y == x) = false := by simpa using he
          have Hin := Lib.hid (insT_two (l := L) (q := q) (by rw [Hn.out]; omega) Hle.out (.inr ⟨y, Hy.out, bless_nlt hyx, he⟩))
          clear he
          go_wp2_with fail
          clear hcy
          have hq0 : (0 : Int) ≤ (q : Int) := by omega
          have hj0 : (0 : Int) ≤ (n : Int) := by omega
          obtain ⟨w0, hw0⟩ : ∃ w0, w0 = wr := ⟨_, rfl⟩
          rw [← hw0]
          have hrow0 : Row w0 B 9 (some ⟨g, 0, none⟩) n c (L.map S) := by rw [hw0]; exact hown.quiet hqw
          have hbe0 : Below w.heap.size w w0 := by rw [hw0]; exact hqw.bel _
          have hrd0 := hrow0.rd
          have hcb0 := hrd0.2.1
          have hlen0 : (L.map S).length = n := hrd0.1
          have hqc : (q : Int) ≤ (c : Int) := by omega
          have hsz0 := hbe0.size
          have Hbe0 := Lib.hid hbe0
          clear hw0 hqw hbe0 hown hrd
          go_region_held3 (fun w' => Below w0.heap.size w0 w')
            ((focus (repeat (first | exact Below.refl _ _ | assumption | refine kp_grown ?_ (Nat.le_refl _) hgrow1 (own_ge (Nat.le_refl _)) | refine kp_grown ?_ (Nat.le_refl _) hgrow1 (own_ge (Nat.le_add_right _ _)) | refine kp_grown ?_ (Nat.le_refl _) hgrow2 (row_ge hrow1) | refine kp_grown ?_ (Nat.le_refl _) hgrow3 (row_ge hrow2) | refine kp_alloc _ ?_ (Nat.le_refl _) | apply Below.drew))))
            (first
             | (refine step_app _ (by rfl) _ _ _ (by rfl) w0.heap.size 9 i0 _ 16 Try.underlying24 hi hz0 hz1 hz2 rfl _ 0 0 [] (by rfl) ?_ _ q _ ((L.map S).take q) (by rfl) (len_front hlen0 hq) (rd_front hrd0 ?_) (one_front _ _ (oneS _)) q ?_ ?_ ?_ ?_ ?_
                first | exact Row.of_block #[] 0 (heap_al0 _ _) (Nat.le_refl _) rfl (Nat.zero_le _) | exact Row.of_block #[] 0 (heap_al1 _ _ _) (Nat.le_refl _) rfl (Nat.zero_le _) | exact Row.of_block #[] 0 (heap_al2 _ _ _) (Nat.le_add_right _ _) rfl (Nat.zero_le _)
                (focus (repeat (first | exact Below.refl _ _ | assumption | refine kp_grown ?_ (Nat.le_refl _) hgrow1 (own_ge (Nat.le_refl _)) | refine kp_grown ?_ (Nat.le_refl _) hgrow1 (own_ge (Nat.le_add_right _ _)) | refine kp_grown ?_ (Nat.le_refl _) hgrow2 (row_ge hrow1) | refine kp_grown ?_ (Nat.le_refl _) hgrow3 (row_ge hrow2) | refine kp_alloc _ ?_ (Nat.le_refl _) | apply Below.drew)))
                omega
                omega
                omega
                (refine kp_size (N := w0.heap.size) ?_; focus (repeat (first | exact Below.refl _ _ | assumption | refine kp_grown ?_ (Nat.le_refl _) hgrow1 (own_ge (Nat.le_refl _)) | refine kp_grown ?_ (Nat.le_refl _) hgrow1 (own_ge (Nat.le_add_right _ _)) | refine kp_grown ?_ (Nat.le_refl _) hgrow2 (row_ge hrow1) | refine kp_grown ?_ (Nat.le_refl _) hgrow3 (row_ge hrow2) | refine kp_alloc _ ?_ (Nat.le_refl _) | apply Below.drew)))
                intro A1 c1 w1 hrow1 hgrow1)
             | (refine step_app _ (by rfl) _ _ _ (by rfl) w0.heap.size 9 i0 _ 16 Try.underlying24 hi hz0 hz1 hz2 rfl A1 _ c1 _ ?_ (hrow1.alloc _) ⟨w1.heap.size, 0, none⟩ 1 1 [.string ⟨x.toArray⟩] ?_ rfl (World.news_of_block (cs := #[.string ⟨x.toArray⟩]) (t := 9) (fr := (0, 0)) (heap_al0 w1 _)) (oneS [x]) (q + 1) ?_ ?_ ?_ ?_ ?_
                rfl
                rfl
                omega
                omega
                omega
                (refine kp_size (N := w0.heap.size) ?_; focus (repeat (first | exact Below.refl _ _ | assumption | refine kp_grown ?_ (Nat.le_refl _) hgrow1 (own_ge (Nat.le_refl _)) | refine kp_grown ?_ (Nat.le_refl _) hgrow1 (own_ge (Nat.le_add_right _ _)) | refine kp_grown ?_ (Nat.le_refl _) hgrow2 (row_ge hrow1) | refine kp_grown ?_ (Nat.le_refl _) hgrow3 (row_ge hrow2) | refine kp_alloc _ ?_ (Nat.le_refl _) | apply Below.drew)))
                intro A2 c2 w2 hrow2 hgrow2)
             | (refine step_app _ (by rfl) _ _ _ (by rfl) w0.heap.size 9 i0 _ 16 Try.underlying24 hi hz0 hz1 hz2 rfl A1 _ c1 _ ?_ (hrow1) ⟨w0.heap.size + 1, 0, none⟩ 1 1 [.string ⟨x.toArray⟩] ?_ rfl (World.news_of_block (cs := #[.string ⟨x.toArray⟩]) (t := 9) (fr := (0, 0)) (block_far hgrow1 (heap_al2 _ _ _) (own_ne (Nat.ne_of_gt (Nat.lt_succ_self _))))) (oneS [x]) (q + 1) ?_ ?_ ?_ ?_ ?_
                rfl
                rfl
                omega
                omega
                omega
                (refine kp_size (N := w0.heap.size) ?_; focus (repeat (first | exact Below.refl _ _ | assumption | refine kp_grown ?_ (Nat.le_refl _) hgrow1 (own_ge (Nat.le_refl _)) | refine kp_grown ?_ (Nat.le_refl _) hgrow1 (own_ge (Nat.le_add_right _ _)) | refine kp_grown ?_ (Nat.le_refl _) hgrow2 (row_ge hrow1) | refine kp_grown ?_ (Nat.le_refl _) hgrow3 (row_ge hrow2) | refine kp_alloc _ ?_ (Nat.le_refl _) | apply Below.drew)))
                intro A2 c2 w2 hrow2 hgrow2)
             | (refine step_app _ (by rfl) _ _ _ (by rfl) w0.heap.size 9 i0 _ 16 Try.underlying24 hi hz0 hz1 hz2 rfl A1 _ c1 _ ?_ (hrow1) ⟨w0.heap.size, 0, none⟩ 1 1 [.string ⟨x.toArray⟩] ?_ rfl (World.news_of_block (cs := #[.string ⟨x.toArray⟩]) (t := 9) (fr := (0, 0)) (block_far hgrow1 (heap_al1 _ _ _) (own_ne (Nat.ne_of_lt (Nat.lt_succ_self _))))) (oneS [x]) (q + 1) ?_ ?_ ?_ ?_ ?_
                rfl
                rfl
                omega
                omega
                omega
                (refine kp_size (N := w0.heap.size) ?_; focus (repeat (first | exact Below.refl _ _ | assumption | refine kp_grown ?_ (Nat.le_refl _) hgrow1 (own_ge (Nat.le_refl _)) | refine kp_grown ?_ (Nat.le_refl _) hgrow1 (own_ge (Nat.le_add_right _ _)) | refine kp_grown ?_ (Nat.le_refl _) hgrow2 (row_ge hrow1) | refine kp_grown ?_ (Nat.le_refl _) hgrow3 (row_ge hrow2) | refine kp_alloc _ ?_ (Nat.le_refl _) | apply Below.drew)))
                intro A2 c2 w2 hrow2 hgrow2)
             | (refine step_app _ (by rfl) _ _ _ (by rfl) w0.heap.size 9 i0 _ 16 Try.underlying24 hi hz0 hz1 hz2 rfl A2 _ c2 _ ?_ hrow2 (if c = q then ⟨g, 0, none⟩ else ⟨g, q, none⟩) (n - q) (c - q) ((L.map S).drop q) ?_ (len_back hlen0) (rd_back2 hrd0 ?_) (one_back _ _ (oneS _)) (n + 1) ?_ ?_ ?_ ?_ ?_
                rfl
                exact slice_if
                (focus (repeat (first | exact Below.refl _ _ | assumption | refine kp_grown ?_ (Nat.le_refl _) hgrow1 (own_ge (Nat.le_refl _)) | refine kp_grown ?_ (Nat.le_refl _) hgrow1 (own_ge (Nat.le_add_right _ _)) | refine kp_grown ?_ (Nat.le_refl _) hgrow2 (row_ge hrow1) | refine kp_grown ?_ (Nat.le_refl _) hgrow3 (row_ge hrow2) | refine kp_alloc _ ?_ (Nat.le_refl _) | apply Below.drew)))
                omega
                omega
                omega
                (refine kp_size (N := w0.heap.size) ?_; focus (repeat (first | exact Below.refl _ _ | assumption | refine kp_grown ?_ (Nat.le_refl _) hgrow1 (own_ge (Nat.le_refl _)) | refine kp_grown ?_ (Nat.le_refl _) hgrow1 (own_ge (Nat.le_add_right _ _)) | refine kp_grown ?_ (Nat.le_refl _) hgrow2 (row_ge hrow1) | refine kp_grown ?_ (Nat.le_refl _) hgrow3 (row_ge hrow2) | refine kp_alloc _ ?_ (Nat.le_refl _) | apply Below.drew)))
                intro A3 c3 w3 hrow3 hgrow3))
          all_goals
            have hbe3 : Below w0.heap.size w0 w3 := by focus (repeat (first | exact Below.refl _ _ | assumption | refine kp_grown ?_ (Nat.le_refl _) hgrow1 (own_ge (Nat.le_refl _)) | refine kp_grown ?_ (Nat.le_refl _) hgrow1 (own_ge (Nat.le_add_right _ _)) | refine kp_grown ?_ (Nat.le_refl _) hgrow2 (row_ge hrow1) | refine kp_grown ?_ (Nat.le_refl _) hgrow3 (row_ge hrow2) | refine kp_alloc _ ?_ (Nat.le_refl _) | apply Below.drew))
            obtain ⟨g3, cap3, he3, _, _⟩ := World.ownsRow.form hrow3 (by omega)
            injection he3 with ha3 _ hc3
            subst ha3
            subst hc3
            have HR := Lib.hid (hrow3.more (show B ≤ w0.heap.size by omega))
            have HB := Lib.hid (Hbe0.out.trans (hbe3.mono hsz0))
            clear hrow3 hrow2 hrow1 hgrow1 hgrow2 hgrow3 hbe3
            have HX : Row w3 B 9 (some ⟨g3, 0, none⟩) (n + 1) c3 ((insT L x).map S) := by
              have h := HR.out
              rw [Hin.out]
              simp only [List.map_append, List.map_take, List.map_drop, List.map_cons, List.map_nil, List.nil_append, List.append_assoc, S] at h ⊢
              exact h
            go_wp2_with fail
            all_goals
              go_ret
              exact ⟨g3, n + 1, c3, rfl, HX, HB.out⟩
    · have hq' : ¬ (q : Int) < (n : Int) := by omega
      have Hin := Lib.hid (insT_two (l := L) (q := q) (by rw [Hn.out]; omega) Hle.out (.inl (by rw [Hn.out]; omega)))
      go_wp2_with fail
      have hq0 : (0 : Int) ≤ (q : Int) := by omega
      have hj0 : (0 : Int) ≤ (n : Int) := by omega
      obtain ⟨w0, hw0⟩ : ∃ w0, w0 = wr := ⟨_, rfl⟩
      rw [← hw0]
      have hrow0 : Row w0 B 9 (some ⟨g, 0, none⟩) n c (L.map S) := by rw [hw0]; exact hown.quiet hqw
      have hbe0 : Below w.heap.size w w0 := by rw [hw0]; exact hqw.bel _
      have hrd0 := hrow0.rd
      have hcb0 := hrd0.2.1
      have hlen0 : (L.map S).length = n := hrd0.1
      have hqc : (q : Int) ≤ (c : Int) := by omega
      have hsz0 := hbe0.size
      have Hbe0 := Lib.hid hbe0
      clear hw0 hqw hbe0 hown hrd
      go_region_held3 (fun w' => Below w0.heap.size w0 w')
        ((focus (repeat (first | exact Below.refl _ _ | assumption | refine kp_grown ?_ (Nat.le_refl _) hgrow1 (own_ge (Nat.le_refl _)) | refine kp_grown ?_ (Nat.le_refl _) hgrow1 (own_ge (Nat.le_add_right _ _)) | refine kp_grown ?_ (Nat.le_refl _) hgrow2 (row_ge hrow1) | refine kp_grown ?_ (Nat.le_refl _) hgrow3 (row_ge hrow2) | refine kp_alloc _ ?_ (Nat.le_refl _) | apply Below.drew))))
        (first
         | (refine step_app _ (by rfl) _ _ _ (by rfl) w0.heap.size 9 i0 _ 16 Try.underlying24 hi hz0 hz1 hz2 rfl _ 0 0 [] (by rfl) ?_ _ q _ ((L.map S).take q) (by rfl) (len_front hlen0 hq) (rd_front hrd0 ?_) (one_front _ _ (oneS _)) q ?_ ?_ ?_ ?_ ?_
            first | exact Row.of_block #[] 0 (heap_al0 _ _) (Nat.le_refl _) rfl (Nat.zero_le _) | exact Row.of_block #[] 0 (heap_al1 _ _ _) (Nat.le_refl _) rfl (Nat.zero_le _) | exact Row.of_block #[] 0 (heap_al2 _ _ _) (Nat.le_add_right _ _) rfl (Nat.zero_le _)
            (focus (repeat (first | exact Below.refl _ _ | assumption | refine kp_grown ?_ (Nat.le_refl _) hgrow1 (own_ge (Nat.le_refl _)) | refine kp_grown ?_ (Nat.le_refl _) hgrow1 (own_ge (Nat.le_add_right _ _)) | refine kp_grown ?_ (Nat.le_refl _) hgrow2 (row_ge hrow1) | refine kp_grown ?_ (Nat.le_refl _) hgrow3 (row_ge hrow2) | refine kp_alloc _ ?_ (Nat.le_refl _) | apply Below.drew)))
            omega
            omega
            omega
            (refine kp_size (N := w0.heap.size) ?_; focus (repeat (first | exact Below.refl _ _ | assumption | refine kp_grown ?_ (Nat.le_refl _) hgrow1 (own_ge (Nat.le_refl _)) | refine kp_grown ?_ (Nat.le_refl _) hgrow1 (own_ge (Nat.le_add_right _ _)) | refine kp_grown ?_ (Nat.le_refl _) hgrow2 (row_ge hrow1) | refine kp_grown ?_ (Nat.le_refl _) hgrow3 (row_ge hrow2) | refine kp_alloc _ ?_ (Nat.le_refl _) | apply Below.drew)))
            intro A1 c1 w1 hrow1 hgrow1)
         | (refine step_app _ (by rfl) _ _ _ (by rfl) w0.heap.size 9 i0 _ 16 Try.underlying24 hi hz0 hz1 hz2 rfl A1 _ c1 _ ?_ (hrow1.alloc _) ⟨w1.heap.size, 0, none⟩ 1 1 [.string ⟨x.toArray⟩] ?_ rfl (World.news_of_block (cs := #[.string ⟨x.toArray⟩]) (t := 9) (fr := (0, 0)) (heap_al0 w1 _)) (oneS [x]) (q + 1) ?_ ?_ ?_ ?_ ?_
            rfl
            rfl
            omega
            omega
            omega
            (refine kp_size (N := w0.heap.size) ?_; focus (repeat (first | exact Below.refl _ _ | assumption | refine kp_grown ?_ (Nat.le_refl _) hgrow1 (own_ge (Nat.le_refl _)) | refine kp_grown ?_ (Nat.le_refl _) hgrow1 (own_ge (Nat.le_add_right _ _)) | refine kp_grown ?_ (Nat.le_refl _) hgrow2 (row_ge hrow1) | refine kp_grown ?_ (Nat.le_refl _) hgrow3 (row_ge hrow2) | refine kp_alloc _ ?_ (Nat.le_refl _) | apply Below.drew)))
            intro A2 c2 w2 hrow2 hgrow2)
         | (refine step_app _ (by rfl) _ _ _ (by rfl) w0.heap.size 9 i0 _ 16 Try.underlying24 hi hz0 hz1 hz2 rfl A1 _ c1 _ ?_ (hrow1) ⟨w0.heap.size + 1, 0, none⟩ 1 1 [.string ⟨x.toArray⟩] ?_ rfl (World.news_of_block (cs := #[.string ⟨x.toArray⟩]) (t := 9) (fr := (0, 0)) (block_far hgrow1 (heap_al2 _ _ _) (own_ne (Nat.ne_of_gt (Nat.lt_succ_self _))))) (oneS [x]) (q + 1) ?_ ?_ ?_ ?_ ?_
            rfl
            rfl
            omega
            omega
            omega
            (refine kp_size (N := w0.heap.size) ?_; focus (repeat (first | exact Below.refl _ _ | assumption | refine kp_grown ?_ (Nat.le_refl _) hgrow1 (own_ge (Nat.le_refl _)) | refine kp_grown ?_ (Nat.le_refl _) hgrow1 (own_ge (Nat.le_add_right _ _)) | refine kp_grown ?_ (Nat.le_refl _) hgrow2 (row_ge hrow1) | refine kp_grown ?_ (Nat.le_refl _) hgrow3 (row_ge hrow2) | refine kp_alloc _ ?_ (Nat.le_refl _) | apply Below.drew)))
            intro A2 c2 w2 hrow2 hgrow2)
         | (refine step_app _ (by rfl) _ _ _ (by rfl) w0.heap.size 9 i0 _ 16 Try.underlying24 hi hz0 hz1 hz2 rfl A1 _ c1 _ ?_ (hrow1) ⟨w0.heap.size, 0, none⟩ 1 1 [.string ⟨x.toArray⟩] ?_ rfl (World.news_of_block (cs := #[.string ⟨x.toArray⟩]) (t := 9) (fr := (0, 0)) (block_far hgrow1 (heap_al1 _ _ _) (own_ne (Nat.ne_of_lt (Nat.lt_succ_self _))))) (oneS [x]) (q + 1) ?_ ?_ ?_ ?_ ?_
            rfl
            rfl
            omega
            omega
            omega
            (refine kp_size (N := w0.heap.size) ?_; focus (repeat (first | exact Below.refl _ _ | assumption | refine kp_grown ?_ (Nat.le_refl _) hgrow1 (own_ge (Nat.le_refl _)) | refine kp_grown ?_ (Nat.le_refl _) hgrow1 (own_ge (Nat.le_add_right _ _)) | refine kp_grown ?_ (Nat.le_refl _) hgrow2 (row_ge hrow1) | refine kp_grown ?_ (Nat.le_refl _) hgrow3 (row_ge hrow2) | refine kp_alloc _ ?_ (Nat.le_refl _) | apply Below.drew)))
            intro A2 c2 w2 hrow2 hgrow2)
         | (refine step_app _ (by rfl) _ _ _ (by rfl) w0.heap.size 9 i0 _ 16 Try.underlying24 hi hz0 hz1 hz2 rfl A2 _ c2 _ ?_ hrow2 (if c = q then ⟨g, 0, none⟩ else ⟨g, q, none⟩) (n - q) (c - q) ((L.map S).drop q) ?_ (len_back hlen0) (rd_back2 hrd0 ?_) (one_back _ _ (oneS _)) (n + 1) ?_ ?_ ?_ ?_ ?_
            rfl
            exact slice_if
            (focus (repeat (first | exact Below.refl _ _ | assumption | refine kp_grown ?_ (Nat.le_refl _) hgrow1 (own_ge (Nat.le_refl _)) | refine kp_grown ?_ (Nat.le_refl _) hgrow1 (own_ge (Nat.le_add_right _ _)) | refine kp_grown ?_ (Nat.le_refl _) hgrow2 (row_ge hrow1) | refine kp_grown ?_ (Nat.le_refl _) hgrow3 (row_ge hrow2) | refine kp_alloc _ ?_ (Nat.le_refl _) | apply Below.drew)))
            omega
            omega
            omega
            (refine kp_size (N := w0.heap.size) ?_; focus (repeat (first | exact Below.refl _ _ | assumption | refine kp_grown ?_ (Nat.le_refl _) hgrow1 (own_ge (Nat.le_refl _)) | refine kp_grown ?_ (Nat.le_refl _) hgrow1 (own_ge (Nat.le_add_right _ _)) | refine kp_grown ?_ (Nat.le_refl _) hgrow2 (row_ge hrow1) | refine kp_grown ?_ (Nat.le_refl _) hgrow3 (row_ge hrow2) | refine kp_alloc _ ?_ (Nat.le_refl _) | apply Below.drew)))
            intro A3 c3 w3 hrow3 hgrow3))
      all_goals
        have hbe3 : Below w0.heap.size w0 w3 := by focus (repeat (first | exact Below.refl _ _ | assumption | refine kp_grown ?_ (Nat.le_refl _) hgrow1 (own_ge (Nat.le_refl _)) | refine kp_grown ?_ (Nat.le_refl _) hgrow1 (own_ge (Nat.le_add_right _ _)) | refine kp_grown ?_ (Nat.le_refl _) hgrow2 (row_ge hrow1) | refine kp_grown ?_ (Nat.le_refl _) hgrow3 (row_ge hrow2) | refine kp_alloc _ ?_ (Nat.le_refl _) | apply Below.drew))
        obtain ⟨g3, cap3, he3, _, _⟩ := World.ownsRow.form hrow3 (by omega)
        injection he3 with ha3 _ hc3
        subst ha3
        subst hc3
        have HR := Lib.hid (hrow3.more (show B ≤ w0.heap.size by omega))
        have HB := Lib.hid (Hbe0.out.trans (hbe3.mono hsz0))
        clear hrow3 hrow2 hrow1 hgrow1 hgrow2 hgrow3 hbe3
        have HX : Row w3 B 9 (some ⟨g3, 0, none⟩) (n + 1) c3 ((insT L x).map S) := by
          have h := HR.out
          rw [Hin.out]
          simp only [List.map_append, List.map_take, List.map_drop, List.map_cons, List.map_nil, List.nil_append, List.append_assoc, S] at h ⊢
          exact h
        go_wp2_with fail
        all_goals
          go_ret
          exact ⟨g3, n + 1, c3, rfl, HX, HB.out⟩
end Go.Proofs.Ytfbmcfdmffpfmaa
