/-
  Points with distances: the reference's search, where nothing is left.
-/
import Derived.Test.YtopmifidhabobaaPlt
namespace Go.Proofs.Ytopmifidhabobaa
open Go.RowKit Go.Sort
set_option linter.unusedVariables false
set_option linter.unusedSimpArgs false

theorem Quiet.trans {a b w : World} (h : Quiet a b) (k : Quiet b w) : Quiet a w := by
  obtain ⟨n, rfl⟩ := k
  exact h.drewN n
theorem tw_at {α : Type} {p : α → Bool} : ∀ {l : List α} {q : Nat}, (∀ y ∈ l.take q, p y = true) → (q = l.length ∨ ∃ y, l[q]? = some y ∧ p y = false) → l.takeWhile p = l.take q ∧ l.dropWhile p = l.drop q := by
  intro l
  induction l with
  | nil => intro q _ _; simp
  | cons a l ih =>
    intro q h h2
    cases q with
    | zero =>
      rcases h2 with h2 | ⟨y, hy, hp⟩
      · simp at h2
      · simp at hy
        subst hy
        simp [hp]
    | succ q =>
      have ha : p a = true := h a (by simp)
      have := ih (q := q) (fun y hy => h y (by simp [hy])) (by simpa using h2)
      simp [ha, this]
theorem insU_new {L : List (List Int)} {x : List Int} {k : Nat} (ha : Asc L) (h1 : ∀ y ∈ L.take k, ltL y x = true) (h2 : k = L.length ∨ ∃ y, L[k]? = some y ∧ ltL y x = false ∧ y ≠ x) : insU L x = L.take k ++ x :: L.drop k := by
  have hno : x ∉ L := by
    intro hx
    obtain ⟨j, hj, e⟩ := List.mem_iff_getElem.1 hx
    rcases Nat.lt_or_ge j k with h | h
    · have := h1 x (by rw [List.mem_take_iff_getElem]; exact ⟨j, by omega, e⟩)
      rw [ltL_irrefl] at this
      cases this
    · rcases h2 with h2 | ⟨y, hy, hl, hne⟩
      · omega
      · obtain ⟨hk, rfl⟩ := List.getElem?_eq_some_iff.1 hy
        rcases (show j = k ∨ k < j by omega) with rfl | h3
        · exact hne e
        · have := (List.pairwise_iff_getElem.1 ha) k j hk hj h3
          rw [e, hl] at this
          cases this
  obtain ⟨t1, t2⟩ := tw_at (p := fun y => ltL y x) h1 (h2.imp id (fun ⟨y, hy, hl, _⟩ => ⟨y, hy, hl⟩))
  unfold insU
  rw [if_neg hno, t1, t2]
theorem insU_old {L : List (List Int)} {x : List Int} {k : Nat} (h : L[k]? = some x) : insU L x = L := by
  unfold insU
  rw [if_pos (List.mem_of_getElem? h)]
/-- Rows of rows that the reference's search hands back. -/
def PF (w : World) (B : Nat) (L : List (List Int)) (e : Ending) (w' : World) : Prop :=
  ∃ (g n c : Nat) (P : List SP), e = .returned (.slice (some ⟨g, 0, none⟩) n c) ∧ Row w' B 22 (some ⟨g, 0, none⟩) n c (P.map V) ∧ OwnP w' B P ∧ P.map Prod.snd = L ∧ Below w.heap.size w w'
theorem snd_at {P : List SP} {k : Nat} {p : SP} (h : P[k]? = some p) : (P.map Prod.snd)[k]? = some p.2 := by rw [List.getElem?_map, h]; rfl
set_option maxRecDepth 8000 in
set_option maxHeartbeats 6400000 in
theorem place_end (Ap : Option Addr) (np cp : Nat) (pts : List Int) (Al : Option Addr) (cl : Nat) (top : Int) (g n c : Nat) (P : List SP) (B : Nat) (w : World)
    (hr : Rd w w.heap.size Ap np cp (pts.map I)) (hrow : Row w B 22 (some ⟨g, 0, none⟩) n c (P.map V)) (hin : OwnP w B P) (ha : Asc (P.map Prod.snd)) (hn40 : np ≤ 40) (hn6 : n ≤ 1000000) (hB : B ≤ w.heap.size) :
    Calls Try.prog 48 #[.slice Ap np cp, .slice Al 0 cl, .int .i64 top, .slice (some ⟨g, 0, none⟩) n c] w (PF w B (insU (P.map Prod.snd) (srt pts))) := by
  have hlen : P.length = n := by have := hrow.len; simpa using this
  have Hlen := Lib.hid hlen
  have hnc := hrow.rd.2.1
  have hcm := hrow.rd.2.2.1
  unfold maxLen at hcm
  obtain ⟨i1, hj, hy0, hy1, hy2⟩ := info_parts_of Try.infoSI
  have hS := sortInts_any Ap np cp pts w hr (by omega)
  go_enter Try.func48, Try.ntmps48
  go_wp2_with fail
  refine hS.mono ?_
  rintro e w1 ⟨Az, nz, cz, rfl, hown1, hb1⟩
  have Hrow := Lib.hid (hrow.kept hb1)
  have Hin := Lib.hid (hin.below hb1)
  have Hown := Lib.hid hown1
  have Hb1 := Lib.hid hb1
  clear hS hrow hin hown1 hb1 hr hlen
  go_wp2_with fail
  go_loopw [10] (fun i wr => ∃ k : Nat, k ≤ n ∧ i = .int .i64 k ∧ (∀ y ∈ (P.map Prod.snd).take k, ltL y (srt pts) = true) ∧ Quiet w1 wr) (fun i _ => n - (intOf i).toNat)
  case atStart => exact ⟨0, Nat.zero_le _, rfl, by simp, Quiet.refl _⟩
  case round =>
    obtain ⟨k, hk, rfl, hall, hq⟩ := hrel
    have Hall := Lib.hid hall
    clear hall
    by_cases hlt : k < n
    · obtain ⟨p, hp⟩ : ∃ p, P[k]? = some p := ⟨_, List.getElem?_eq_getElem (by have := Hlen.out; omega)⟩
      have hcp := ((Hrow.out.quiet hq).cells (map_at hp)).1
      have hLs := fun w' (hq : Quiet w1 w') => lessInts_any p.1.1 p.1.2.1 p.1.2.2 p.2 Az nz cz (srt pts) w' _ _ (hq.rd (Hin.out p (List.mem_of_getElem? hp)).rd) (hq.rd Hown.out.rd)
      have hSm := fun w' (hq : Quiet w1 w') => sameInts_any p.1.1 p.1.2.1 p.1.2.2 p.2 Az nz cz (srt pts) w' _ _ (hq.rd (Hin.out p (List.mem_of_getElem? hp)).rd) (hq.rd Hown.out.rd)
      have hcp2 := fun w' (hq : Quiet w1 w') => ((Hrow.out.quiet hq).cells (map_at hp)).1
      have Hp := Lib.hid (snd_at hp)
      obtain ⟨⟨pa, pn, pc⟩, pl⟩ := p
      dsimp only at hLs hcp hSm hcp2 Hp
      have hlt' : (k : Int) < (n : Int) := by omega
      have k0 : (0 : Int) ≤ (k : Int) := by omega
      have e5 : IntKind.i64.wrap ((k : Int) + 1) = (k : Int) + 1 := by rw [IntKind.wrap_i64]; omega
      clear hp
      cases hl : ltL pl (srt pts) with
      | true =>
        have Hst := Lib.hid (show ∀ y ∈ (P.map Prod.snd).take (k + 1), ltL y (srt pts) = true by
          intro y hy
          rw [List.take_add_one, Hp.out, Option.toList_some, List.mem_append, List.mem_singleton] at hy
          rcases hy with hy | rfl
          · exact Hall.out y hy
          · exact hl)
        rw [hl] at hLs
        clear hl hSm
        go_wp2_with fail
        refine (hLs _ hq).mono ?_
        rintro e w2 ⟨rfl, hq2⟩
        clear hLs hcp hcp2
        go_wp2_with fail
        go_roundw
        case rel => exact ⟨k + 1, by omega, by go_num, Hst.out, Quiet.trans hq hq2⟩
        case measure => simp [intOf]; omega
      | false =>
        have Hl := Lib.hid hl
        rw [hl] at hLs
        clear hl
        go_wp2_with fail
        refine (hLs _ hq).mono ?_
        rintro e w2 ⟨rfl, hq2⟩
        have hqq2 : Quiet w1 w2 := Quiet.trans hq hq2
        have hcp3 := hcp2 w2 hqq2
        clear hLs hcp hcp2
        cases hs : decide (pl = srt pts) with
        | true =>
          rw [hs] at hSm
          have Hold := Lib.hid (show insU (P.map Prod.snd) (srt pts) = P.map Prod.snd from insU_old (by rw [Hp.out, of_decide_eq_true hs]))
          clear hs
          go_wp2_with fail
          refine (hSm _ hqq2).mono ?_
          rintro e w3 ⟨rfl, hq3⟩
          have hqq := Quiet.trans hqq2 hq3
          clear hSm
          go_wp2_with fail
          go_ret
          rw [Hold.out]
          exact ⟨g, n, c, P, rfl, Hrow.out.quiet hqq, Hin.out.quiet hqq, rfl, Hb1.out.trans (hqq.bel _)⟩
        | false =>
          rw [hs] at hSm
          have Hins := Lib.hid (show insU (P.map Prod.snd) (srt pts) = (P.map Prod.snd).take k ++ srt pts :: (P.map Prod.snd).drop k from insU_new ha Hall.out (.inr ⟨pl, Hp.out, Hl.out, of_decide_eq_false hs⟩))
          clear hs
          go_wp2_with fail
          refine (hSm _ hqq2).mono ?_
          rintro e w4 ⟨rfl, hq3⟩
          have hqq := Quiet.trans hqq2 hq3
          clear hSm hcp3 hqq2 hq3 hq hq2
          go_wp2_with fail
          obtain ⟨w0, hw0⟩ : ∃ w0, w0 = w4 := ⟨_, rfl⟩
          have hq0 : Quiet w1 w0 := by rw [hw0]; exact hqq
          have hrow0 : Row w0 B 22 (some ⟨g, 0, none⟩) n c (P.map V) := (Hrow.out).quiet hq0
          have hinP0 : OwnP w0 B P := Hin.out.quiet hq0
          have hown0 : Own w0 w.heap.size 3 Az nz cz ((srt pts).map I) := Hown.out.below (hq0.bel _) (Nat.le_refl _)
          have hb0 : Below w.heap.size w w0 := Hb1.out.trans (hq0.bel _)
          rw [← hw0]
          have hrd0 : Rd w0 w0.heap.size (some ⟨g, 0, none⟩) n c (P.map V) := hrow0.rd
          have hlen0 : (P.map V).length = n := hrd0.1
          have hq : k ≤ n := by omega
          have hq0 : (0 : Int) ≤ (k : Int) := by omega
          have hqn : (k : Int) ≤ (n : Int) := by omega
          have hqc : (k : Int) ≤ (c : Int) := by omega
          clear hw0 hqq
          go_region_held3 (fun w' => Below w0.heap.size w0 w')
            ((focus (repeat (first | exact Below.refl _ _ | assumption | refine kp_grown ?_ (Nat.le_refl _) hgrow1 (own_ge (Nat.le_refl _)) | refine kp_grown ?_ (Nat.le_refl _) hgrow1 (own_ge (Nat.le_add_right _ _)) | refine kp_grown ?_ (Nat.le_refl _) hgrow2 (row_ge hrow1) | refine kp_grown ?_ (Nat.le_refl _) hgrow3 (row_ge hrow2) | refine kp_alloc _ ?_ (Nat.le_refl _) | apply Below.drew))))
            (first
             | (refine step_app _ (by rfl) _ _ _ (by rfl) w0.heap.size 22 i1 _ 24 Try.underlying23 hj hy0 hy1 hy2 rfl _ 0 0 [] (by rfl) ?_ _ k _ ((P.map V).take k) (by rfl) (len_front hlen0 hq) (rd_front hrd0 ?_) (one_front _ _ (oneV _)) k ?_ ?_ ?_ ?_ ?_
                first | exact Row.of_block #[] 0 (heap_al0 _ _) (Nat.le_refl _) rfl (Nat.zero_le _) | exact Row.of_block #[] 0 (heap_al1 _ _ _) (Nat.le_refl _) rfl (Nat.zero_le _) | exact Row.of_block #[] 0 (heap_al2 _ _ _) (Nat.le_add_right _ _) rfl (Nat.zero_le _)
                (focus (repeat (first | exact Below.refl _ _ | assumption | refine kp_grown ?_ (Nat.le_refl _) hgrow1 (own_ge (Nat.le_refl _)) | refine kp_grown ?_ (Nat.le_refl _) hgrow1 (own_ge (Nat.le_add_right _ _)) | refine kp_grown ?_ (Nat.le_refl _) hgrow2 (row_ge hrow1) | refine kp_grown ?_ (Nat.le_refl _) hgrow3 (row_ge hrow2) | refine kp_alloc _ ?_ (Nat.le_refl _) | apply Below.drew)))
                omega
                omega
                omega
                (refine kp_size (N := w0.heap.size) ?_; focus (repeat (first | exact Below.refl _ _ | assumption | refine kp_grown ?_ (Nat.le_refl _) hgrow1 (own_ge (Nat.le_refl _)) | refine kp_grown ?_ (Nat.le_refl _) hgrow1 (own_ge (Nat.le_add_right _ _)) | refine kp_grown ?_ (Nat.le_refl _) hgrow2 (row_ge hrow1) | refine kp_grown ?_ (Nat.le_refl _) hgrow3 (row_ge hrow2) | refine kp_alloc _ ?_ (Nat.le_refl _) | apply Below.drew)))
                intro A1 c1 w1 hrow1 hgrow1)
             | (refine step_app _ (by rfl) _ _ _ (by rfl) w0.heap.size 22 i1 _ 24 Try.underlying23 hj hy0 hy1 hy2 rfl A1 _ c1 _ ?_ (hrow1.alloc _) ⟨w1.heap.size, 0, none⟩ 1 1 [.slice Az nz cz] ?_ rfl (World.news_of_block (cs := #[.slice Az nz cz]) (t := 22) (fr := (0, 0)) (heap_al0 w1 _)) (oneV [((Az, nz, cz), srt pts)]) (k + 1) ?_ ?_ ?_ ?_ ?_
                rfl
                rfl
                omega
                omega
                omega
                (refine kp_size (N := w0.heap.size) ?_; focus (repeat (first | exact Below.refl _ _ | assumption | refine kp_grown ?_ (Nat.le_refl _) hgrow1 (own_ge (Nat.le_refl _)) | refine kp_grown ?_ (Nat.le_refl _) hgrow1 (own_ge (Nat.le_add_right _ _)) | refine kp_grown ?_ (Nat.le_refl _) hgrow2 (row_ge hrow1) | refine kp_grown ?_ (Nat.le_refl _) hgrow3 (row_ge hrow2) | refine kp_alloc _ ?_ (Nat.le_refl _) | apply Below.drew)))
                intro A2 c2' w2 hrow2 hgrow2)
             | (refine step_app _ (by rfl) _ _ _ (by rfl) w0.heap.size 22 i1 _ 24 Try.underlying23 hj hy0 hy1 hy2 rfl A1 _ c1 _ ?_ (hrow1) ⟨w0.heap.size + 1, 0, none⟩ 1 1 [.slice Az nz cz] ?_ rfl (World.news_of_block (cs := #[.slice Az nz cz]) (t := 22) (fr := (0, 0)) (block_far hgrow1 (heap_al2 _ _ _) (own_ne (Nat.ne_of_gt (Nat.lt_succ_self _))))) (oneV [((Az, nz, cz), srt pts)]) (k + 1) ?_ ?_ ?_ ?_ ?_
                rfl
                rfl
                omega
                omega
                omega
                (refine kp_size (N := w0.heap.size) ?_; focus (repeat (first | exact Below.refl _ _ | assumption | refine kp_grown ?_ (Nat.le_refl _) hgrow1 (own_ge (Nat.le_refl _)) | refine kp_grown ?_ (Nat.le_refl _) hgrow1 (own_ge (Nat.le_add_right _ _)) | refine kp_grown ?_ (Nat.le_refl _) hgrow2 (row_ge hrow1) | refine kp_grown ?_ (Nat.le_refl _) hgrow3 (row_ge hrow2) | refine kp_alloc _ ?_ (Nat.le_refl _) | apply Below.drew)))
                intro A2 c2' w2 hrow2 hgrow2)
             | (refine step_app _ (by rfl) _ _ _ (by rfl) w0.heap.size 22 i1 _ 24 Try.underlying23 hj hy0 hy1 hy2 rfl A1 _ c1 _ ?_ (hrow1) ⟨w0.heap.size, 0, none⟩ 1 1 [.slice Az nz cz] ?_ rfl (World.news_of_block (cs := #[.slice Az nz cz]) (t := 22) (fr := (0, 0)) (block_far hgrow1 (heap_al1 _ _ _) (own_ne (Nat.ne_of_lt (Nat.lt_succ_self _))))) (oneV [((Az, nz, cz), srt pts)]) (k + 1) ?_ ?_ ?_ ?_ ?_
                rfl
                rfl
                omega
                omega
                omega
                (refine kp_size (N := w0.heap.size) ?_; focus (repeat (first | exact Below.refl _ _ | assumption | refine kp_grown ?_ (Nat.le_refl _) hgrow1 (own_ge (Nat.le_refl _)) | refine kp_grown ?_ (Nat.le_refl _) hgrow1 (own_ge (Nat.le_add_right _ _)) | refine kp_grown ?_ (Nat.le_refl _) hgrow2 (row_ge hrow1) | refine kp_grown ?_ (Nat.le_refl _) hgrow3 (row_ge hrow2) | refine kp_alloc _ ?_ (Nat.le_refl _) | apply Below.drew)))
                intro A2 c2' w2 hrow2 hgrow2)
             | (refine step_app _ (by rfl) _ _ _ (by rfl) w0.heap.size 22 i1 _ 24 Try.underlying23 hj hy0 hy1 hy2 rfl A2 _ c2' _ ?_ hrow2 (if c = k then ⟨g, 0, none⟩ else ⟨g, k, none⟩) (n - k) (c - k) ((P.map V).drop k) ?_ (len_back hlen0) (rd_back2 hrd0 ?_) (one_back _ _ (oneV _)) (n + 1) ?_ ?_ ?_ ?_ ?_
                rfl
                exact slice_if
                (focus (repeat (first | exact Below.refl _ _ | assumption | refine kp_grown ?_ (Nat.le_refl _) hgrow1 (own_ge (Nat.le_refl _)) | refine kp_grown ?_ (Nat.le_refl _) hgrow1 (own_ge (Nat.le_add_right _ _)) | refine kp_grown ?_ (Nat.le_refl _) hgrow2 (row_ge hrow1) | refine kp_grown ?_ (Nat.le_refl _) hgrow3 (row_ge hrow2) | refine kp_alloc _ ?_ (Nat.le_refl _) | apply Below.drew)))
                omega
                omega
                omega
                (refine kp_size (N := w0.heap.size) ?_; focus (repeat (first | exact Below.refl _ _ | assumption | refine kp_grown ?_ (Nat.le_refl _) hgrow1 (own_ge (Nat.le_refl _)) | refine kp_grown ?_ (Nat.le_refl _) hgrow1 (own_ge (Nat.le_add_right _ _)) | refine kp_grown ?_ (Nat.le_refl _) hgrow2 (row_ge hrow1) | refine kp_grown ?_ (Nat.le_refl _) hgrow3 (row_ge hrow2) | refine kp_alloc _ ?_ (Nat.le_refl _) | apply Below.drew)))
                intro A3 c3 w3 hrow3 hgrow3))
          all_goals
            have hbe3 : Below w0.heap.size w0 w3 := by focus (repeat (first | exact Below.refl _ _ | assumption | refine kp_grown ?_ (Nat.le_refl _) hgrow1 (own_ge (Nat.le_refl _)) | refine kp_grown ?_ (Nat.le_refl _) hgrow1 (own_ge (Nat.le_add_right _ _)) | refine kp_grown ?_ (Nat.le_refl _) hgrow2 (row_ge hrow1) | refine kp_grown ?_ (Nat.le_refl _) hgrow3 (row_ge hrow2) | refine kp_alloc _ ?_ (Nat.le_refl _) | apply Below.drew))
            have hb3 : Below w.heap.size w w3 := hb0.trans (hbe3.mono hb0.size)
            have hr3 : Row w3 B 22 A3 (n + 1) c3 ((P.take k ++ [((Az, nz, cz), srt pts)] ++ P.drop k).map V) := by
              have h := hrow3.more (Nat.le_trans hB hb0.size)
              rw [List.nil_append, ← List.map_take, ← List.map_drop] at h
              rw [List.map_append, List.map_append]
              exact h
            have hi3 : OwnP w3 B (P.take k ++ [((Az, nz, cz), srt pts)] ++ P.drop k) := by
              intro p hp
              rw [List.mem_append, List.mem_append, List.mem_singleton] at hp
              rcases hp with (hp | rfl) | hp
              · exact (hinP0.below hbe3) p (List.mem_of_mem_take hp)
              · exact (hown0.below hbe3 (Nat.le_refl _)).more hB
              · exact (hinP0.below hbe3) p (List.mem_of_mem_drop hp)
            obtain ⟨g3, _, rfl, _⟩ := hr3.blk (g := 0) (Nat.succ_pos _)
            clear hrow3 hgrow3 hrow2 hgrow2 hrow1 hgrow1 hrow0 hrd0 hbe3 hinP0 hown0 hb0
            generalize (if c = k then some (⟨g, 0, none⟩ : Addr) else some ⟨g, k, none⟩) = tt
            go_wp2_with fail
            go_ret
            refine ⟨g3, _, _, _, rfl, hr3, hi3, ?_, hb3⟩
            rw [Hins.out]
            simp
    · have Hkn := Lib.hid (show k = n by omega)
      have hlt' : ¬ (k : Int) < (n : Int) := by omega
      have Hins := Lib.hid (show insU (P.map Prod.snd) (srt pts) = (P.map Prod.snd).take k ++ srt pts :: (P.map Prod.snd).drop k from insU_new ha Hall.out (.inl (by rw [List.length_map, Hlen.out, Hkn.out])))
      have hqq := hq
      clear hq
      go_wp2_with fail
      obtain ⟨w0, hw0⟩ : ∃ w0, w0 = wr := ⟨_, rfl⟩
      have hq0 : Quiet w1 w0 := by rw [hw0]; exact hqq
      have hrow0 : Row w0 B 22 (some ⟨g, 0, none⟩) n c (P.map V) := (Hrow.out).quiet hq0
      have hinP0 : OwnP w0 B P := Hin.out.quiet hq0
      have hown0 : Own w0 w.heap.size 3 Az nz cz ((srt pts).map I) := Hown.out.below (hq0.bel _) (Nat.le_refl _)
      have hb0 : Below w.heap.size w w0 := Hb1.out.trans (hq0.bel _)
      rw [← hw0]
      have hrd0 : Rd w0 w0.heap.size (some ⟨g, 0, none⟩) n c (P.map V) := hrow0.rd
      have hlen0 : (P.map V).length = n := hrd0.1
      have hq : k ≤ n := by omega
      have hq0 : (0 : Int) ≤ (k : Int) := by omega
      have hqn : (k : Int) ≤ (n : Int) := by omega
      have hqc : (k : Int) ≤ (c : Int) := by omega
      clear hw0 hqq
      go_region_held3 (fun w' => Below w0.heap.size w0 w')
        ((focus (repeat (first | exact Below.refl _ _ | assumption | refine kp_grown ?_ (Nat.le_refl _) hgrow1 (own_ge (Nat.le_refl _)) | refine kp_grown ?_ (Nat.le_refl _) hgrow1 (own_ge (Nat.le_add_right _ _)) | refine kp_grown ?_ (Nat.le_refl _) hgrow2 (row_ge hrow1) | refine kp_grown ?_ (Nat.le_refl _) hgrow3 (row_ge hrow2) | refine kp_alloc _ ?_ (Nat.le_refl _) | apply Below.drew))))
        (first
         | (refine step_app _ (by rfl) _ _ _ (by rfl) w0.heap.size 22 i1 _ 24 Try.underlying23 hj hy0 hy1 hy2 rfl _ 0 0 [] (by rfl) ?_ _ k _ ((P.map V).take k) (by rfl) (len_front hlen0 hq) (rd_front hrd0 ?_) (one_front _ _ (oneV _)) k ?_ ?_ ?_ ?_ ?_
            first | exact Row.of_block #[] 0 (heap_al0 _ _) (Nat.le_refl _) rfl (Nat.zero_le _) | exact Row.of_block #[] 0 (heap_al1 _ _ _) (Nat.le_refl _) rfl (Nat.zero_le _) | exact Row.of_block #[] 0 (heap_al2 _ _ _) (Nat.le_add_right _ _) rfl (Nat.zero_le _)
            (focus (repeat (first | exact Below.refl _ _ | assumption | refine kp_grown ?_ (Nat.le_refl _) hgrow1 (own_ge (Nat.le_refl _)) | refine kp_grown ?_ (Nat.le_refl _) hgrow1 (own_ge (Nat.le_add_right _ _)) | refine kp_grown ?_ (Nat.le_refl _) hgrow2 (row_ge hrow1) | refine kp_grown ?_ (Nat.le_refl _) hgrow3 (row_ge hrow2) | refine kp_alloc _ ?_ (Nat.le_refl _) | apply Below.drew)))
            omega
            omega
            omega
            (refine kp_size (N := w0.heap.size) ?_; focus (repeat (first | exact Below.refl _ _ | assumption | refine kp_grown ?_ (Nat.le_refl _) hgrow1 (own_ge (Nat.le_refl _)) | refine kp_grown ?_ (Nat.le_refl _) hgrow1 (own_ge (Nat.le_add_right _ _)) | refine kp_grown ?_ (Nat.le_refl _) hgrow2 (row_ge hrow1) | refine kp_grown ?_ (Nat.le_refl _) hgrow3 (row_ge hrow2) | refine kp_alloc _ ?_ (Nat.le_refl _) | apply Below.drew)))
            intro A1 c1 w1 hrow1 hgrow1)
         | (refine step_app _ (by rfl) _ _ _ (by rfl) w0.heap.size 22 i1 _ 24 Try.underlying23 hj hy0 hy1 hy2 rfl A1 _ c1 _ ?_ (hrow1.alloc _) ⟨w1.heap.size, 0, none⟩ 1 1 [.slice Az nz cz] ?_ rfl (World.news_of_block (cs := #[.slice Az nz cz]) (t := 22) (fr := (0, 0)) (heap_al0 w1 _)) (oneV [((Az, nz, cz), srt pts)]) (k + 1) ?_ ?_ ?_ ?_ ?_
            rfl
            rfl
            omega
            omega
            omega
            (refine kp_size (N := w0.heap.size) ?_; focus (repeat (first | exact Below.refl _ _ | assumption | refine kp_grown ?_ (Nat.le_refl _) hgrow1 (own_ge (Nat.le_refl _)) | refine kp_grown ?_ (Nat.le_refl _) hgrow1 (own_ge (Nat.le_add_right _ _)) | refine kp_grown ?_ (Nat.le_refl _) hgrow2 (row_ge hrow1) | refine kp_grown ?_ (Nat.le_refl _) hgrow3 (row_ge hrow2) | refine kp_alloc _ ?_ (Nat.le_refl _) | apply Below.drew)))
            intro A2 c2' w2 hrow2 hgrow2)
         | (refine step_app _ (by rfl) _ _ _ (by rfl) w0.heap.size 22 i1 _ 24 Try.underlying23 hj hy0 hy1 hy2 rfl A1 _ c1 _ ?_ (hrow1) ⟨w0.heap.size + 1, 0, none⟩ 1 1 [.slice Az nz cz] ?_ rfl (World.news_of_block (cs := #[.slice Az nz cz]) (t := 22) (fr := (0, 0)) (block_far hgrow1 (heap_al2 _ _ _) (own_ne (Nat.ne_of_gt (Nat.lt_succ_self _))))) (oneV [((Az, nz, cz), srt pts)]) (k + 1) ?_ ?_ ?_ ?_ ?_
            rfl
            rfl
            omega
            omega
            omega
            (refine kp_size (N := w0.heap.size) ?_; focus (repeat (first | exact Below.refl _ _ | assumption | refine kp_grown ?_ (Nat.le_refl _) hgrow1 (own_ge (Nat.le_refl _)) | refine kp_grown ?_ (Nat.le_refl _) hgrow1 (own_ge (Nat.le_add_right _ _)) | refine kp_grown ?_ (Nat.le_refl _) hgrow2 (row_ge hrow1) | refine kp_grown ?_ (Nat.le_refl _) hgrow3 (row_ge hrow2) | refine kp_alloc _ ?_ (Nat.le_refl _) | apply Below.drew)))
            intro A2 c2' w2 hrow2 hgrow2)
         | (refine step_app _ (by rfl) _ _ _ (by rfl) w0.heap.size 22 i1 _ 24 Try.underlying23 hj hy0 hy1 hy2 rfl A1 _ c1 _ ?_ (hrow1) ⟨w0.heap.size, 0, none⟩ 1 1 [.slice Az nz cz] ?_ rfl (World.news_of_block (cs := #[.slice Az nz cz]) (t := 22) (fr := (0, 0)) (block_far hgrow1 (heap_al1 _ _ _) (own_ne (Nat.ne_of_lt (Nat.lt_succ_self _))))) (oneV [((Az, nz, cz), srt pts)]) (k + 1) ?_ ?_ ?_ ?_ ?_
            rfl
            rfl
            omega
            omega
            omega
            (refine kp_size (N := w0.heap.size) ?_; focus (repeat (first | exact Below.refl _ _ | assumption | refine kp_grown ?_ (Nat.le_refl _) hgrow1 (own_ge (Nat.le_refl _)) | refine kp_grown ?_ (Nat.le_refl _) hgrow1 (own_ge (Nat.le_add_right _ _)) | refine kp_grown ?_ (Nat.le_refl _) hgrow2 (row_ge hrow1) | refine kp_grown ?_ (Nat.le_refl _) hgrow3 (row_ge hrow2) | refine kp_alloc _ ?_ (Nat.le_refl _) | apply Below.drew)))
            intro A2 c2' w2 hrow2 hgrow2)
         | (refine step_app _ (by rfl) _ _ _ (by rfl) w0.heap.size 22 i1 _ 24 Try.underlying23 hj hy0 hy1 hy2 rfl A2 _ c2' _ ?_ hrow2 (if c = k then ⟨g, 0, none⟩ else ⟨g, k, none⟩) (n - k) (c - k) ((P.map V).drop k) ?_ (len_back hlen0) (rd_back2 hrd0 ?_) (one_back _ _ (oneV _)) (n + 1) ?_ ?_ ?_ ?_ ?_
            rfl
            exact slice_if
            (focus (repeat (first | exact Below.refl _ _ | assumption | refine kp_grown ?_ (Nat.le_refl _) hgrow1 (own_ge (Nat.le_refl _)) | refine kp_grown ?_ (Nat.le_refl _) hgrow1 (own_ge (Nat.le_add_right _ _)) | refine kp_grown ?_ (Nat.le_refl _) hgrow2 (row_ge hrow1) | refine kp_grown ?_ (Nat.le_refl _) hgrow3 (row_ge hrow2) | refine kp_alloc _ ?_ (Nat.le_refl _) | apply Below.drew)))
            omega
            omega
            omega
            (refine kp_size (N := w0.heap.size) ?_; focus (repeat (first | exact Below.refl _ _ | assumption | refine kp_grown ?_ (Nat.le_refl _) hgrow1 (own_ge (Nat.le_refl _)) | refine kp_grown ?_ (Nat.le_refl _) hgrow1 (own_ge (Nat.le_add_right _ _)) | refine kp_grown ?_ (Nat.le_refl _) hgrow2 (row_ge hrow1) | refine kp_grown ?_ (Nat.le_refl _) hgrow3 (row_ge hrow2) | refine kp_alloc _ ?_ (Nat.le_refl _) | apply Below.drew)))
            intro A3 c3 w3 hrow3 hgrow3))
      all_goals
        have hbe3 : Below w0.heap.size w0 w3 := by focus (repeat (first | exact Below.refl _ _ | assumption | refine kp_grown ?_ (Nat.le_refl _) hgrow1 (own_ge (Nat.le_refl _)) | refine kp_grown ?_ (Nat.le_refl _) hgrow1 (own_ge (Nat.le_add_right _ _)) | refine kp_grown ?_ (Nat.le_refl _) hgrow2 (row_ge hrow1) | refine kp_grown ?_ (Nat.le_refl _) hgrow3 (row_ge hrow2) | refine kp_alloc _ ?_ (Nat.le_refl _) | apply Below.drew))
        have hb3 : Below w.heap.size w w3 := hb0.trans (hbe3.mono hb0.size)
        have hr3 : Row w3 B 22 A3 (n + 1) c3 ((P.take k ++ [((Az, nz, cz), srt pts)] ++ P.drop k).map V) := by
          have h := hrow3.more (Nat.le_trans hB hb0.size)
          rw [List.nil_append, ← List.map_take, ← List.map_drop] at h
          rw [List.map_append, List.map_append]
          exact h
        have hi3 : OwnP w3 B (P.take k ++ [((Az, nz, cz), srt pts)] ++ P.drop k) := by
          intro p hp
          rw [List.mem_append, List.mem_append, List.mem_singleton] at hp
          rcases hp with (hp | rfl) | hp
          · exact (hinP0.below hbe3) p (List.mem_of_mem_take hp)
          · exact (hown0.below hbe3 (Nat.le_refl _)).more hB
          · exact (hinP0.below hbe3) p (List.mem_of_mem_drop hp)
        obtain ⟨g3, _, rfl, _⟩ := hr3.blk (g := 0) (Nat.succ_pos _)
        clear hrow3 hgrow3 hrow2 hgrow2 hrow1 hgrow1 hrow0 hrd0 hbe3 hinP0 hown0 hb0
        generalize (if c = k then some (⟨g, 0, none⟩ : Addr) else some ⟨g, k, none⟩) = tt
        go_wp2_with fail
        go_ret
        refine ⟨g3, _, _, _, rfl, hr3, hi3, ?_, hb3⟩
        rw [Hins.out]
        simp
end Go.Proofs.Ytopmifidhabobaa
