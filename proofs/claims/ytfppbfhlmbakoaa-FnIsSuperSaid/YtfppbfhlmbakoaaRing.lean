/-
  The reference's rings: the least sum over all orders that begin with the first word.
-/
import Derived.Test.YtfppbfhlmbakoaaCov
import Derived.Test.YtfppbfhlmbakoaaShort
namespace Go.Proofs.Ytfppbfhlmbakoaa
open Go.RowKit
set_option linter.unusedVariables false
set_option linter.unusedSimpArgs false

def rngAt (ws : List (List UInt8)) (m f : Nat) (h : List Nat) (s : Int) (i : Nat) : Option Int := if i ∈ h then none else some (rngF ws m f (h ++ [i]) (s + stp ws (h.getD (h.length - 1) 0) i))
theorem rngF_eq (ws : List (List UInt8)) (m f : Nat) (h : List Nat) (s : Int) : rngF ws m (f + 1) h s = (bestTo (rngAt ws m f h s) m).getD (-1) := rfl
theorem bestTo_mem {F : Nat → Option Int} : ∀ {k : Nat} {b : Int}, bestTo F k = some b → ∃ i, i < k ∧ F i = some b := by
  intro k
  induction k with
  | zero => intro b h; cases h
  | succ k ih =>
    intro b h
    rw [bestTo] at h
    split at h
    · obtain ⟨i, hi, he⟩ := ih h
      exact ⟨i, by omega, he⟩
    · next x hx =>
      unfold keepI at h
      injection h with h
      split at h
      · exact ⟨k, by omega, by rw [hx, h]⟩
      · next m hm =>
        split at h
        · exact ⟨k, by omega, by rw [hx, h]⟩
        · obtain ⟨i, hi, he⟩ := ih (hm.trans (by rw [h]))
          exact ⟨i, by omega, he⟩
theorem bestTo_some {F : Nat → Option Int} : ∀ {k : Nat}, (∃ i, i < k ∧ (F i).isSome = true) → ∃ b, bestTo F k = some b := by
  intro k
  induction k with
  | zero => rintro ⟨i, hi, _⟩; omega
  | succ k ih =>
    rintro ⟨i, hi, hs⟩
    rw [bestTo]
    split
    · next hn =>
      refine ih ⟨i, ?_, hs⟩
      rcases Nat.lt_or_ge i k with h | h
      · exact h
      · obtain rfl : i = k := by omega
        rw [hn] at hs
        cases hs
    · exact ⟨_, rfl⟩
theorem free_one {m f : Nat} {h : List Nat} (hn : h.Nodup) (hl : ∀ j ∈ h, j < m) (hf : h.length + (f + 1) = m) : ∃ i, i < m ∧ i ∉ h := by
  apply Decidable.byContradiction
  intro hc
  have : ∀ i, i < m → i ∈ h := fun i hi => Decidable.byContradiction fun hm => hc ⟨i, hi, hm⟩
  have h1 := nodup_sub_perm (List.range m) h.eraseDups
  have h2 : (List.range m).length ≤ h.length := by
    have : ∀ (l : List Nat), l.Nodup → (∀ i ∈ l, i ∈ h) → l.length ≤ h.length := fun l hl hs => hl.length_le_of_subset hs
    exact this _ List.nodup_range (fun i hi => by simp at hi; exact ‹∀ i, i < m → i ∈ h› i hi)
  simp at h2
  omega
theorem rngF_range (ws : List (List UInt8)) (m f : Nat) (hB : ∀ i, (wd ws i).length ≤ 6) : ∀ (h : List Nat) (s : Int), h.Nodup → (∀ j ∈ h, j < m) → h.length + f = m → s ≤ rngF ws m f h s ∧ rngF ws m f h s ≤ s + 6 * ((f : Int) + 1) := by
  have hst : ∀ i j, 0 ≤ stp ws i j ∧ stp ws i j ≤ 6 := fun i j => ⟨stp_nonneg ws i j, by have := stp_le ws i j; have := hB i; omega⟩
  induction f with
  | zero =>
    intro h s _ _ _
    rw [rngF]
    have := hst (h.getD (h.length - 1) 0) (h.getD 0 0)
    omega
  | succ f ih =>
    intro h s hn hl hf
    obtain ⟨i, hi, hm⟩ := free_one hn hl hf
    obtain ⟨b, hb⟩ := bestTo_some (F := rngAt ws m f h s) (k := m) ⟨i, hi, by simp [rngAt, hm]⟩
    obtain ⟨j, hj, hF⟩ := bestTo_mem hb
    rw [rngF_eq, hb]
    unfold rngAt at hF
    split at hF
    · cases hF
    · next hmj =>
      injection hF with hF
      obtain ⟨a1, a2, a3⟩ := ord_snoc_ok hn hl hf hj hmj
      have h1 := ih (h ++ [j]) (s + stp ws (h.getD (h.length - 1) 0) j) a1 a2 a3
      have h2 := hst (h.getD (h.length - 1) 0) j
      rw [hF] at h1
      simp only [Option.getD_some]
      omega
set_option maxRecDepth 8000 in
set_option maxHeartbeats 6400000 in
theorem ringFrom_any (A : Option Addr) (m c : Nat) (ws : List (List UInt8)) (hB : ∀ i, (wd ws i).length ≤ 6) (hm : m ≤ 6) (f : Nat) :
    ∀ (h : List Nat) (g k c2 : Nat) (s : Int) (w : World), Rd w w.heap.size A m c (ws.map S) → Rd w w.heap.size (some ⟨g, 0, none⟩) k c2 (h.map NI) → h ≠ [] → h.Nodup → (∀ j ∈ h, j < m) → h.length + f = m → 0 ≤ s → s ≤ 1000 - 6 * (f : Int) →
    Calls Try.prog 38 #[.slice A m c, .slice (some ⟨g, 0, none⟩) k c2, .int .i64 s] w (RetVal w (.int .i64 (rngF ws m f h s))) := by
  induction f with
  | zero =>
    intro h g k c2 s w hr hr2 hne hn hl hf hs0 hs1
    have hmm := hr.2.2.1
    have hnc := hr.2.1
    have hm2 := hr2.2.2.1
    have hnc2 := hr2.2.1
    unfold maxLen at hmm hm2
    have hk : h.length = k := by have := hr2.1; simpa using this
    obtain rfl : k = m := by omega
    have hk1 : 1 ≤ k := by have := List.length_pos_iff.2 hne; omega
    have ca := hr2.nat_at' (show k - 1 < k by omega)
    have cb := hr2.nat_at' (show 0 < k by omega)
    have hgl : ∀ j, j < k → h.getD j 0 < k := fun j hj => by
      rw [List.getD_eq_getElem?_getD, List.getElem?_eq_getElem (by omega)]
      exact hl _ (List.getElem_mem (by omega))
    have hia := hgl (k - 1) (by omega)
    have hib := hgl 0 (by omega)
    have hv := show rngF ws k 0 h s = s + stp ws (h.getD (k - 1) 0) (h.getD 0 0) by rw [rngF, hk]
    obtain ⟨p, hp⟩ : ∃ p, p = h.getD (k - 1) 0 := ⟨_, rfl⟩
    obtain ⟨q, hq⟩ : ∃ q, q = h.getD 0 0 := ⟨_, rfl⟩
    rw [← hp] at ca hia hv
    rw [← hq] at cb hib hv
    rw [Nat.zero_add] at ca cb
    obtain ⟨b, off, y, rfl, _, hy, hcy⟩ := hr.str hia
    obtain ⟨z, hz, hcz⟩ := hr.str_at hib
    have hy6 : y.length ≤ 6 := by have := hB p; rwa [wd_at hy] at this
    have hz6 : z.length ≤ 6 := by have := hB q; rwa [wd_at hz] at this
    have hO := fun w' => specOverlap_any y z w' (by omega) (by omega)
    have ho1 := ovl_le_left y z
    have Hv := Lib.hid (show rngF ws k 0 h s = s + (y.length : Int) - (ovl y z : Nat) by rw [hv]; unfold stp; rw [wd_at hy, wd_at hz]; omega)
    obtain ⟨t, ht⟩ : ∃ t, t = ovl y z := ⟨_, rfl⟩
    rw [← ht] at hO ho1 Hv
    have e1 : ((k : Int) == (k : Int)) = true := by simp
    have g1 : IntKind.i64.wrap (s + (y.length : Int)) = s + (y.length : Int) := by rw [IntKind.wrap_i64]; omega
    have g2 : IntKind.i64.wrap (s + (y.length : Int) - (t : Int)) = s + (y.length : Int) - (t : Int) := by rw [IntKind.wrap_i64]; omega
    have p0 : (0 : Int) ≤ (p : Int) := by omega
    have p1 : (p : Int) < (k : Int) := by omega
    have q0 : (0 : Int) ≤ (q : Int) := by omega
    have q1 : (q : Int) < (k : Int) := by omega
    have k1 : (0 : Int) < (k : Int) := by omega
    clear hp hq hv ht hy hz hgl hk hf hl hn
    go_enter Try.func38, Try.ntmps38
    go_wp2_with fail
    go_quiet ((go_at_call 62; exact Calls.quiet_of (hO _)))
    go_wp2_with fail
    go_ret
    exact ⟨ret_int Hv.out.symm, (Quiet.refl _).bel _ |>.trans ((Quiet.drewN (Quiet.refl _) _).bel _)⟩
  | succ f ih =>
    intro h g k c2 s w hr hr2 hne hn hl hf hs0 hs1
    have hmm := hr.2.2.1
    have hnc := hr.2.1
    have hm2 := hr2.2.2.1
    have hnc2 := hr2.2.1
    unfold maxLen at hmm hm2
    have hk : h.length = k := by have := hr2.1; simpa using this
    have hk1 : 1 ≤ k := by have := List.length_pos_iff.2 hne; omega
    have hkm : k < m := by omega
    have hgl : h.getD (k - 1) 0 < m := by
      rw [List.getD_eq_getElem?_getD, List.getElem?_eq_getElem (by omega)]
      exact hl _ (List.getElem_mem (by omega))
    have ca := hr2.nat_at' (show k - 1 < k by omega)
    rw [Nat.zero_add] at ca
    rw [rngF_eq]
    obtain ⟨p, hp⟩ : ∃ p, p = h.getD (k - 1) 0 := ⟨_, rfl⟩
    rw [← hp] at ca hgl
    have Hp := Lib.hid (show h.getD (h.length - 1) 0 = p by rw [hk, hp])
    have e1 : ((k : Int) == (m : Int)) = false := by simp; omega
    obtain ⟨i0, hi, hz0, hz1, hz2⟩ := info_parts Try.infoI
    have Hn := Lib.hid hn
    have Hl := Lib.hid hl
    have Hf := Lib.hid hf
    have Hk := Lib.hid hk
    have hge : ∀ i b, rngAt ws m f h s i = some b → i < m → s ≤ b := fun i b hb him => by
      unfold rngAt at hb
      split at hb
      · cases hb
      · next hm' =>
        injection hb with hb
        obtain ⟨a1, a2, a3⟩ := ord_snoc_ok hn hl hf him hm'
        have h1 := (rngF_range ws m f hB _ (s + stp ws (h.getD (h.length - 1) 0) i) a1 a2 a3).1
        have h2 := stp_nonneg ws (h.getD (h.length - 1) 0) i
        omega
    have Hnn := Lib.hid (show ∀ k, k ≤ m → ∀ b, bestTo (rngAt ws m f h s) k = some b → 0 ≤ b from fun k hk b hb => by
      obtain ⟨i, hi, he⟩ := bestTo_mem hb
      have := hge i b he (by omega)
      omega)
    clear hn hl hf hk hp hge hne
    go_enter Try.func38, Try.ntmps38
    go_wp2_with fail
    go_loopw [9, 10] (fun b i wr => ∃ j : Nat, j ≤ m ∧ i = .int .i64 j ∧ b = .int .i64 ((bestTo (rngAt ws m f h s) j).getD (-1)) ∧ Below w.heap.size w wr) (fun _ i _ => m - (intOf i).toNat)
    case atStart => exact ⟨0, Nat.zero_le _, rfl, rfl, Below.refl _ _⟩
    case round =>
      obtain ⟨j, hj, rfl, rfl, hbw⟩ := hrel
      have hsz := hbw.size
      by_cases hlt : j < m
      · have hlt' : (j : Int) < (m : Int) := by omega
        have hrb := hr.below hbw
        have hrb2 := hr2.below hbw
        rw [NI_I] at hrb2
        have hH := hasInt_any _ _ _ _ (j : Int) wr _ hrb2
        by_cases hmem : j ∈ h
        · have e2 : decide ((j : Int) ∈ h.map fun i : Nat => (i : Int)) = true := decide_eq_true (List.mem_map.2 ⟨j, hmem, rfl⟩)
          rw [e2] at hH
          have Hst := Lib.hid (bestTo_skip (F := rngAt ws m f h s) (k := j) (if_pos hmem))
          clear e2 hmem hrb2
          go_wp2_with fail
          refine hH.mono ?_
          rintro e w' ⟨rfl, rfl⟩
          clear hH
          go_wp2_with fail
          go_roundw
          case rel => exact ⟨j + 1, by omega, by go_num, by rw [Hst.out], hbw⟩
          case measure => simp [intOf]; omega
        · have e2 : decide ((j : Int) ∈ h.map fun i : Nat => (i : Int)) = false := by
            rw [decide_eq_false_iff_not, List.mem_map]
            rintro ⟨a, ha, hka⟩
            exact hmem (by rwa [show a = j by omega] at ha)
          rw [e2] at hH
          obtain ⟨a1, a2, a3⟩ := ord_snoc_ok Hn.out Hl.out Hf.out hlt hmem
          obtain ⟨b, off, y, rfl, hbN0, hy, hcy⟩ := hrb.str hgl
          obtain ⟨z, hz, hcz⟩ := hrb.str_at hlt
          have hy6 : y.length ≤ 6 := by have := hB p; rwa [wd_at hy] at this
          have hz6 : z.length ≤ 6 := by have := hB j; rwa [wd_at hz] at this
          have hO := fun w' => specOverlap_any y z w' (by omega) (by omega)
          have ho1 := ovl_le_left y z
          have hsv : stp ws p j = (y.length : Int) - (ovl y z : Nat) := by unfold stp; rw [wd_at hy, wd_at hz]
          obtain ⟨t, ht⟩ : ∃ t, t = ovl y z := ⟨_, rfl⟩
          rw [← ht] at hO ho1 hsv
          have hI := fun g2 k2 c3 W h1 h2 => ih (h ++ [j]) g2 k2 c3 (s + (y.length : Int) - (t : Int)) W h1 h2 (by simp) a1 a2 a3 (by omega) (by omega)
          have Hst := Lib.hid (bestTo_take (F := rngAt ws m f h s) (k := j) (if_neg hmem))
          rw [Hp.out, hsv, show s + ((y.length : Int) - (t : Int)) = s + (y.length : Int) - (t : Int) by omega] at Hst
          have hx0 := (rngF_range ws m f hB (h ++ [j]) (s + (y.length : Int) - (t : Int)) a1 a2 a3).1
          obtain ⟨x, hx⟩ : ∃ x, x = rngF ws m f (h ++ [j]) (s + (y.length : Int) - (t : Int)) := ⟨_, rfl⟩
          rw [← hx] at hI Hst hx0
          have g1 : IntKind.i64.wrap (s + (y.length : Int)) = s + (y.length : Int) := by rw [IntKind.wrap_i64]; omega
          have g2 : IntKind.i64.wrap (s + (y.length : Int) - (t : Int)) = s + (y.length : Int) - (t : Int) := by rw [IntKind.wrap_i64]; omega
          have p0 : (0 : Int) ≤ (p : Int) := by omega
          have p1 : (p : Int) < (m : Int) := by omega
          have j0 : (0 : Int) ≤ (j : Int) := by omega
          clear hx a1 a2 a3 e2 hmem ht hsv hy hz
          go_wp2_with fail
          refine hH.mono ?_
          rintro e w' ⟨rfl, hww⟩
          obtain rfl : wr = w' := hww.symm
          clear hH hww
          have hbN : (⟨b, off + p, none⟩ : Addr).block < wr.heap.size := by show b < wr.heap.size; omega
          obtain ⟨hs, hhs⟩ : ∃ hs, hs = h.map fun i : Nat => (i : Int) := ⟨_, rfl⟩
          rw [← hhs] at hrb2
          have hlenh : (hs.map I).length = k := hrb2.1
          have hrdh : Rd wr wr.heap.size (some ⟨g, 0, none⟩) k c2 (hs.map I) := hrb2.more hsz
          have Hhs := Lib.hid hhs
          have Hlist := Lib.hid (show (h ++ [j]).map NI = [] ++ hs.map I ++ [.int .i64 j] by rw [hhs, List.map_append, NI_I h]; rfl)
          have hrA : Rd wr wr.heap.size (some ⟨b, off, none⟩) m c (ws.map S) := hrb.more hsz
          clear hhs hrb hrb2 ih
          go_wp2_with fail
          go_region_held3 (fun w' => w'.cell? ⟨b, off + p, none⟩ = some (.string ⟨y.toArray⟩) ∧ w'.cell? ⟨b, off + j, none⟩ = some (.string ⟨z.toArray⟩) ∧ Below wr.heap.size wr w')
            ((refine kp_two hcy hbN hcz hbN ?_; focus (repeat (first | exact Below.refl _ _ | assumption | refine kp_grown ?_ (Nat.le_refl _) hgrow1 (own_ge (Nat.le_refl _)) | refine kp_grown ?_ (Nat.le_refl _) hgrow1 (own_ge (Nat.le_add_right _ _)) | refine kp_grown ?_ (Nat.le_refl _) hgrow2 (row_ge hrow1) | refine kp_alloc _ ?_ (Nat.le_refl _) | apply Below.drew | apply bel_drewN))))
            (first
            | (refine step_app _ (by rfl) _ _ _ (by rfl) wr.heap.size 3 i0 _ 8 Try.underlying39 hi hz0 hz1 hz2 rfl _ 0 0 [] (by rfl) ?_ ⟨g, 0, none⟩ k c2 (hs.map I) (by rfl) hlenh (rd_news (Rd.below hrdh ?_)) (oneIs _) k ?_ ?_ ?_ ?_ ?_
               first | exact Row.of_block #[] 0 (heap_al0 _ _) (Nat.le_refl _) rfl (Nat.zero_le _) | exact Row.of_block #[] 0 (heap_al1 _ _ _) (Nat.le_refl _) rfl (Nat.zero_le _) | exact Row.of_block #[] 0 (heap_al2 _ _ _) (Nat.le_add_right _ _) rfl (Nat.zero_le _)
               (focus (repeat (first | exact Below.refl _ _ | assumption | refine kp_grown ?_ (Nat.le_refl _) hgrow1 (own_ge (Nat.le_refl _)) | refine kp_grown ?_ (Nat.le_refl _) hgrow1 (own_ge (Nat.le_add_right _ _)) | refine kp_grown ?_ (Nat.le_refl _) hgrow2 (row_ge hrow1) | refine kp_alloc _ ?_ (Nat.le_refl _) | apply Below.drew | apply bel_drewN)))
               omega
               omega
               omega
               (refine kp_size (N := wr.heap.size) ?_; focus (repeat (first | exact Below.refl _ _ | assumption | refine kp_grown ?_ (Nat.le_refl _) hgrow1 (own_ge (Nat.le_refl _)) | refine kp_grown ?_ (Nat.le_refl _) hgrow1 (own_ge (Nat.le_add_right _ _)) | refine kp_grown ?_ (Nat.le_refl _) hgrow2 (row_ge hrow1) | refine kp_alloc _ ?_ (Nat.le_refl _) | apply Below.drew | apply bel_drewN)))
               intro A1 c3 w1 hrow1 hgrow1)
            | (refine step_app _ (by rfl) _ _ _ (by rfl) wr.heap.size 3 i0 _ 8 Try.underlying39 hi hz0 hz1 hz2 rfl A1 _ c3 _ ?_ (hrow1.alloc _) ⟨w1.heap.size, 0, none⟩ 1 1 [.int .i64 j] ?_ rfl (World.news_of_block (cs := #[.int .i64 j]) (t := 3) (fr := (0, 0)) (heap_al0 w1 _)) (by simp [Value.oneCell']) (k + 1) ?_ ?_ ?_ ?_ ?_
               rfl
               rfl
               omega
               omega
               omega
               (refine kp_size (N := wr.heap.size) ?_; focus (repeat (first | exact Below.refl _ _ | assumption | refine kp_grown ?_ (Nat.le_refl _) hgrow1 (own_ge (Nat.le_refl _)) | refine kp_grown ?_ (Nat.le_refl _) hgrow1 (own_ge (Nat.le_add_right _ _)) | refine kp_grown ?_ (Nat.le_refl _) hgrow2 (row_ge hrow1) | refine kp_alloc _ ?_ (Nat.le_refl _) | apply Below.drew | apply bel_drewN)))
               intro A2 c4 w2 hrow2 hgrow2
               obtain ⟨g3, rfl⟩ := row_some hrow2)
            | (refine step_app _ (by rfl) _ _ _ (by rfl) wr.heap.size 3 i0 _ 8 Try.underlying39 hi hz0 hz1 hz2 rfl A1 _ c3 _ ?_ (hrow1) ⟨wr.heap.size + 1, 0, none⟩ 1 1 [.int .i64 j] ?_ rfl (World.news_of_block (cs := #[.int .i64 j]) (t := 3) (fr := (0, 0)) (block_far hgrow1 (heap_al2 _ _ _) (own_ne (Nat.ne_of_gt (Nat.lt_succ_self _))))) (by simp [Value.oneCell']) (k + 1) ?_ ?_ ?_ ?_ ?_
               rfl
               rfl
               omega
               omega
               omega
               (refine kp_size (N := wr.heap.size) ?_; focus (repeat (first | exact Below.refl _ _ | assumption | refine kp_grown ?_ (Nat.le_refl _) hgrow1 (own_ge (Nat.le_refl _)) | refine kp_grown ?_ (Nat.le_refl _) hgrow1 (own_ge (Nat.le_add_right _ _)) | refine kp_grown ?_ (Nat.le_refl _) hgrow2 (row_ge hrow1) | refine kp_alloc _ ?_ (Nat.le_refl _) | apply Below.drew | apply bel_drewN)))
               intro A2 c4 w2 hrow2 hgrow2
               obtain ⟨g3, rfl⟩ := row_some hrow2)
            | (refine step_app _ (by rfl) _ _ _ (by rfl) wr.heap.size 3 i0 _ 8 Try.underlying39 hi hz0 hz1 hz2 rfl A1 _ c3 _ ?_ (hrow1) ⟨wr.heap.size, 0, none⟩ 1 1 [.int .i64 j] ?_ rfl (World.news_of_block (cs := #[.int .i64 j]) (t := 3) (fr := (0, 0)) (block_far hgrow1 (heap_al1 _ _ _) (own_ne (Nat.ne_of_lt (Nat.lt_succ_self _))))) (by simp [Value.oneCell']) (k + 1) ?_ ?_ ?_ ?_ ?_
               rfl
               rfl
               omega
               omega
               omega
               (refine kp_size (N := wr.heap.size) ?_; focus (repeat (first | exact Below.refl _ _ | assumption | refine kp_grown ?_ (Nat.le_refl _) hgrow1 (own_ge (Nat.le_refl _)) | refine kp_grown ?_ (Nat.le_refl _) hgrow1 (own_ge (Nat.le_add_right _ _)) | refine kp_grown ?_ (Nat.le_refl _) hgrow2 (row_ge hrow1) | refine kp_alloc _ ?_ (Nat.le_refl _) | apply Below.drew | apply bel_drewN)))
               intro A2 c4 w2 hrow2 hgrow2
               obtain ⟨g3, rfl⟩ := row_some hrow2)
            | (go_at_call 62; refine (hO _).mono ?_; rintro e w'' ⟨rfl, q5, rfl⟩)
            | (go_at_call 38
               refine Calls.mono (hI g3 (k + 1) c4 _ (Rd.more (Rd.below hrA ?_) ?_) ?_) ?_
               (focus (repeat (first | exact Below.refl _ _ | assumption | refine kp_grown ?_ (Nat.le_refl _) hgrow1 (own_ge (Nat.le_refl _)) | refine kp_grown ?_ (Nat.le_refl _) hgrow1 (own_ge (Nat.le_add_right _ _)) | refine kp_grown ?_ (Nat.le_refl _) hgrow2 (row_ge hrow1) | refine kp_alloc _ ?_ (Nat.le_refl _) | apply Below.drew | apply bel_drewN)))
               (refine kp_size (N := wr.heap.size) ?_; focus (repeat (first | exact Below.refl _ _ | assumption | refine kp_grown ?_ (Nat.le_refl _) hgrow1 (own_ge (Nat.le_refl _)) | refine kp_grown ?_ (Nat.le_refl _) hgrow1 (own_ge (Nat.le_add_right _ _)) | refine kp_grown ?_ (Nat.le_refl _) hgrow2 (row_ge hrow1) | refine kp_alloc _ ?_ (Nat.le_refl _) | apply Below.drew | apply bel_drewN)))
               (rw [Hlist.out]; exact (Row.quiet hrow2 ⟨_, rfl⟩).rd)
               rintro e w5 ⟨rfl, hb5⟩
               have hB5 : Below wr.heap.size wr w5 := by
                 refine Below.trans ?_ (hb5.mono ?_)
                 (focus (repeat (first | exact Below.refl _ _ | assumption | refine kp_grown ?_ (Nat.le_refl _) hgrow1 (own_ge (Nat.le_refl _)) | refine kp_grown ?_ (Nat.le_refl _) hgrow1 (own_ge (Nat.le_add_right _ _)) | refine kp_grown ?_ (Nat.le_refl _) hgrow2 (row_ge hrow1) | refine kp_alloc _ ?_ (Nat.le_refl _) | apply Below.drew | apply bel_drewN)))
                 (refine kp_size (N := wr.heap.size) ?_; focus (repeat (first | exact Below.refl _ _ | assumption | refine kp_grown ?_ (Nat.le_refl _) hgrow1 (own_ge (Nat.le_refl _)) | refine kp_grown ?_ (Nat.le_refl _) hgrow1 (own_ge (Nat.le_add_right _ _)) | refine kp_grown ?_ (Nat.le_refl _) hgrow2 (row_ge hrow1) | refine kp_alloc _ ?_ (Nat.le_refl _) | apply Below.drew | apply bel_drewN)))))
          all_goals
            have hbw5 : Below w.heap.size w w5 := hbw.trans (hB5.mono hsz)
            clear hrow1 hrow2 hgrow1 hgrow2 hb5 hB5 hrA hrdh g1 g2 hO hI
            have hbn := Hnn.out j (by omega)
            cases hbk : bestTo (rngAt ws m f h s) j with
            | none =>
              have Hfin := Lib.hid (show (bestTo (rngAt ws m f h s) (j + 1)).getD (-1) = x by rw [Hst.out, hbk]; rfl)
              clear hbk hbn
              have e3 : ((none : Option Int).getD (-1)) = -1 := rfl
              simp only [e3]
              go_wp2_with fail
              go_roundw
              case rel => exact ⟨j + 1, by omega, by go_num, by rw [Hfin.out], hbw5⟩
              case measure => simp [intOf]; omega
            | some b0 =>
              have hb0 := hbn b0 hbk
              have e3 : ((some b0 : Option Int).getD (-1)) = b0 := rfl
              simp only [e3]
              by_cases hxb : x < b0
              · have Hfin := Lib.hid (show (bestTo (rngAt ws m f h s) (j + 1)).getD (-1) = x by rw [Hst.out, hbk]; unfold keepI; simp [hxb])
                have hnb : ¬ b0 < 0 := by omega
                clear hbk hbn e3
                go_wp2_with fail
                go_roundw
                case rel => exact ⟨j + 1, by omega, by go_num, by rw [Hfin.out], hbw5⟩
                case measure => simp [intOf]; omega
              · have Hfin := Lib.hid (show (bestTo (rngAt ws m f h s) (j + 1)).getD (-1) = b0 by rw [Hst.out, hbk]; unfold keepI; simp [hxb])
                have hnb : ¬ b0 < 0 := by omega
                clear hbk hbn e3
                go_wp2_with fail
                go_roundw
                case rel => exact ⟨j + 1, by omega, by go_num, by rw [Hfin.out], hbw5⟩
                case measure => simp [intOf]; omega
      · obtain rfl : j = m := by omega
        have hlt' : ¬ (j : Int) < (j : Int) := by omega
        go_wp2_with fail
        go_ret
        exact ⟨rfl, hbw⟩
theorem WY_ring (ws : List (List UInt8)) : WY ws bhR = if vw ws then (if red ws = [] then 0 else rngF (red ws) (red ws).length ((red ws).length - 1) [0] 0) else -1 := by
  unfold WY
  split
  · split
    · next h => rw [h]; rfl
    · next h =>
      have hl : 1 ≤ (red ws).length := by have := List.length_pos_iff.2 h; omega
      obtain ⟨n, hn⟩ : ∃ n, (red ws).length = n + 1 := ⟨(red ws).length - 1, by omega⟩
      rw [hn]
      refine keptI_least (ring_least (red ws) n ?_)
      have := rngF_least (red ws) (n + 1) n [0] (by simp) (by simp) (by simp) (by simp; omega)
      exact this
  · rfl
set_option maxHeartbeats 1600000 in
theorem specRingLength_any (A : Option Addr) (n c : Nat) (ws : List (List UInt8)) (w : World) (hr : Rd w w.heap.size A n c (ws.map S)) (hl : Len47 ws) :
    Calls Try.prog 17 #[.slice A n c] w (RetVal w (.int .i64 (WY ws bhR))) := by
  have Hn := Lib.hid hr.slen
  cases hv : vw ws with
  | false =>
    have HV := Lib.hid hv
    clear hv
    go_enter Try.func17, Try.ntmps17
    go_wp2_with fail
    refine (validWords_any A n c ws w _ hr hl).mono ?_
    rintro e w1 ⟨rfl, rfl⟩
    rw [HV.out]
    go_wp2_with fail
    go_ret
    exact ⟨ret_int (by unfold WY; rw [HV.out]; rfl), Below.refl _ _⟩
  | true =>
    have h6 := vw_len hv
    rw [Hn.out] at h6
    have hB : ∀ i, (wd (red ws) i).length ≤ 6 := fun i => by
      unfold wd
      rw [List.getD_eq_getElem?_getD]
      cases h : (red ws)[i]? with
      | none => simp
      | some y => exact (wOk_len (vw_all' hv y (red_mem (List.mem_of_getElem? h)))).2
    have HV := Lib.hid hv
    clear hv
    go_enter Try.func17, Try.ntmps17
    go_wp2_with fail
    refine (validWords_any A n c ws w _ hr hl).mono ?_
    rintro e w1 ⟨rfl, rfl⟩
    rw [HV.out]
    go_wp2_with fail
    refine (reduce_any A n c ws _ hr hl (by omega)).mono ?_
    rintro e w2 ⟨A2, m, c2, rfl, ho, hb⟩
    have hm : (red ws).length = m := by have := ho.1; simpa using this
    have hm6 : m ≤ 6 := by rw [← hm]; have := redTo_le ws ws.length; unfold red; have := Hn.out; omega
    rcases Nat.eq_zero_or_pos m with h0 | h0
    · subst h0
      have Hred := Lib.hid (List.eq_nil_of_length_eq_zero hm)
      clear hm
      have e0 : (((0 : Nat) : Int) == 0) = true := rfl
      go_wp2_with fail
      go_ret
      exact ⟨ret_int (by rw [WY_ring, HV.out, if_pos rfl, if_pos Hred.out]), hb⟩
    · have hC := fun W h1 h2 => ringFrom_any A2 m c2 (red ws) hB hm6 (m - 1) [0] w2.heap.size 1 1 0 W h1 h2 (by simp) (by simp) (by simp; omega) (by simp; omega) (by omega) (by omega)
      have Hm := Lib.hid hm
      have e0 : ((m : Int) == 0) = false := by simp; omega
      have hne : red ws ≠ [] := by intro h; rw [h] at hm; simp at hm; omega
      have Hv := Lib.hid (show WY ws bhR = rngF (red ws) m (m - 1) [0] 0 by rw [WY_ring, HV.out, if_pos rfl, if_neg hne, hm])
      clear hm hne
      go_wp2_with fail
      refine (hC _ ((ho.rd.alloc (Nat.le_refl _) _).more (by simp)) ⟨rfl, Nat.le_refl _, by unfold maxLen; omega, fun _ => ⟨_, _, rfl, by simp, fun q u hu => ?_⟩⟩).mono ?_
      · rw [Nat.zero_add, cell_of_row _ _ q _ _ (0, 0) (heap_al0 _ _)]
        simpa [NI] using hu
      rintro e w3 ⟨rfl, hb3⟩
      go_wp2_with fail
      go_ret
      exact ⟨ret_int Hv.out.symm, (hb.alloc hb.size _).trans (hb3.mono (by have := hb.size; simp; omega))⟩
end Go.Proofs.Ytfppbfhlmbakoaa
