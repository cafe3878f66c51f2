/-
  The law of AreTwins: what is drawn answers as it says.
-/
import Derived.Test.YtopmifidhabobaaLawPlaces
namespace Go.Proofs.Ytopmifidhabobaa
set_option linter.unusedVariables false
set_option linter.unusedSimpArgs false

/-- The distances of further points, one after the other, to those that are there. -/
def cr : List Int → List Int → List Int
  | _, [] => []
  | A, b :: B => gaps b A ++ cr (A ++ [b]) B
theorem apd_cr : ∀ (B A : List Int), (apd (A ++ B)).Perm (apd A ++ cr A B) := by
  intro B
  induction B with
  | nil => intro A; simp [cr]
  | cons b B ih =>
    intro A
    have h := ih (A ++ [b])
    rw [List.append_assoc, List.singleton_append] at h
    refine h.trans ?_
    rw [cr, ← List.append_assoc]
    exact (apd_snoc A b).append_right _
theorem gaps_mem {x p : Int} {pts : List Int} (h : p ∈ pts) : max (x - p) (p - x) ∈ gaps x pts := List.mem_map_of_mem h
theorem cr_has : ∀ (B A : List Int) {u v : Int}, u ∈ B → v ∈ A → max (u - v) (v - u) ∈ cr A B := by
  intro B
  induction B with
  | nil => intro A u v hu; cases hu
  | cons b B ih =>
    intro A u v hu hv
    rw [cr, List.mem_append]
    rw [List.mem_cons] at hu
    rcases hu with rfl | hu
    · exact .inl (gaps_mem hv)
    · exact .inr (ih (A ++ [b]) hu (by simp [hv]))
theorem cr_of : ∀ (B A : List Int) {L : Int}, (A ++ B).Nodup → L ∈ cr A B → ∃ u v, u ∈ B ∧ v ∈ A ++ B ∧ u ≠ v ∧ L = max (u - v) (v - u) := by
  intro B
  induction B with
  | nil => intro A L _ h; cases h
  | cons b B ih =>
    intro A L hn h
    rw [cr, List.mem_append] at h
    rcases h with h | h
    · unfold gaps at h
      obtain ⟨p, hp, rfl⟩ := List.mem_map.1 h
      rw [List.nodup_append] at hn
      exact ⟨b, p, by simp, by simp [hp], fun e => hn.2.2 p hp b (by simp) e.symm, rfl⟩
    · obtain ⟨u, v, h1, h2, h3, h4⟩ := ih (A ++ [b]) (by simpa using hn) h
      exact ⟨u, v, by simp [h1], by simpa using h2, h3, h4⟩
theorem wo_of_perm : ∀ (gs : List Int) {L r : List Int}, L.Perm (gs ++ r) → ∃ r', wo L gs = some r' := by
  intro gs
  induction gs with
  | nil => intro L r _; exact ⟨L, by rw [wo]⟩
  | cons g gs ih =>
    intro L r h
    have hg : g ∈ L := h.mem_iff.2 (by simp)
    rw [wo, if_pos hg]
    have h1 := (List.perm_cons_erase hg).symm.trans h
    rw [List.cons_append] at h1
    exact ih ((List.perm_cons g).1 h1)
theorem lvS_all (top : Int) (f : Nat) : ∀ pts left m : List Int, Got top pts left → (apd pts ++ left).Perm (apd (pts ++ m)) → (∀ x ∈ m, 0 ≤ x ∧ x ≤ top) → (pts ++ m).Nodup → m.length ≤ f → srt (pts ++ m) ∈ lvS f top pts left := by
  have hleft : ∀ pts left m : List Int, (apd pts ++ left).Perm (apd (pts ++ m)) → left.Perm (cr pts m) := fun pts left m h =>
    (List.perm_append_left_iff _).1 (h.trans (apd_cr m pts))
  have hnil : ∀ pts left m : List Int, Got top pts left → (apd pts ++ left).Perm (apd (pts ++ m)) → left = [] → m = [] := by
    intro pts left m hg h he
    cases m with
    | nil => rfl
    | cons b m =>
      have h1 := (hleft _ _ _ h).mem_iff.2 (cr_has (b :: m) pts (u := b) (by simp) hg.zero)
      rw [he] at h1
      cases h1
  induction f with
  | zero =>
    intro pts left m hg h _ _ hm
    obtain rfl := List.eq_nil_of_length_eq_zero (show m.length = 0 by omega)
    have h1 := hleft _ _ _ h
    rw [cr] at h1
    rw [lvS, if_pos h1.eq_nil]
    simp
  | succ f ih =>
    intro pts left m hg h hin hnd hm
    rw [lvS]
    split
    · next he =>
      rw [hnil _ _ _ hg h he]
      simp
    · next hne =>
      have hp := hleft _ _ _ h
      have hL := last_mem hne
      obtain ⟨L, hLe⟩ : ∃ L, L = left.getLastD 0 := ⟨_, rfl⟩
      rw [← hLe] at hL ⊢
      have hmax : ∀ x ∈ left, x ≤ L := fun x hx => by
        have := le_last hg.srt_ x hx
        unfold topOf at this
        omega
      obtain ⟨u, v, hu, hv, _, hLu⟩ := cr_of m pts hnd (hp.mem_iff.1 hL)
      have h1 := hmax _ (hp.mem_iff.2 (cr_has m pts hu hg.zero))
      have h2 := hmax _ (hp.mem_iff.2 (cr_has m pts hu hg.top_))
      have hu1 := hin u hu
      have hv1 : 0 ≤ v ∧ v ≤ top := (List.mem_append.1 hv).elim (fun h => hg.all v h) (fun h => hin v h)
      have hx : u = L ∨ u = top - L := by omega
      have key : srt (pts ++ m) ∈ tryS (lvS f top) pts left u := by
        have hm1 := List.perm_cons_erase hu
        have hm2 : (pts ++ m).Perm ((pts ++ [u]) ++ m.erase u) := by
          rw [List.append_assoc, List.singleton_append]
          exact hm1.append_left pts
        have h3 : left.Perm (gaps u pts ++ cr (pts ++ [u]) (m.erase u)) := by
          refine (List.perm_append_left_iff (apd pts)).1 ?_
          refine (h.trans ((apd_perm hm2).trans (apd_cr _ _))).trans ?_
          rw [← List.append_assoc]
          exact (apd_snoc pts u).append_right _
        obtain ⟨r, hw⟩ := wo_of_perm _ h3
        unfold tryS
        rw [hw]
        dsimp only
        rw [srt_of_perm hm2]
        refine ih _ _ _ (hg.step hu1 hw) ?_ (fun x hx => hin x (List.mem_of_mem_erase hx)) (hm2.nodup_iff.1 hnd) (by rw [List.length_erase_of_mem hu]; omega)
        refine List.Perm.trans ?_ (h.trans (apd_perm hm2))
        refine ((apd_snoc pts u).append_right r).trans ?_
        rw [List.append_assoc]
        exact List.Perm.append_left _ (List.perm_append_comm.trans (wo_some hw).symm)
      rw [List.mem_append]
      rcases hx with rfl | hx
      · exact .inl key
      · by_cases he : L = top - L
        · rw [hx, ← he] at key
          exact .inl key
        · rw [if_neg he, ← hx]
          exact .inr key
theorem dsr_apd {a : List Int} (h : vp a = true) : (dsr a).Perm (apd a) :=
  (srt_perm _).trans (dst_apd (((vp_iff a).1 h).2.2.2.imp (fun {x y} h => by omega)))
theorem vp_nodup {a : List Int} (h : vp a = true) : a.Nodup := ((vp_iff a).1 h).2.2.2.imp (fun {x y} h => by omega)
theorem vp_srt {a : List Int} (h : vp a = true) : srt a = a := srt_of_sorted (((vp_iff a).1 h).2.2.2.imp (fun {x y} h => by omega))
theorem dsr_in {a : List Int} (h : vp a = true) : ∀ x ∈ dsr a, 1 ≤ x ∧ x ≤ 60 := by
  intro x hx
  have h1 := (dsr_apd h).mem_iff.1 hx
  have h2 := (apd_cr a []).mem_iff.1 (by simpa using h1)
  rw [apd, List.nil_append] at h2
  obtain ⟨u, v, hu, hv, hne, he⟩ := cr_of a [] (by simpa using vp_nodup h) h2
  rw [List.nil_append] at hv
  have hu1 := ((vp_iff a).1 h).2.2.1 u hu
  have hv1 := ((vp_iff a).1 h).2.2.1 v hv
  omega
theorem vd_dsr {a : List Int} (h : vp a = true) : vd (dsr a) = true := by
  have hl := vp_len h
  have hp := vp_pos h
  have h2 : 2 * (dsr a).length + a.length = a.length * a.length := by
    unfold dsr dst
    rw [srt_len]
    exact dTo_len a a.length (Nat.le_refl _)
  unfold vd
  rw [Bool.and_eq_true, Bool.and_eq_true]
  refine ⟨⟨?_, ?_⟩, ?_⟩
  · have h3 : (dsr a).length = 0 ∨ (dsr a).length = 1 ∨ (dsr a).length = 3 ∨ (dsr a).length = 6 ∨ (dsr a).length = 10 ∨ (dsr a).length = 15 := by
      rcases (show a.length = 1 ∨ a.length = 2 ∨ a.length = 3 ∨ a.length = 4 ∨ a.length = 5 ∨ a.length = 6 by omega) with e | e | e | e | e | e <;> rw [e] at h2 <;> omega
    unfold prs
    rcases h3 with e | e | e | e | e | e <;> rw [e] <;> rfl
  · have h3 : (dsr a).Pairwise (fun x y => x ≤ y) := srt_sorted _
    unfold asc
    simpa using h3
  · rw [Bool.not_eq_true', List.any_eq_false]
    intro x hx
    have := dsr_in h x hx
    rw [inR_eq_true (by omega)]
    simp
theorem topOf_mem {zs : List Int} (hne : zs ≠ []) : topOf zs ∈ zs := last_mem hne
/-- All points with the distances are found. -/
theorem PL_all {a : List Int} (h : vp a = true) : a ∈ PL (dsr a) := by
  have hv := vd_dsr h
  obtain ⟨hl, ⟨r, hr⟩, hin, hsa⟩ := (vp_iff a).1 h
  have hnd := vp_nodup h
  by_cases hne : dsr a = []
  · unfold PL
    rw [if_neg (by rw [hv]; simp), if_pos hne, List.mem_singleton]
    have h1 := (dsr_apd h).symm
    rw [hne] at h1
    have h2 := h1.eq_nil
    rw [hr] at h2 ⊢
    cases r with
    | nil => rfl
    | cons b r => rw [apd] at h2; simp [gaps] at h2
  · rw [PL_mem hv hne]
    have ht := vd_in hv _ (topOf_mem hne)
    -- the greatest distance is that of the last point
    have htop : topOf (dsr a) ∈ a ∧ ∀ x ∈ a, x ≤ topOf (dsr a) := by
      have hin2 : ∀ x ∈ a, x ≤ topOf (dsr a) := by
        intro x hx
        by_cases h0 : x = 0
        · omega
        · have hx0 := (hin x hx).1
          have h1 : x ∈ dsr a := by
            refine (dsr_apd h).mem_iff.2 ?_
            rw [hr]
            have h2 : x ∈ r := by
              rw [hr, List.mem_cons] at hx
              exact hx.resolve_left h0
            rw [apd, List.mem_append]
            left
            have := gaps_mem (x := 0) h2
            rw [show max (0 - x) (x - 0) = x by omega] at this
            exact this
          exact le_last (vd_asc hv) x h1
      have h1 := (dsr_apd h).mem_iff.1 (topOf_mem hne)
      have h2 := (apd_cr a []).mem_iff.1 (by simpa using h1)
      rw [apd, List.nil_append] at h2
      obtain ⟨u, v, hu, hv', hne', he⟩ := cr_of a [] (by simpa using hnd) h2
      rw [List.nil_append] at hv'
      have hu1 := hin u hu
      have hv1 := hin v hv'
      have hu2 := hin2 u hu
      have hv2 := hin2 v hv'
      refine ⟨?_, hin2⟩
      rcases (show u = topOf (dsr a) ∨ v = topOf (dsr a) by omega) with e | e
      · rw [← e]; exact hu
      · rw [← e]; exact hv'
    obtain ⟨t, hte⟩ : ∃ t, t = topOf (dsr a) := ⟨_, rfl⟩
    rw [← hte] at htop ht ⊢
    have h0a : (0 : Int) ∈ a := by rw [hr]; simp
    have hte2 : t ∈ a.erase 0 := (List.mem_erase_of_ne (by omega)).2 htop.1
    have hm : a.Perm ([0, t] ++ (a.erase 0).erase t) := (List.perm_cons_erase h0a).trans ((List.perm_cons_erase hte2).cons 0)
    have hz : dsr a = (dsr a).dropLast ++ [t] := by
      conv => lhs; rw [← List.dropLast_concat_getLast hne]
      rw [hte]
      unfold topOf
      rw [List.getLastD_eq_getLast?, List.getLast?_eq_some_getLast hne]
      rfl
    have hap : (apd [0, t] ++ (dsr a).dropLast).Perm (apd ([0, t] ++ (a.erase 0).erase t)) := by
      refine List.Perm.trans ?_ ((dsr_apd h).trans (apd_perm hm))
      have e : apd [0, t] = [t] := by simp [apd, gaps]; omega
      rw [e]
      conv => rhs; rw [hz]
      exact List.perm_append_comm
    have hg := got0 hv hne
    rw [← hte] at hg
    have h2 : 2 * (dsr a).length + a.length = a.length * a.length := by
      unfold dsr dst
      rw [srt_len]
      exact dTo_len a a.length (Nat.le_refl _)
    have hml : ((a.erase 0).erase t).length + 2 = a.length := by
      have := hm.length_eq
      simp at this
      omega
    have := lvS_all t ((dsr a).length - 1) [0, t] (dsr a).dropLast ((a.erase 0).erase t) hg hap (fun x hx => ⟨(hin x (List.mem_of_mem_erase (List.mem_of_mem_erase hx))).1, htop.2 x (List.mem_of_mem_erase (List.mem_of_mem_erase hx))⟩) (hm.nodup_iff.1 hnd) (by
      have hp := vp_pos h
      rcases (show a.length = 1 ∨ a.length = 2 ∨ a.length = 3 ∨ a.length = 4 ∨ a.length = 5 ∨ a.length = 6 by omega) with e | e | e | e | e | e <;> rw [e] at h2 hml <;> omega)
    rw [← srt_of_perm hm, vp_srt h] at this
    exact this
end Go.Proofs.Ytopmifidhabobaa

namespace Go.Proofs.Ytopmifidhabobaa
open Go.RowKit
set_option linter.unusedVariables false
set_option linter.unusedSimpArgs false

def NewTwo (w : World) (e : Ending) (w' : World) : Prop := ∃ (A : Option Addr) (n c : Nat) (us : List Int) (A2 : Option Addr) (n2 c2 : Nat) (bs : List Int), e = .returned (.tuple #[.slice A n c, .slice A2 n2 c2]) ∧ Rd w' w'.heap.size A n c (us.map I) ∧ Rd w' w'.heap.size A2 n2 c2 (bs.map I) ∧ n ≤ 1000 ∧ n2 ≤ 1000 ∧ Below w.heap.size w w'
set_option maxHeartbeats 1600000 in
theorem DrawAreTwins_any (A : Option Addr) (n c : Nat) (zs : List Int) (w : World) (hr : Rd w w.heap.size A n c (zs.map U8)) (hz : ∀ z ∈ zs, 0 ≤ z ∧ z ≤ 255) :
    Calls Try.prog 23 #[.slice A n c] w (NewTwo w) := by
  have H := Lib.hid (newReader_any A n c zs w hr hz)
  clear hr hz
  go_enter Try.func23, Try.ntmps23
  go_wp2_with fail
  refine H.out.mono ?_
  rintro e w1 ⟨R, rs, rfl, hR, hb1⟩
  have hge := hR.1
  have hlt := hR.lt
  have s1 := hb1.size
  clear H
  go_wp2_with fail
  refine (pick_any _ R rs 0 4 w1 hR (by omega) (by omega) (by omega)).mono ?_
  rintro e w2 ⟨v, rfl, hv, _, hR2, hg2⟩
  have s2 := hg2.size
  have B2 : Below w.heap.size w w2 := kp_grown hb1 (Nat.le_refl _) hg2 (fun k hk => by cases hk; exact hge)
  have hlt2 := hR2.lt
  clear hv hR hg2 hb1
  by_cases h0 : v = 0
  · subst h0
    have q1 := (rd_lit w2 #[.int .i64 0, .int .i64 1, .int .i64 4, .int .i64 10, .int .i64 12, .int .i64 17] 3 6 ([0, 1, 4, 10, 12, 17].map I) rfl rfl (by omega))
    have Q := Lib.hid q1
    clear q1
    go_wp2_with fail
    go_ret2
    refine ⟨_, _, _, [0, 1, 4, 10, 12, 17], _, _, _, [0, 1, 8, 11, 13, 17], rfl, ?_, ?_, by omega, by omega, ?_⟩
    · exact ((Q.out.alloc (Nat.le_refl _) _).more (by simp))
    · exact rd_litAt _ (by simp) _ _ 6 _ rfl rfl (by omega)
    · exact (B2.alloc B2.size _).alloc (B2.alloc B2.size _).size _
  · by_cases h1 : v = 1
    · subst h1
      clear h0
      go_wp2_with fail
      refine (somePoints_any _ R rs 1 w2 hR2 (by omega)).mono ?_
      rintro e w3 ⟨A3, n3, c3, ls, q, rfl, hn, hd, hq, hR3, hg3⟩
      have s3 := hg3.size
      have B3 : Below w.heap.size w w3 := kp_grown B2 (Nat.le_refl _) hg3 (fun k hk => by cases hk; exact hge)
      have r3 := hn.1
      have hl3 := r3.ilen
      have hn7 := hd.1
      clear hR2 hg3 B2 hR3 hn
      go_wp2_with fail
      refine (validPoints_any A3 n3 c3 ls w3 _ r3).mono ?_
      rintro e w4 ⟨rfl, hq4⟩
      have hb4 := hq4.bel w3.heap.size
      have s4 := hb4.size
      have B4 := B3.trans (hb4.mono (by omega))
      have r4 := (r3.below hb4).more s4
      clear hq4 hb4 B3 r3
      cases hv : vp ls with
      | false =>
        clear hv
        go_wp2_with fail
        go_ret2
        exact ⟨_, _, _, _, _, _, _, _, rfl, r4, r4, by omega, by omega, B4⟩
      | true =>
        have hp := vp_pos hv
        obtain ⟨b, o, rfl, hb, _⟩ := r4.2.2.2 (by omega)
        have HT := Lib.hid (specTurn_any b o n3 c3 ls w4 r4 (by omega) (by omega) (vp_small hv))
        clear hv
        go_wp2_with fail
        refine HT.out.mono ?_
        rintro e w5 ⟨A5, n5, c5, rfl, ho5, hb5⟩
        have r5 := ho5.rd
        have hl5 := r5.ilen
        have hlt5 : (turn ls).length = ls.length := by unfold turn trn; simp
        have B5 := B4.trans (hb5.mono B4.size)
        have r4 := (r4.below hb5).more hb5.size
        clear HT ho5 hb5
        go_wp2_with fail
        go_ret2
        exact ⟨_, _, _, _, _, _, _, _, rfl, r4, r5, by omega, by omega, B5⟩
    · have h0' : ¬ (v : Int) = 0 := by omega
      have h1' : ¬ (v : Int) = 1 := by omega
      clear h0 h1
      go_wp2_with fail
      refine (somePoints_any _ R rs 1 w2 hR2 (by omega)).mono ?_
      rintro e w3 ⟨A3, n3, c3, ls, q, rfl, hn, hd, hq, hR3, hg3⟩
      have s3 := hg3.size
      have B3 : Below w.heap.size w w3 := kp_grown B2 (Nat.le_refl _) hg3 (fun k hk => by cases hk; exact hge)
      have hl3 := hn.1.ilen
      have hn7 := hd.1
      clear hR2 hg3 B2
      go_wp2_with fail
      refine (somePoints_any _ R rs q w3 hR3 (by omega)).mono ?_
      rintro e w4 ⟨A4, n4, c4, ls4, q4, rfl, hn4, hd4, hq4, hR4, hg4⟩
      have s4 := hg4.size
      have B4 : Below w.heap.size w w4 := kp_grown B3 (Nat.le_refl _) hg4 (fun k hk => by cases hk; exact hge)
      have hl4 := hn4.1.ilen
      have hn47 := hd4.1
      have hn := hn.grown hg4 hlt2
      clear hg4 B3 hR3 hR4
      go_wp2_with fail
      go_ret2
      exact ⟨_, _, _, _, _, _, _, _, rfl, hn.1, hn4.1, by omega, by omega, B4⟩
/-! ### plain -/
theorem TW_comm {a b : List Int} (ha : vp a = true) (hb : vp b = true) : TW b a = TW a b := by
  unfold TW
  rw [ha, hb]
  have e1 : decide (dsr b = dsr a) = decide (dsr a = dsr b) := decide_eq_decide.2 eq_comm
  have e2 : decide (b = a) = decide (a = b) := decide_eq_decide.2 eq_comm
  have e3 : decide (b = turn a) = decide (a = turn b) := decide_eq_decide.2 ⟨fun h => by rw [h, turn_turn ha], fun h => by rw [h, turn_turn hb]⟩
  rw [e1, e2, e3]
theorem TW_turn {a b : List Int} (ha : vp a = true) (hb : vp b = true) : TW a (TP b) = TW a b := by
  unfold TW TP
  rw [if_pos hb, ha, hb, vp_turn hb, dsr_turn, turn_turn hb]
  cases decide (dsr a = dsr b) <;> cases decide (a = b) <;> cases decide (a = turn b) <;> rfl
def isAB (a b : List Int) (y : List Int) : Bool := decide (y = a) || decide (y = b)
def cntAB (P : List SP) (a b : List Int) (k : Nat) : Nat := ((P.take k).filter fun p => isAB a b p.2).length
theorem cntAB_le (P : List SP) (a b : List Int) (k : Nat) : cntAB P a b k ≤ k := by
  unfold cntAB
  have h1 := List.length_filter_le (fun p : SP => isAB a b p.2) (P.take k)
  have h2 := List.length_take_le k P
  omega
theorem cntAB_succ {P : List SP} {a b : List Int} {k : Nat} {q : SP} (h : P[k]? = some q) : cntAB P a b (k + 1) = cntAB P a b k + (if isAB a b q.2 = true then 1 else 0) := by
  obtain ⟨h1, rfl⟩ := List.getElem?_eq_some_iff.1 h
  unfold cntAB
  rw [List.take_succ_eq_append_getElem h1, List.filter_append, List.length_append]
  congr 1
  by_cases h2 : isAB a b P[k].2 = true
  · rw [if_pos h2]; simp [h2]
  · rw [if_neg h2]; simp [h2]
theorem cntAB_all {P : List SP} {a b : List Int} {n : Nat} (hn : P.length ≤ n) (ha : vp a = true) (hP : P.map Prod.snd = PL (DO a)) : 1 ≤ cntAB P a b n ∧ (TW a b = true → cntAB P a b n = 2) := by
  have hD : DO a = dsr a := by unfold DO; rw [if_pos ha]
  have e : cntAB P a b n = ((PL (dsr a)).filter (isAB a b)).length := by
    unfold cntAB
    rw [List.take_of_length_le hn, ← hD, ← hP, List.filter_map, List.length_map]
    rfl
  have hnd := (PL_asc (dsr a)).nodup
  have ha' := PL_all ha
  rw [e]
  refine ⟨List.length_pos_iff.2 (List.ne_nil_of_mem (List.mem_filter.2 ⟨ha', by simp [isAB]⟩)), fun h => ?_⟩
  unfold TW at h
  simp only [Bool.and_eq_true, decide_eq_true_eq, Bool.not_eq_true', decide_eq_false_iff_not] at h
  obtain ⟨⟨⟨⟨_, hvb⟩, hd⟩, hne⟩, _⟩ := h
  have hb' := PL_all hvb
  rw [← hd] at hb'
  have hp : ((PL (dsr a)).filter (isAB a b)).Perm [a, b] := by
    refine (List.perm_ext_iff_of_nodup (hnd.filter _) (by simp [hne])).2 fun y => ?_
    rw [List.mem_filter]
    constructor
    · rintro ⟨_, h2⟩
      simpa [isAB] using h2
    · intro h2
      simp only [List.mem_cons, List.not_mem_nil, or_false] at h2
      rcases h2 with rfl | rfl
      · exact ⟨ha', by simp [isAB]⟩
      · exact ⟨hb', by simp [isAB]⟩
  exact hp.length_eq
set_option maxRecDepth 8000 in
set_option maxHeartbeats 6400000 in
theorem walkAreTwins (A : Option Addr) (n c : Nat) (zs : List Int) (w : World) (hr : Rd w w.heap.size A n c (zs.map U8)) (hz : ∀ z ∈ zs, 0 ≤ z ∧ z ≤ 255) :
    Calls Try.prog 4 #[.slice A n c] w (RetVal w (.bool true)) := by
  by_cases hbig : 1048576 < n
  · clear hz hr
    go_enter Try.func4, Try.ntmps4
    go_wp2_with fail
    go_ret
    exact ⟨rfl, Below.refl _ _⟩
  have H := Lib.hid (DrawAreTwins_any A n c zs w hr hz)
  clear hr hz
  go_enter Try.func4, Try.ntmps4
  go_wp2_with fail
  refine H.out.mono ?_
  rintro e w1 ⟨A1, n1, c1, a, A2, n2, c2, b, rfl, r1, r2, hn1, hn2, B1⟩
  have s1 := B1.size
  clear H
  obtain ⟨t, ht⟩ : ∃ t, t = TW a b := ⟨_, rfl⟩
  have HT := Lib.hid ht
  clear ht
  have H2 := Lib.hid (AreTwins_any A1 n1 c1 a A2 n2 c2 b w1 r1 r2)
  rw [← HT.out] at H2
  have htt : (t != t) = false := by simp
  have htt2 : (t == t) = true := by simp
  go_wp2_with fail
  refine H2.out.mono ?_
  rintro e w2 ⟨rfl, hb2⟩
  have s2 := hb2.size
  have B2 := B1.trans (hb2.mono s1)
  have r1 := (r1.below hb2).more s2
  have r2 := (r2.below hb2).more s2
  clear H2 hb2 B1
  have H3 := Lib.hid (specAreTwins_any A1 n1 c1 a A2 n2 c2 b w2 r1 r2)
  rw [← HT.out] at H3
  go_wp2_with fail
  refine H3.out.mono ?_
  rintro e w3 ⟨rfl, hb3⟩
  have s3 := hb3.size
  have B3 := B2.trans (hb3.mono B2.size)
  have r1 := (r1.below hb3).more s3
  have r2 := (r2.below hb3).more s3
  clear H3 hb3 B2
  have H4 := Lib.hid (specAreTwins_any A1 n1 c1 a A2 n2 c2 b w3 r1 r2)
  rw [← HT.out] at H4
  have HA := Lib.hid (ValidPoints_any A1 n1 c1 a w3 _ r1)
  have HB := Lib.hid (ValidPoints_any A2 n2 c2 b w3 _ r2)
  go_wp2_with fail
  refine HA.out.mono ?_
  rintro e w' ⟨rfl, rfl⟩
  cases hva : vp a with
  | false =>
    clear hva
    go_wp2_with fail
    refine H4.out.mono ?_
    rintro e w4 ⟨rfl, hb4⟩
    go_wp2_with fail
    go_ret
    exact ⟨rfl, B3.trans (hb4.mono B3.size)⟩
  | true =>
    have Hva := Lib.hid hva
    clear hva
    go_wp2_with fail
    refine HB.out.mono ?_
    rintro e w' ⟨rfl, rfl⟩
    cases hvb : vp b with
    | false =>
      clear hvb
      go_wp2_with fail
      refine H4.out.mono ?_
      rintro e w4 ⟨rfl, hb4⟩
      go_wp2_with fail
      go_ret
      exact ⟨rfl, B3.trans (hb4.mono B3.size)⟩
    | true =>
      have Hvb := Lib.hid hvb
      clear hvb H4 HA HB
      have HD := Lib.hid (DistancesOf_any A1 n1 c1 a w' r1)
      go_wp2_with fail
      refine HD.out.mono ?_
      rintro e w5 ⟨A5, n5, c5, rfl, ho5, hb5⟩
      have s5 := hb5.size
      have B5 := B3.trans (hb5.mono B3.size)
      have r1 := (r1.below hb5).more s5
      have r2 := (r2.below hb5).more s5
      have r5 := ho5.rd
      have hn5 : n5 ≤ 36 := by have h1 := r5.ilen; have h2 := DO_le36 a; omega
      clear HD ho5 hb5 B3
      have HP := Lib.hid (PlacesFor_any A5 n5 c5 (DO a) w5 r5 (by omega))
      go_wp2_with fail
      refine HP.out.mono ?_
      rintro e w6 ⟨A6, n6, c6, P, rfl, ho6, hi6, hd6, hP, hb6⟩
      have S6 : SS w6 w5.heap.size w6.heap.size A6 n6 c6 P FI := SS.of ho6 hi6
      have s6 := hb6.size
      have B6 := B5.trans (hb6.mono B5.size)
      have r1 := (r1.below hb6).more s6
      have r2 := (r2.below hb6).more s6
      have hlen := S6.len
      have hnc := S6.outer.2.1
      have hcm := S6.outer.2.2.1
      unfold maxLen at hcm
      have Hall := Lib.hid (cntAB_all (b := b) (n := n6) (by omega) Hva.out hP)
      clear HP ho6 hi6 hd6 hb6 B5 r5 hP
      go_wp2_with fail
      go_loopw [7, 8] (fun v i wr => ∃ k : Nat, k ≤ n6 ∧ i = .int .i64 k ∧ v = .int .i64 (cntAB P a b k) ∧ Quiet w6 wr) (fun _ i _ => n6 - (intOf i).toNat)
      case atStart => exact ⟨0, by omega, rfl, rfl, Quiet.refl _⟩
      case round =>
        obtain ⟨k, hk, rfl, rfl, hq⟩ := hrel
        obtain ⟨wq, rfl⟩ : ∃ wq : World, wq = wr := ⟨_, rfl⟩
        have S7 := S6.quiet hq
        have q1 := hq.rd r1
        have q2 := hq.rd r2
        obtain ⟨cn, hcn⟩ : ∃ cn, cn = cntAB P a b k := ⟨_, rfl⟩
        have hle := cntAB_le P a b k
        rw [← hcn] at hle ⊢
        have Hcn := Lib.hid hcn
        clear hcn
        by_cases hlt : k < n6
        · obtain ⟨q, hqq⟩ : ∃ q, P[k]? = some q := ⟨_, List.getElem?_eq_getElem (by omega)⟩
          have Hs := Lib.hid (cntAB_succ (a := a) (b := b) hqq)
          obtain ⟨g, rfl, _, hc⟩ := S7.cell hqq
          have HE := Lib.hid (equalInts_any _ _ _ q.2 A1 n1 c1 a wq _ _ ((S7.inner k q hqq).rd) q1)
          have HE2 := Lib.hid (fun w' (h : Quiet wq w') => equalInts_any _ _ _ q.2 A2 n2 c2 b w' _ _ (((S7.quiet h).inner k q hqq).rd) (h.rd q2))
          have HC := Lib.hid (fun w' (h : Quiet wq w') => (show w'.cell? ⟨g, k, none⟩ = some (.slice q.1.1 q.1.2.1 q.1.2.2) by
            obtain ⟨g9, hg9, _, h9⟩ := (S7.quiet h).cell hqq
            injection hg9 with hg9
            injection hg9 with hg9
            subst hg9
            exact h9))
          have e1 : IntKind.i64.wrap ((cn : Int) + 1) = (cn : Int) + 1 := by rw [IntKind.wrap_i64]; omega
          have k0 : (0 : Int) ≤ (k : Int) := by omega
          have k1 : (k : Int) < (n6 : Int) := by omega
          obtain ⟨⟨qa, qn, qc⟩, ql⟩ := q
          dsimp only at HE HE2 HC hc Hs
          clear hqq
          by_cases ha : ql = a
          · have hda : decide (ql = a) = true := by simpa using ha
            have Hs2 := Lib.hid (show cntAB P a b (k + 1) = cn + 1 by rw [Hs.out, ← Hcn.out, if_pos (by simp [isAB, ha])])
            rw [hda] at HE
            clear ha hda
            go_wp2_with fail
            refine HE.out.mono ?_
            rintro e w8 ⟨rfl, hq8⟩
            have hq8 := hq.trans hq8
            go_wp2_with fail
            refine ⟨⟨k + 1, by omega, ?_, ?_, hq8⟩, ?_⟩
            · go_num
            · rw [Hs2.out]; go_num
            · simp [intOf]; omega
          · have hda : decide (ql = a) = false := by simpa using ha
            rw [hda] at HE
            by_cases hb : ql = b
            · have hdb : decide (ql = b) = true := by simpa using hb
              have Hs2 := Lib.hid (show cntAB P a b (k + 1) = cn + 1 by rw [Hs.out, ← Hcn.out, if_pos (by simp [isAB, hb])])
              rw [hdb] at HE2
              clear ha hda hb hdb
              go_wp2_with fail
              refine HE.out.mono ?_
              rintro e w8 ⟨rfl, hq8⟩
              have hc8 := HC.out w8 hq8
              have HE3 := Lib.hid (HE2.out w8 hq8)
              go_wp2_with fail
              refine HE3.out.mono ?_
              rintro e w9 ⟨rfl, hq9⟩
              have hq9 := hq.trans (hq8.trans hq9)
              go_wp2_with fail
              refine ⟨⟨k + 1, by omega, ?_, ?_, hq9⟩, ?_⟩
              · go_num
              · rw [Hs2.out]; go_num
              · simp [intOf]; omega
            · have hdb : decide (ql = b) = false := by simpa using hb
              have Hs2 := Lib.hid (show cntAB P a b (k + 1) = cn by rw [Hs.out, ← Hcn.out, if_neg (by simp [isAB, ha, hb])]; rfl)
              rw [hdb] at HE2
              clear ha hda hb hdb
              go_wp2_with fail
              refine HE.out.mono ?_
              rintro e w8 ⟨rfl, hq8⟩
              have hc8 := HC.out w8 hq8
              have HE3 := Lib.hid (HE2.out w8 hq8)
              go_wp2_with fail
              refine HE3.out.mono ?_
              rintro e w9 ⟨rfl, hq9⟩
              have hq9 := hq.trans (hq8.trans hq9)
              go_wp2_with fail
              refine ⟨⟨k + 1, by omega, ?_, ?_, hq9⟩, ?_⟩
              · go_num
              · rw [Hs2.out]
              · simp [intOf]; omega
        · obtain rfl : n6 = k := by omega
          have Hall := Hall.out
          rw [← Hcn.out, ← HT.out] at Hall
          obtain ⟨hge1, h2⟩ := Hall
          have b7 := hq.bel w6.heap.size
          have B7 := B6.trans (b7.mono B6.size)
          have s7 := b7.size
          have q1 := q1.more s7
          have q2 := q2.more s7
          have H8 := Lib.hid (AreTwins_any A2 n2 c2 b A1 n1 c1 a wq q2 q1)
          rw [TW_comm Hva.out Hvb.out, ← HT.out] at H8
          have hge1' : (1 : Int) ≤ (cn : Int) := by omega
          have h2' : t = true → cn = 2 := h2
          clear h2 hge1
          go_wp2_with fail
          refine H8.out.mono ?_
          rintro e w8 ⟨rfl, hb8⟩
          have s8 := hb8.size
          have B8 := B7.trans (hb8.mono B7.size)
          have q1 := (q1.below hb8).more s8
          have q2 := (q2.below hb8).more s8
          clear H8 hb8 B7
          have H9 := Lib.hid (TurnPoints_any A2 n2 c2 b w8 q2)
          go_wp2_with fail
          refine H9.out.mono ?_
          rintro e w9 ⟨A9, n9, c9, rfl, ho9, hb9⟩
          have s9 := hb9.size
          have B9 := B8.trans (hb9.mono B8.size)
          have q1 := (q1.below hb9).more s9
          have H10 := Lib.hid (AreTwins_any A1 n1 c1 a A9 n9 c9 (TP b) w9 q1 ho9.rd)
          rw [TW_turn Hva.out Hvb.out, ← HT.out] at H10
          clear H9 hb9 B8
          go_wp2_with fail
          refine H10.out.mono ?_
          rintro e w10 ⟨rfl, hb10⟩
          have B10 := B9.trans (hb10.mono B9.size)
          clear H10 hb10 B9
          cases t with
          | true =>
            have h3 := h2' rfl
            subst h3
            go_wp2_with fail
            go_ret
            exact ⟨rfl, B10⟩
          | false =>
            clear h2'
            go_wp2_with fail
            go_ret
            exact ⟨rfl, B10⟩
end Go.Proofs.Ytopmifidhabobaa
