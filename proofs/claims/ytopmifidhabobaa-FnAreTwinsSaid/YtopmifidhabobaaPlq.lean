/-
  Points with distances: the program.
-/
import Derived.Test.YtopmifidhabobaaPlp
import Derived.Test.YtopmifidhabobaaOrdS2
import Derived.Test.YtopmifidhabobaaCut4
namespace Go.Proofs.Ytopmifidhabobaa
open Go.RowKit Go.Sort
set_option linter.unusedVariables false
set_option linter.unusedSimpArgs false

theorem DistP.perm {P Q : List SP} (h : DistP P) (hp : Q.Perm P) : DistP Q :=
  (hp.symm.pairwise h (fun {p q} h g h1 h2 h3 h4 => h g h2 h1 h4 h3))
theorem cmp_sub (P : List SP) (k : Nat) (hk : k ≤ P.length) : (cmp P k).Sublist (P.take k) := by
  induction k with
  | zero => exact List.Sublist.refl _
  | succ k ih =>
    have hp : P[k]? = some P[k] := List.getElem?_eq_getElem (by omega)
    rw [List.take_succ_eq_append_getElem (show k < P.length by omega), cmp]
    split
    · exact (List.append_nil (cmp P k)).symm ▸ ((ih (by omega)).trans (List.sublist_append_left _ _))
    · rw [one_at hp]
      exact (ih (by omega)).append (List.Sublist.refl _)
theorem DistP.cmp {P : List SP} (h : DistP P) : DistP (cmp P P.length) := by
  have h1 := cmp_sub P P.length (Nat.le_refl _)
  rw [List.take_length] at h1
  exact List.Pairwise.sublist h1 h
/-- Whether numbers may be distances. -/
def vd (zs : List Int) : Bool := prs zs.length && asc zs && !(zs.any fun x => !inR x 1 60)
def topOf (zs : List Int) : Int := zs.getLastD 0
/-- All points with distances. -/
def PL (zs : List Int) : List (List Int) :=
  if vd zs = false then [] else if zs = [] then [[0]] else (lvS (zs.length - 1) (topOf zs) [0, topOf zs] zs.dropLast).foldl insU []
theorem PL_no {zs : List Int} (h : vd zs = false) : PL zs = [] := by unfold PL; rw [if_pos h]
theorem prs_le {m : Nat} (h : prs m = true) : m ≤ 15 := by
  unfold prs at h
  simp at h
  omega
theorem vd_len {zs : List Int} (h : vd zs = true) : zs.length ≤ 15 := by
  unfold vd at h
  rw [Bool.and_eq_true, Bool.and_eq_true] at h
  exact prs_le h.1.1
theorem vd_asc {zs : List Int} (h : vd zs = true) : zs.Pairwise (fun a b => a ≤ b) := by
  unfold vd asc at h
  simp at h
  exact h.1.2
theorem vd_in {zs : List Int} (h : vd zs = true) : ∀ x ∈ zs, 1 ≤ x ∧ x ≤ 60 := by
  unfold vd at h
  simp at h
  intro x hx
  have := h.2 x hx
  unfold inR at this
  simpa using this
theorem erase_last {zs : List Int} (hs : zs.Pairwise (fun a b => a ≤ b)) (hne : zs ≠ []) : zs.erase (topOf zs) = zs.dropLast := by
  have hl := last_mem hne
  refine sorted_eq (?_ : (zs.erase (topOf zs)).Perm zs.dropLast) (hs.sublist List.erase_sublist) (hs.sublist (List.dropLast_sublist zs))
  have h1 : zs.Perm (topOf zs :: zs.erase (topOf zs)) := List.perm_cons_erase hl
  have h2 : zs = zs.dropLast ++ [topOf zs] := by
    conv => lhs; rw [← List.dropLast_concat_getLast hne]
    unfold topOf
    rw [List.getLastD_eq_getLast?, List.getLast?_eq_some_getLast hne]
    rfl
  have h3 : (topOf zs :: zs.dropLast).Perm zs := by
    conv => rhs; rw [h2]
    exact (List.perm_append_singleton _ _).symm
  exact (List.perm_cons _).1 (h1.symm.trans h3.symm)
theorem le_last {zs : List Int} (hs : zs.Pairwise (fun a b => a ≤ b)) : ∀ x ∈ zs, x ≤ topOf zs := by
  intro x hx
  have hne : zs ≠ [] := fun e => by rw [e] at hx; cases hx
  have h2 : zs = zs.dropLast ++ [topOf zs] := by
    conv => lhs; rw [← List.dropLast_concat_getLast hne]
    unfold topOf
    rw [List.getLastD_eq_getLast?, List.getLast?_eq_some_getLast hne]
    rfl
  rw [h2, List.pairwise_append] at hs
  rw [h2, List.mem_append, List.mem_singleton] at hx
  rcases hx with hx | hx
  · exact hs.2.2 x hx _ (by simp)
  · omega
theorem got0 {zs : List Int} (h : vd zs = true) (hne : zs ≠ []) : Got (topOf zs) [0, topOf zs] zs.dropLast := by
  have hm : topOf zs ∈ zs := last_mem hne
  have ht := vd_in h _ hm
  exact ⟨by simp, by simp, fun p hp => by simp at hp; omega, fun x hx => by
    have h1 := (List.dropLast_sublist zs).subset hx
    exact ⟨(vd_in h x h1).1, le_last (vd_asc h) x h1⟩, (vd_asc h).sublist (List.dropLast_sublist zs)⟩
theorem try0 {zs : List Int} (h : vd zs = true) (hne : zs ≠ []) (f : Nat) : tryI (lvI f) [0] zs (topOf zs) = lvI f [0, topOf zs] zs.dropLast := by
  have hm : topOf zs ∈ zs := last_mem hne
  have ht := vd_in h _ hm
  have hg : gaps (topOf zs) [0] = [topOf zs] := by unfold gaps; simp; omega
  rw [tryI_yes (r := zs.dropLast)]
  · rfl
  · simp; omega
  · rw [hg, wo, if_pos hm, wo, erase_last (vd_asc h) hne]
/-- What is found, sorted and each once, is what is asked for. -/
theorem PL_found {zs : List Int} (h : vd zs = true) (hne : zs ≠ []) {L : List (List Int)} (ha : Asc L) (hm : ∀ x, x ∈ L ↔ x ∈ tryI (lvI (zs.length - 1)) [0] zs (topOf zs)) : L = PL zs := by
  unfold PL
  rw [if_neg (by rw [h]; simp), if_neg hne]
  obtain ⟨h1, h2⟩ := fold_insU (lvS (zs.length - 1) (topOf zs) [0, topOf zs] zs.dropLast) [] (by simp [Asc])
  refine ha.eq h1 fun x => ?_
  rw [hm, h2, try0 h hne, lv_mem (topOf zs) _ _ _ (got0 h hne)]
  simp
/-- Rows of rows returned, none sharing memory. -/
def RetPL (w : World) (L : List (List Int)) (e : Ending) (w' : World) : Prop :=
  ∃ (A : Option Addr) (n c : Nat) (P : List SP), e = .returned (.slice A n c) ∧ Own w' w.heap.size 22 A n c (P.map V) ∧ OwnP w' w.heap.size P ∧ DistP P ∧ P.map Prod.snd = L ∧ Below w.heap.size w w'
theorem RetPL.none {w w' : World} (h : Below w.heap.size w w') : RetPL w [] (.returned (.slice none 0 0)) w' :=
  ⟨Option.none, 0, 0, [], rfl, ⟨rfl, Nat.le_refl _, Nat.zero_le _, fun h => absurd h (Nat.lt_irrefl 0)⟩, fun p hp => absurd hp List.not_mem_nil, List.Pairwise.nil, rfl, h⟩
set_option maxRecDepth 8000 in
set_option maxHeartbeats 3200000 in
theorem PlacesFor_any (A : Option Addr) (n c : Nat) (zs : List Int) (w : World) (hr : Rd w w.heap.size A n c (zs.map I)) (hn20 : n ≤ 1048576) :
    Calls Try.prog 17 #[.slice A n c] w (RetPL w (PL zs)) := by
  have hl := hr.ilen
  have Hl := Lib.hid hl
  have hm := hr.2.2.1
  have hnc := hr.2.1
  unfold maxLen at hm
  have hpr := fun w' => pairsOf_any n (by omega) w'
  have hIs := fun w' (hq : Quiet w w') => IsSorted_any A n c zs w' w.heap.size (hq.rd hr)
  have he : ∀ args w, (callFunc 52 args).run Try.prog w = .ok (.enter 52 args) w := enters_of Try.func52 (by kernel_rfl) rfl
  have hCf := fun w' (hq : Quiet w w') => ContainsFuncI_any 52 (fun x => !inR x 1 60) he placesTest_any A n c zs w' w.heap.size (hq.rd hr)
  clear he
  cases h1 : prs n with
  | false =>
    have Hv := Lib.hid (show PL zs = [] from PL_no (by unfold vd; rw [hl, h1]; rfl))
    have H1 := Lib.hid h1
    clear h1
    go_enter Try.func17, Try.ntmps17
    go_wp2_with fail
    refine (hpr _).mono ?_
    rintro e w1 ⟨r, rfl, hrz, rfl⟩
    rw [H1.out] at hrz
    have hr0 : r = 0 := by simpa using hrz
    subst hr0
    clear hrz
    go_wp2_with fail
    go_ret
    rw [Hv.out]
    exact .none (.refl _ _)
  | true =>
    have H1 := Lib.hid h1
    clear h1
    cases h2 : asc zs with
    | false =>
      have Hv := Lib.hid (show PL zs = [] from PL_no (by unfold vd; rw [hl, h2, Bool.and_false]; rfl))
      rw [h2] at hIs
      clear h2
      go_enter Try.func17, Try.ntmps17
      go_wp2_with fail
      refine (hpr _).mono ?_
      rintro e w1 ⟨r, rfl, hrz, rfl⟩
      rw [H1.out] at hrz
      have hr0 : ¬ r = 0 := by simpa using hrz
      clear hrz
      go_wp2_with fail
      refine (hIs _ (.refl _)).mono ?_
      rintro e w1 ⟨rfl, hq⟩
      go_wp2_with fail
      go_ret
      rw [Hv.out]
      exact .none (hq.bel _)
    | true =>
      rw [h2] at hIs
      have H2 := Lib.hid h2
      clear h2
      cases h3 : zs.any (fun x => !inR x 1 60) with
      | true =>
        have Hv := Lib.hid (show PL zs = [] from PL_no (by unfold vd; rw [h3, Bool.not_true, Bool.and_false]))
        rw [h3] at hCf
        clear h3
        go_enter Try.func17, Try.ntmps17
        go_wp2_with fail
        refine (hpr _).mono ?_
        rintro e w1 ⟨r, rfl, hrz, rfl⟩
        rw [H1.out] at hrz
        have hr0 : ¬ r = 0 := by simpa using hrz
        clear hrz
        go_wp2_with fail
        refine (hIs _ (.refl _)).mono ?_
        rintro e w1 ⟨rfl, hq⟩
        go_wp2_with fail
        refine (hCf _ hq).mono ?_
        rintro e w2 ⟨rfl, rfl⟩
        go_wp2_with fail
        go_ret
        rw [Hv.out]
        exact .none (hq.bel _)
      | false =>
        have hvd : vd zs = true := by unfold vd; rw [hl, H1.out, H2.out, h3]; rfl
        rw [h3] at hCf
        clear h3
        go_enter Try.func17, Try.ntmps17
        go_wp2_with fail
        refine (hpr _).mono ?_
        rintro e w1 ⟨r, rfl, hrz, rfl⟩
        rw [H1.out] at hrz
        have hr0 : ¬ r = 0 := by simpa using hrz
        clear hrz
        go_wp2_with fail
        refine (hIs _ (.refl _)).mono ?_
        rintro e w1 ⟨rfl, hq⟩
        go_wp2_with fail
        refine (hCf _ hq).mono ?_
        rintro e w2 ⟨rfl, rfl⟩
        have hrq := hq.rd hr
        have hz : (r == 0) = false := by simpa using hr0
        clear hIs hCf hpr hr0
        have hs2 : w1.heap.size ≤ w2.heap.size := by have := hq.size; omega
        rcases Nat.eq_zero_or_pos n with h0 | h0
        · subst h0
          have Hv := Lib.hid (show PL zs = [[0]] by unfold PL; rw [if_neg (by rw [hvd]; simp), if_pos (List.eq_nil_of_length_eq_zero hl)])
          go_wp2_with fail
          go_ret
          rw [Hv.out]
          refine ⟨_, 1, 1, [((some ⟨w2.heap.size + 1 + 1, 0, none⟩, 1, 1), [0])], rfl, (Row.of_block #[.slice (some ⟨w2.heap.size + 1 + 1, 0, none⟩) 1 1] 1 ?_ (by omega) rfl (by omega)).own, ?_, ?_, rfl, ?_⟩
          · rw [heap_al, if_pos (by simp)]
          · intro p hp
            rw [List.mem_singleton] at hp
            subst hp
            exact (Row.of_block (g := w2.heap.size + 1 + 1) #[.int .i64 0] 1 (by rw [heap_al, if_neg (by simp), heap_al, if_pos (by simp)]) (by omega) rfl (by omega)).own
          · exact List.pairwise_singleton _ _
          · exact kp_alloc _ (kp_alloc _ (kp_alloc _ (kp_alloc _ (hq.bel _) (Nat.le_refl _)) (Nat.le_refl _)) (Nat.le_refl _)) (Nat.le_refl _)
        · have hn0 : ¬ (n : Int) = 0 := by omega
          obtain ⟨m, rfl⟩ : ∃ m, n = m + 1 := ⟨n - 1, by omega⟩
          have hne : zs ≠ [] := fun e => by rw [e] at hl; simp at hl
          obtain ⟨b, o, x, rfl, hb, hx, hcx⟩ := hrq.int (show m < m + 1 by omega)
          have htop : topOf zs = x := last_at hl hx
          have hx60 := vd_in hvd x (by rw [← htop]; exact last_mem hne)
          have hm15 := vd_len hvd
          obtain ⟨W0, hW0⟩ : ∃ W0, W0 = ((w2.alloc (.cells #[.int .i64 0] 3)).alloc (.cells #[.slice (some ⟨w2.heap.size, 0, none⟩) 1 1, .slice none 0 0] 50)) := ⟨_, rfl⟩
          have hb0 : RowKit.Below w1.heap.size w1 W0 := by rw [hW0]; exact kp_alloc _ (kp_alloc _ (hq.bel _) (Nat.le_refl _)) (Nat.le_refl _)
          have hs0 : W0.heap.size = w2.heap.size + 2 := by rw [hW0]; simp
          have hcx0 : W0.cell? ⟨b, o + m, none⟩ = some (.int .i64 x) := by
            have h2 : RowKit.Below w2.heap.size w2 W0 := by rw [hW0]; exact kp_alloc _ (kp_alloc _ (.refl _ _) (Nat.le_refl _)) (Nat.le_refl _)
            exact (h2.cell (p := ⟨b, o + m, none⟩) (by show b < _; omega)).trans hcx
          have hcx1 := hcx0
          rw [hW0] at hcx1
          have hst : St W0 w1.heap.size (w2.heap.size + 1) (some ⟨w2.heap.size, 0, none⟩) 1 1 [0] none 0 0 [] := by
            refine ⟨?_, ?_, ⟨rfl, .inl ⟨rfl, rfl⟩⟩, fun p hp => absurd hp List.not_mem_nil, by omega, fun p hp => absurd hp List.not_mem_nil, List.Pairwise.nil⟩
            · rw [hW0]; exact heap_al2 w2 _ _
            · rw [hW0]; exact Row.of_block #[.int .i64 0] 1 (heap_al1 w2 _ _) (by omega) rfl (by omega)
          have hr0 : Rd W0 w1.heap.size (some ⟨b, o, none⟩) (m + 1) c (zs.map I) := hr.below hb0
          have hlf : Lf W0 (w2.heap.size + 1) (ob (some ⟨w2.heap.size, 0, none⟩) 1 1) (ob none 0 0) (some ⟨b, o, none⟩) (m + 1) c zs := by
            refine ⟨hr0.more (by omega), fun b' o' _ e => ?_⟩
            injection e with e
            injection e with e1 e2
            subst e1
            exact ⟨by omega, by simp [ob, Value.ownBlock]; omega, by simp [ob, Value.ownBlock]⟩
          have hnum : Num [0] zs := ⟨by simp, by simp, vd_in hvd, vd_asc hvd, by simp; omega⟩
          have h2m : 2 ^ m ≤ 16384 := by
            calc 2 ^ m ≤ 2 ^ 14 := Nat.pow_le_pow_right (by omega) (by omega)
              _ = 16384 := by decide
          have hT := try_any m (from_any m) _ 1 1 [0] none 0 0 [] (some ⟨b, o, none⟩) (m + 1) c zs w1.heap.size (w2.heap.size + 1) x W0 hst hlf hne (by omega) hnum (by simp; omega) (by omega) (by omega)
          have Hpl := Lib.hid (fun (L : List (List Int)) (ha : Asc L) (hm : ∀ y, y ∈ L ↔ y ∈ tryI (lvI m) [0] zs x) => PL_found hvd hne ha (by rw [hl, htop]; exact hm))
          have hTl : (tryI (lvI m) [0] zs x).length ≤ 2 ^ m := tryI_len (lvI_len m) x
          have k0 : (m : Int) < (m : Int) + 1 := by omega
          have k1 : (0 : Int) ≤ (m : Int) := by omega
          have e1 : IntKind.i64.wrap ((m : Int) + 1 - 1) = (m : Int) := by rw [IntKind.wrap_i64]; omega
          have e2 : ((m : Int) + 1 - 1) = (m : Int) := by omega
          have e3 : IntKind.i64.wrap (m : Int) = (m : Int) := by rw [IntKind.wrap_i64]; omega
          have hz2 : (((m : Int) + 1) == 0) = false := by simpa using (by omega : ¬ (m : Int) + 1 = 0)
          clear hx hcx hcx0 hrq hr hnum hlf hr0 hvd hn0 htop
          go_wp2_with fail
          rw [← hW0]
          refine hT.mono ?_
          rintro e w3 ⟨rfl, A3, c3, Af, nf, cf, Q, hst3, hQ, hfr, hnp, hnf⟩
          rw [List.nil_append] at hst3
          clear hT hcx1
          have hnQ : Q.length = nf := by have := hst3.frow.len; simpa using this
          have hnf6 : nf ≤ 1000000 := by
            have : Q.length = (tryI (lvI m) [0] zs x).length := by rw [← hQ, List.length_map]
            omega
          have hs3 := hfr.size
          have hRlt := hst3.lt
          have hb3 : RowKit.Below w1.heap.size w1 w3 := by
            refine ⟨hfr.os.trans hb0.os, hfr.tape.trans hb0.tape, hfr.output.trans hb0.output, by omega, fun k hk => (hfr.block k (by omega) (by omega) ?_ (by simp [ob, Value.ownBlock])).trans (hb0.block k hk)⟩
            simp [ob, Value.ownBlock]; omega
          have hc3 : w3.cell? ⟨w2.heap.size + 1, 1, none⟩ = some (.slice Af nf cf) := by rw [cell_of_row w3 _ 1 _ _ (0, 0) hst3.obj]; rfl
          have hS := SortFunc_any w1.heap.size w1.heap.size Af nf cf Q w3 hst3.frow hst3.own hnf6
          have hneF := hst3.ne_f
          clear hfr hnp hnf hW0
          go_wp2_with fail
          refine hS.mono ?_
          rintro e w4 ⟨rfl, Q', hpm, hso, hrow4, hg4⟩
          have hb4 : RowKit.Below w1.heap.size w1 w4 := kp_grown hb3 (Nat.le_refl _) hg4 (row_ge hst3.frow)
          have hc4 : w4.cell? ⟨w2.heap.size + 1, 1, none⟩ = some (.slice Af nf cf) := (World.cell?_of_block (hg4.block (w2.heap.size + 1) hRlt (fun e => hneF e.symm))).trans hc3
          have hin4 : OwnP w4 w1.heap.size Q' := fun p hp => (OwnP.grown hst3.own hst3.frow hg4) p (hpm.mem_iff.1 hp)
          have hl4 : Q'.length = nf := by rw [hpm.length_eq]; exact hnQ
          have hd4 : DistP Q' := hst3.dist.perm hpm
          have hCm := CompactFunc_any w1.heap.size w1.heap.size Af nf cf Q' w4 hrow4 hin4 hnf6
          have Hfin := Lib.hid (show (cmp Q' nf).map Prod.snd = PL zs by
            rw [← hl4]
            refine Hpl.out _ (cmp_asc Q' hso Q'.length (Nat.le_refl _)).1 fun y => ?_
            rw [cmp_same, ← hQ]
            exact (hpm.map Prod.snd).mem_iff)
          clear hS hc3
          go_wp2_with fail
          refine hCm.mono ?_
          rintro e w5 ⟨rfl, hrow5, hg5⟩
          have hb5 : RowKit.Below w1.heap.size w1 w5 := kp_grown hb4 (Nat.le_refl _) hg5 (row_ge hrow4)
          have hin5 : OwnP w5 w1.heap.size (cmp Q' nf) := fun p hp => (OwnP.grown hin4 hrow4 hg5) p (cmp_mem hp)
          clear hCm hc4
          go_wp2_with fail
          refine (ClipSS_any Af _ cf hrow5.rd.2.1 w5).mono ?_
          rintro e w6 ⟨rfl, rfl⟩
          go_wp2_with fail
          go_ret
          refine ⟨Af, _, _, cmp Q' nf, rfl, hrow5.own.clip, hin5, ?_, Hfin.out, hb5⟩
          rw [← hl4]
          exact hd4.cmp
end Go.Proofs.Ytopmifidhabobaa
