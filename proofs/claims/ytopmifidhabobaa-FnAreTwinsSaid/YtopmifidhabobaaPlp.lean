/-
  slices.SortFunc on rows of rows of numbers, under the comparison of lists.
-/
import Derived.Test.YtopmifidhabobaaPlf
import Derived.Test.YtopmifidhabobaaSortF
import Derived.Shelf.SlSortCmp.Whole1
import Derived.Shelf.SlSortCmp.NoneTotal
namespace Go.Proofs.Ytopmifidhabobaa
open Go.RowKit Go.Sort
set_option linter.unusedVariables false
set_option linter.unusedSimpArgs false

theorem cmpL_lt (a b : List Int) : decide (cmpL a b < 0) = ltL a b := by
  unfold cmpL
  cases h : ltL a b
  · cases h2 : ltL b a <;> simp
  · simp
theorem ltL_ntrans {a b c : List Int} (h1 : ltL a b = false) (h2 : ltL b c = false) : ltL a c = false := by
  cases h : ltL a c with
  | false => rfl
  | true =>
    cases h3 : ltL b a with
    | true => rw [ltL_trans h3 h] at h2; cases h2
    | false => rw [ltL_total h1 h3, h2] at h; cases h
/-- The k-th of the slices. -/
def gp (P : List SP) (i : Nat) : SP := P.getD i ((none, 0, 0), [])
theorem gp_at {P : List SP} {i : Nat} {p : SP} (h : P[i]? = some p) : gp P i = p := by unfold gp; rw [List.getD_eq_getElem?_getD, h]; rfl
def encP (P : List SP) (i : Nat) : Value := V (gp P i)
def cfP (P : List SP) (i j : Nat) : Int := cmpL (gp P i).2 (gp P j).2
theorem cfP_swo (P : List SP) : SWO (Go.Proofs.ltOf (cfP P)) := by
  have key : ∀ i j, Go.Proofs.ltOf (cfP P) i j = ltL (gp P i).2 (gp P j).2 := fun i j => cmpL_lt _ _
  exact ⟨fun i => by rw [key]; exact ltL_irrefl _, fun i j k h1 h2 => by rw [key] at *; exact ltL_trans h1 h2, fun i j k h1 h2 => by rw [key] at *; exact ltL_ntrans h1 h2⟩
theorem gp_range (P : List SP) : (List.range P.length).map (gp P) = P := by
  apply List.ext_getElem?
  intro i
  rw [List.getElem?_map]
  by_cases hi : i < P.length
  · rw [List.getElem?_range hi, List.getElem?_eq_getElem hi, Option.map_some, gp_at (List.getElem?_eq_getElem hi)]
  · rw [List.getElem?_eq_none (by simp; omega), List.getElem?_eq_none (by omega)]
    rfl
theorem gp_own {w : World} {lo : Nat} {P : List SP} (h : OwnP w lo P) (i : Nat) : Own w lo 3 (gp P i).1.1 (gp P i).1.2.1 (gp P i).1.2.2 ((gp P i).2.map I) := by
  by_cases hi : i < P.length
  · have := h _ (List.getElem_mem hi)
    rw [gp_at (List.getElem?_eq_getElem hi)]
    exact this
  · have : gp P i = ((none, 0, 0), []) := by unfold gp; rw [List.getD_eq_getElem?_getD, List.getElem?_eq_none (by omega)]; rfl
    rw [this]
    exact ⟨rfl, Nat.le_refl _, Nat.zero_le _, fun h => absurd h (Nat.lt_irrefl 0)⟩
set_option maxRecDepth 8000 in
set_option maxHeartbeats 1600000 in
theorem SortFunc_any (N lo : Nat) (A : Option Addr) (n c : Nat) (P : List SP) (w : World) (hrow : Row w N 22 A n c (P.map V)) (hin : OwnP w lo P) (hn6 : n ≤ 1000000) :
    Calls Try.prog 55 #[.slice A n c, .func (.func 56) #[] #[]] w fun e w' => e = .returned (.tuple #[]) ∧ ∃ P' : List SP, P'.Perm P ∧ (P'.map Prod.snd).Pairwise (fun a b => ltL b a = false) ∧ Row w' N 22 A n c (P'.map V) ∧ w.grownBy w' (Value.slice A n c).ownBlock := by
  have hl : P.length = n := by have := hrow.len; simpa using this
  rcases Nat.eq_zero_or_pos n with h0 | h0
  · subst h0
    obtain rfl := List.eq_nil_of_length_eq_zero hl
    refine (AnyF.slices_SortFunc_none (P := Try.prog) (ρ := Try.sortFL_ren) { Try.sortFL with } A c (.func (.func 56) #[] #[]) w).mono ?_
    rintro e w' ⟨rfl, rfl⟩
    exact ⟨rfl, [], .refl _, by simp, hrow, grown_refl _ _⟩
  · obtain ⟨g, cur, rfl, hB, hh, ht, hc, hm⟩ := Row.blk (g := 0) hrow h0
    subst hl
    have eg : ∀ args w, (callFunc 56 args).run Try.prog w = .ok (.enter 56 args) w := enters_of Try.func56 (by kernel_rfl) rfl
    have hle : ((List.range P.length).map (encP P)) = P.map V := by
      have := congrArg (List.map V) (gp_range P)
      rw [List.map_map] at this
      exact this
    have hH : Holds (encP P) w g 0 (List.range P.length).toArray := holds_blk _ hh (by rw [List.length_range, ht, hle])
    have hsz : (List.range P.length).toArray.size = P.length := by simp
    have hcmp : CmpLays1 Try.prog 56 #[] (encP P) (cfP P) g 0 (List.range P.length).toArray.size w := by
      intro m os dk _ x y
      have hin2 : OwnP (sortWorld (encP P) w g 0 m dk os) lo P := OwnP.grown hin hrow (grown_put (encP P) (n := m) (os := os) dk)
      have hx := gp_own hin2 x
      have hy := gp_own hin2 y
      refine (CompareI_any _ _ _ _ _ _ _ _ _ _ _ hx.rd hy.rd).mono ?_
      rintro e w' ⟨rfl, rfl⟩
      refine ⟨rfl, 0, #[], ?_⟩
      rw [grow_none]
      rfl
    have hcon := Any.slices_SortFunc Try.sortFL (encP P) (fun _ => rfl) (cfP P) (cfP_swo P) 56 #[] g 0 c (List.range P.length).toArray w eg hcmp hH (Array.getElem?_eq_some_iff.1 hh).1 (by rw [hsz]; omega)
    rw [hsz] at hcon
    refine hcon.mono ?_
    rintro e w' ⟨rfl, d', k, os, hp, hs, rfl⟩
    obtain ⟨hp1, _, hp3⟩ := hp
    rw [hsz] at hp1
    have e1 : (d'.extract 0 P.length).toList = d'.toList := by rw [← hp1]; simp
    have e2 : ((List.range P.length).toArray.extract 0 P.length).toList = List.range P.length := by simp
    rw [e1, e2] at hp3
    have hl' : d'.toList.length = P.length := by simpa using hp1
    refine ⟨rfl, d'.toList.map (gp P), ?_, ?_, ?_, grown_put _ _⟩
    · have := hp3.map (gp P)
      rw [gp_range] at this
      exact this
    · rw [List.map_map, List.pairwise_map, List.pairwise_iff_getElem]
      intro i j hi hj hij
      have h1 := hs i j (Nat.zero_le _) hij (by omega)
      have g1 : d'[i]! = d'.toList[i] := by simp [show i < d'.size by omega]
      have g2 : d'[j]! = d'.toList[j] := by simp [show j < d'.size by omega]
      rw [g1, g2] at h1
      have h2 : ltL (gp P d'.toList[j]).2 (gp P d'.toList[i]).2 = false := (cmpL_lt _ _).symm.trans h1
      exact h2
    · have h3 := row_put (encP P) (n := k) (os := os) hrow h0 d'.toList (m := P.length) (by omega) (by omega)
      rw [List.take_of_length_le (by omega)] at h3
      rw [List.map_map]
      exact h3
/-- What is sorted, each once, is in strict order. -/
theorem cmp_asc (P : List SP) (hs : (P.map Prod.snd).Pairwise (fun a b => ltL b a = false)) : ∀ k, k ≤ P.length → Asc ((cmp P k).map Prod.snd) ∧ ∀ x ∈ (cmp P k).map Prod.snd, ∀ j, k ≤ j + 1 → ∀ p, P[j]? = some p → ltL p.2 x = false := by
  intro k
  induction k with
  | zero => intro _; simp [cmp, Asc]
  | succ k ih =>
    intro hk
    obtain ⟨h1, h2⟩ := ih (by omega)
    have hp : P[k]? = some P[k] := List.getElem?_eq_getElem (by omega)
    have hge : ∀ j, k ≤ j → ∀ p, P[j]? = some p → ltL p.2 (P[k]'(by omega)).2 = false := by
      intro j hj p hpj
      rcases Nat.lt_or_ge k j with h | h
      · rw [List.pairwise_map, List.pairwise_iff_getElem] at hs
        obtain ⟨g1, rfl⟩ := List.getElem?_eq_some_iff.1 hpj
        exact hs k j (by omega) g1 h
      · obtain rfl : j = k := by omega
        rw [hp] at hpj
        injection hpj with e
        rw [e]
        exact ltL_irrefl _
    by_cases hd : 0 < k ∧ (P[k]'(by omega)).2 = (P[k - 1]'(by omega)).2
    · rw [cmp_skip hd.1 hp (List.getElem?_eq_getElem (by omega)) hd.2]
      exact ⟨h1, fun x hx j hj p hpj => h2 x hx j (by omega) p hpj⟩
    · have hd2 : k = 0 ∨ ∃ q, P[k - 1]? = some q ∧ (P[k]'(by omega)).2 ≠ q.2 := by
        rcases Nat.eq_zero_or_pos k with h0 | h0
        · exact .inl h0
        · exact .inr ⟨P[k - 1]'(by omega), List.getElem?_eq_getElem (by omega), fun e => hd ⟨h0, e⟩⟩
      rw [cmp_keep hp hd2, List.map_append]
      refine ⟨?_, fun x hx j hj p hpj => ?_⟩
      · unfold Asc
        rw [List.pairwise_append]
        refine ⟨h1, by simp, fun a ha b hb => ?_⟩
        simp only [List.map_cons, List.map_nil, List.mem_singleton] at hb
        subst hb
        rcases hd2 with rfl | ⟨q, hq, hne⟩
        · simp [cmp] at ha
        · have g1 := h2 a ha k (by omega) _ hp
          cases h3 : ltL a (P[k]'(by omega)).2 with
          | true => rfl
          | false =>
            exfalso
            have h0 : 0 < k := by
              rcases Nat.eq_zero_or_pos k with h0 | h0
              · subst h0; simp [cmp] at ha
              · exact h0
            have e : a = (P[k]'(by omega)).2 := ltL_total h3 g1
            have g2 := h2 a ha (k - 1) (by omega) q hq
            have g3 : ltL (P[k]'(by omega)).2 q.2 = false := by
              rw [List.pairwise_map, List.pairwise_iff_getElem] at hs
              obtain ⟨l1, rfl⟩ := List.getElem?_eq_some_iff.1 hq
              exact hs (k - 1) k l1 (by omega) (by omega)
            rw [e] at g2
            exact hne (ltL_total g3 g2)
      · rw [List.mem_append] at hx
        rcases hx with hx | hx
        · exact h2 x hx j (by omega) p hpj
        · simp only [List.map_cons, List.map_nil, List.mem_singleton] at hx
          subst hx
          exact hge j (by omega) p hpj
theorem cmp_same (P : List SP) (x : List Int) : x ∈ (cmp P P.length).map Prod.snd ↔ x ∈ P.map Prod.snd := by
  have h := (cmp_feq P P.length (Nat.le_refl _)).mem x
  rw [List.take_length] at h
  exact h
end Go.Proofs.Ytopmifidhabobaa
