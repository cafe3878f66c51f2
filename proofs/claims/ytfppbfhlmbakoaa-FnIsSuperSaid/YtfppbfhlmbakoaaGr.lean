/-
  Plain laws of the greedy way: the two texts with the greatest overlap, the first such; what is left.
-/
import Derived.Test.YtfppbfhlmbakoaaOrd
namespace Go.Proofs.Ytfppbfhlmbakoaa
set_option linter.unusedVariables false
set_option linter.unusedSimpArgs false

/-- What has been found so far: two indices and their overlap, -1 for none. -/
def gSt (ws : List (List UInt8)) (st : Int × Int × Int) (i k : Nat) : Int × Int × Int :=
  if i ≠ k ∧ st.2.2 < ((ovl (wd ws i) (wd ws k) : Nat) : Int) then ((i : Int), (k : Int), ((ovl (wd ws i) (wd ws k) : Nat) : Int)) else st
def gRow (ws : List (List UInt8)) (i : Nat) (st : Int × Int × Int) : Nat → Int × Int × Int
  | 0 => st
  | k + 1 => gSt ws (gRow ws i st k) i k
def gAll (ws : List (List UInt8)) : Nat → Int × Int × Int
  | 0 => (-1, -1, -1)
  | i + 1 => gRow ws i (gAll ws i) ws.length
def GOk (ws : List (List UInt8)) (st : Int × Int × Int) (P : Nat → Nat → Prop) : Prop :=
  (st = (-1, -1, -1) ∧ ∀ i k, P i k → i = k) ∨
  (∃ a b : Nat, st = ((a : Int), (b : Int), ((ovl (wd ws a) (wd ws b) : Nat) : Int)) ∧ P a b ∧ a ≠ b ∧ ∀ i k, P i k → i ≠ k → ovl (wd ws i) (wd ws k) ≤ ovl (wd ws a) (wd ws b))
theorem GOk.step {ws : List (List UInt8)} {st : Int × Int × Int} {P P' : Nat → Nat → Prop} (h : GOk ws st P) (i k : Nat) (hP : ∀ x y, P' x y ↔ P x y ∨ (x = i ∧ y = k)) : GOk ws (gSt ws st i k) P' := by
  unfold gSt
  split
  · next hc =>
    right
    refine ⟨i, k, rfl, (hP i k).2 (.inr ⟨rfl, rfl⟩), hc.1, fun x y hxy hne => ?_⟩
    rcases (hP x y).1 hxy with h1 | ⟨rfl, rfl⟩
    · rcases h with ⟨rfl, h2⟩ | ⟨a, b, rfl, _, _, h2⟩
      · exact absurd (h2 x y h1) hne
      · have := h2 x y h1 hne
        have := hc.2
        simp only at this
        omega
    · exact Nat.le_refl _
  · next hc =>
    rcases h with ⟨rfl, h2⟩ | ⟨a, b, rfl, h1, hab, h2⟩
    · left
      refine ⟨rfl, fun x y hxy => ?_⟩
      rcases (hP x y).1 hxy with h1 | ⟨rfl, rfl⟩
      · exact h2 x y h1
      · apply Decidable.byContradiction
        intro hne
        exact hc ⟨hne, by simp only; omega⟩
    · right
      refine ⟨a, b, rfl, (hP a b).2 (.inl h1), hab, fun x y hxy hne => ?_⟩
      rcases (hP x y).1 hxy with h3 | ⟨rfl, rfl⟩
      · exact h2 x y h3 hne
      · apply Decidable.byContradiction
        intro hlt
        exact hc ⟨hne, by simp only; omega⟩
theorem gRow_ok {ws : List (List UInt8)} {i : Nat} {st : Int × Int × Int} {P : Nat → Nat → Prop} (h : GOk ws st P) (k : Nat) : GOk ws (gRow ws i st k) (fun x y => P x y ∨ (x = i ∧ y < k)) := by
  induction k with
  | zero =>
    have e : (fun x y => P x y ∨ (x = i ∧ y < 0)) = P := by
      funext x y
      simp
    rw [e]
    exact h
  | succ k ih =>
    refine ih.step i k (fun x y => ?_)
    show (P x y ∨ (x = i ∧ y < k + 1)) ↔ (P x y ∨ (x = i ∧ y < k)) ∨ (x = i ∧ y = k)
    have e : y < k + 1 ↔ y < k ∨ y = k := by omega
    rw [e, or_assoc, and_or_left]
theorem gAll_ok (ws : List (List UInt8)) (i : Nat) : GOk ws (gAll ws i) (fun x y => x < i ∧ y < ws.length) := by
  induction i with
  | zero => exact .inl ⟨rfl, fun x y h => by omega⟩
  | succ i ih =>
    have h := gRow_ok ih (i := i) ws.length
    have e : (fun x y => (x < i ∧ y < ws.length) ∨ (x = i ∧ y < ws.length)) = (fun x y => x < i + 1 ∧ y < ws.length) := by
      funext x y
      apply propext
      omega
    rw [e] at h
    exact h
theorem gRow_bounds {ws : List (List UInt8)} {i n : Nat} {st : Int × Int × Int} (hi : i < n) (k : Nat) (hk : k ≤ n) (h : -1 ≤ st.1 ∧ st.1 < n ∧ -1 ≤ st.2.1 ∧ st.2.1 < n ∧ -1 ≤ st.2.2) : -1 ≤ (gRow ws i st k).1 ∧ (gRow ws i st k).1 < n ∧ -1 ≤ (gRow ws i st k).2.1 ∧ (gRow ws i st k).2.1 < n ∧ -1 ≤ (gRow ws i st k).2.2 := by
  induction k with
  | zero => exact h
  | succ k ih =>
    rw [gRow, gSt]
    split
    · simp only; omega
    · exact ih (by omega)
/-- The two that are put together. -/
def gA (ws : List (List UInt8)) : Nat := (gAll ws ws.length).1.toNat
def gB (ws : List (List UInt8)) : Nat := (gAll ws ws.length).2.1.toNat
theorem gAll_two {ws : List (List UInt8)} (h : 2 ≤ ws.length) : gAll ws ws.length = ((gA ws : Int), (gB ws : Int), ((ovl (wd ws (gA ws)) (wd ws (gB ws)) : Nat) : Int)) ∧ gA ws < ws.length ∧ gB ws < ws.length ∧ gA ws ≠ gB ws ∧ ∀ i k, i < ws.length → k < ws.length → i ≠ k → ovl (wd ws i) (wd ws k) ≤ ovl (wd ws (gA ws)) (wd ws (gB ws)) := by
  rcases gAll_ok ws ws.length with ⟨_, h2⟩ | ⟨a, b, he, h1, hab, h2⟩
  · have := h2 0 1 ⟨by omega, by omega⟩
    omega
  · have ha : gA ws = a := by unfold gA; rw [he]; simp
    have hb : gB ws = b := by unfold gB; rw [he]; simp
    rw [ha, hb]
    exact ⟨he, h1.1, h1.2, hab, fun i k hi hk hne => h2 i k ⟨hi, hk⟩ hne⟩
def gMid (ws : List (List UInt8)) : List UInt8 := mrg (wd ws (gA ws)) (wd ws (gB ws))
def gStep (ws : List (List UInt8)) : List (List UInt8) := (ws.set (min (gA ws) (gB ws)) (gMid ws)).eraseIdx (max (gA ws) (gB ws))
theorem gStep_len {ws : List (List UInt8)} (h : 2 ≤ ws.length) : (gStep ws).length + 1 = ws.length := by
  obtain ⟨_, h1, h2, _, _⟩ := gAll_two h
  unfold gStep
  rw [List.length_eraseIdx_of_lt (by rw [List.length_set]; omega), List.length_set]
  omega
theorem split_two {ws : List (List UInt8)} {lo hi : Nat} (h1 : lo < hi) (h2 : hi < ws.length) : ∃ X Y Z, ws = X ++ wd ws lo :: (Y ++ wd ws hi :: Z) ∧ X.length = lo ∧ X.length + 1 + Y.length = hi := by
  refine ⟨ws.take lo, (ws.drop (lo + 1)).take (hi - (lo + 1)), ws.drop (hi + 1), ?_, by rw [List.length_take]; omega, by rw [List.length_take, List.length_take, List.length_drop]; omega⟩
  have e1 : wd ws lo = ws[lo] := wd_at (List.getElem?_eq_getElem _)
  have e2 : wd ws hi = ws[hi] := wd_at (List.getElem?_eq_getElem _)
  have e3 : ws.drop hi = ws[hi] :: ws.drop (hi + 1) := List.drop_eq_getElem_cons h2
  have e4 : ws.drop (lo + 1) = (ws.drop (lo + 1)).take (hi - (lo + 1)) ++ ws.drop hi := by
    have := (List.take_append_drop (hi - (lo + 1)) (ws.drop (lo + 1))).symm
    rw [List.drop_drop, show lo + 1 + (hi - (lo + 1)) = hi by omega] at this
    exact this
  have e5 : ws.drop lo = ws[lo] :: ws.drop (lo + 1) := List.drop_eq_getElem_cons (by omega)
  rw [e1, e2, ← e3, ← e4, ← e5, List.take_append_drop]
theorem set_erase (X Y Z : List (List UInt8)) (u v m : List UInt8) : ((X ++ u :: (Y ++ v :: Z)).set X.length m).eraseIdx (X.length + 1 + Y.length) = X ++ m :: (Y ++ Z) := by
  rw [List.set_append_right _ _ (Nat.le_refl _), Nat.sub_self, List.set_cons_zero, List.eraseIdx_append_of_length_le (by omega), show X.length + 1 + Y.length - X.length = Y.length + 1 by omega, List.eraseIdx_cons_succ, List.eraseIdx_append_of_length_le (Nat.le_refl _), Nat.sub_self, List.eraseIdx_cons_zero]
theorem gStep_perm {ws : List (List UInt8)} (h : 2 ≤ ws.length) : ∃ R, ws.Perm (wd ws (gA ws) :: wd ws (gB ws) :: R) ∧ (gStep ws).Perm (gMid ws :: R) := by
  obtain ⟨_, h1, h2, hne, _⟩ := gAll_two h
  have hlt : min (gA ws) (gB ws) < max (gA ws) (gB ws) := by omega
  obtain ⟨X, Y, Z, he, hx, hy⟩ := split_two hlt (show max (gA ws) (gB ws) < ws.length by omega)
  refine ⟨X ++ (Y ++ Z), ?_, ?_⟩
  · have p1 : ws.Perm (wd ws (min (gA ws) (gB ws)) :: wd ws (max (gA ws) (gB ws)) :: (X ++ (Y ++ Z))) := by
      have p : (X ++ wd ws (min (gA ws) (gB ws)) :: (Y ++ wd ws (max (gA ws) (gB ws)) :: Z)).Perm (wd ws (min (gA ws) (gB ws)) :: wd ws (max (gA ws) (gB ws)) :: (X ++ (Y ++ Z))) := by
        refine List.perm_middle.trans (List.Perm.cons _ ?_)
        rw [← List.append_assoc]
        refine List.perm_middle.trans ?_
        rw [List.append_assoc]
      exact (List.Perm.of_eq he).trans p
    rcases Nat.lt_or_ge (gA ws) (gB ws) with h3 | h3
    · rw [Nat.min_eq_left (by omega), Nat.max_eq_right (by omega)] at p1
      exact p1
    · rw [Nat.min_eq_right (by omega), Nat.max_eq_left (by omega)] at p1
      exact p1.trans (List.Perm.swap _ _ _)
  · have e : gStep ws = X ++ gMid ws :: (Y ++ Z) := by
      unfold gStep
      generalize gMid ws = q
      have := set_erase X Y Z (wd ws (min (gA ws) (gB ws))) (wd ws (max (gA ws) (gB ws))) q
      rw [← he, hx, show min (gA ws) (gB ws) + 1 + Y.length = max (gA ws) (gB ws) by omega] at this
      exact this
    rw [e]
    exact List.perm_middle
theorem gStep_ltr {ws : List (List UInt8)} (h : 2 ≤ ws.length) : ltr (gStep ws) ≤ ltr ws := by
  obtain ⟨R, h1, h2⟩ := gStep_perm h
  rw [ltr_perm h1, ltr_perm h2, ltr_cons, ltr_cons, ltr_cons]
  have := mrg_length (wd ws (gA ws)) (wd ws (gB ws))
  unfold gMid
  omega
theorem ltr_mem {ws : List (List UInt8)} {x : List UInt8} (h : x ∈ ws) : x.length ≤ ltr ws := by
  obtain ⟨a, b, rfl⟩ := List.append_of_mem h
  unfold ltr
  simp
  omega
/-- What is left behind j steps. -/
def gIt (ws : List (List UInt8)) : Nat → List (List UInt8)
  | 0 => ws
  | j + 1 => gStep (gIt ws j)
theorem gIt_len (ws : List (List UInt8)) (j : Nat) (hj : j + 1 ≤ ws.length) : (gIt ws j).length + j = ws.length := by
  induction j with
  | zero => rfl
  | succ j ih =>
    have h1 := ih (by omega)
    have h2 := gStep_len (ws := gIt ws j) (by omega)
    rw [gIt]
    omega
theorem gIt_ltr (ws : List (List UInt8)) (j : Nat) (hj : j + 1 ≤ ws.length) : ltr (gIt ws j) ≤ ltr ws := by
  induction j with
  | zero => exact Nat.le_refl _
  | succ j ih =>
    have h1 := ih (by omega)
    have h2 := gIt_len ws j (by omega)
    have h3 := gStep_ltr (ws := gIt ws j) (by omega)
    rw [gIt]
    omega
/-- The text of the greedy way. -/
def gTxt (ws : List (List UInt8)) : List UInt8 := (gIt ws (ws.length - 1)).headD []
theorem gr_it (ws : List (List UInt8)) (d : Nat) : ∀ j, j + d + 1 = ws.length → Gr (gIt ws j) (gTxt ws) := by
  induction d with
  | zero =>
    intro j hj
    have h1 := gIt_len ws j (by omega)
    have hl : (gIt ws j).length = 1 := by omega
    obtain ⟨t, ht⟩ := List.length_eq_one_iff.1 hl
    have : gTxt ws = t := by
      unfold gTxt
      rw [show ws.length - 1 = j by omega, ht]
      rfl
    rw [ht, this]
    exact Gr.one t
  | succ d ih =>
    intro j hj
    have h1 := gIt_len ws j (by omega)
    have h2 : 2 ≤ (gIt ws j).length := by omega
    obtain ⟨R, p1, p2⟩ := gStep_perm h2
    obtain ⟨_, ha, hb, hne, hmax⟩ := gAll_two h2
    refine Gr.step p1 ?_ p2 (ih (j + 1) (by omega))
    intro u v T hp
    obtain ⟨i, k, hi, hk, hik, hu, hv⟩ : ∃ i k, i < (gIt ws j).length ∧ k < (gIt ws j).length ∧ i ≠ k ∧ wd (gIt ws j) i = u ∧ wd (gIt ws j) k = v := by
      obtain ⟨o, ho, he⟩ := sel_of_perm hp.symm
      cases o with
      | nil => cases he
      | cons i o =>
        cases o with
        | nil => simp [sel] at he
        | cons k o =>
          simp only [sel, List.map_cons, List.cons.injEq] at he
          have hm := ho.mem_iff (a := i)
          have hm2 := ho.mem_iff (a := k)
          have hn := ho.nodup_iff.2 List.nodup_range
          refine ⟨i, k, by simpa using hm.1 (by simp), by simpa using hm2.1 (by simp), ?_, he.1, he.2.1⟩
          rintro rfl
          simp at hn
    rw [← hu, ← hv]
    exact hmax i k hi hk hik
theorem gr_txt {ws : List (List UInt8)} (h : ws ≠ []) : Gr ws (gTxt ws) := by
  have := List.length_pos_iff.2 h
  exact gr_it ws (ws.length - 1) 0 (by omega)
end Go.Proofs.Ytfppbfhlmbakoaa
