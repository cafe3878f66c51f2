/-
  Plain laws of covers and rings: at least one letter a word; covers are at most rings; rings are at most all letters.
-/
import Derived.Test.YtfppbfhlmbakoaaCov
import Derived.Test.YtfppbfhlmbakoaaRedPlain
namespace Go.Proofs.Ytfppbfhlmbakoaa
set_option linter.unusedVariables false
set_option linter.unusedSimpArgs false

theorem sum_perm {l m : List Int} (h : l.Perm m) : l.sum = m.sum := by
  induction h with
  | nil => rfl
  | cons x _ ih => simp [ih]
  | swap x y l => simp; omega
  | trans _ _ ih1 ih2 => exact ih1.trans ih2
theorem sum_le_sum {α : Type} (l : List α) (f g : α → Int) (h : ∀ x ∈ l, f x ≤ g x) : (l.map f).sum ≤ (l.map g).sum := by
  induction l with
  | nil => simp
  | cons a l ih =>
    have h1 := h a (by simp)
    have h2 := ih (fun x hx => h x (by simp [hx]))
    simp only [List.map_cons, List.sum_cons]
    omega
theorem wayTo_sum (ws : List (List UInt8)) (bh : List Nat → Nat → Nat × Nat) (o : List Nat) (k : Nat) : wayTo ws bh o k = ((List.range k).map fun j => stp ws (bh o j).1 (bh o j).2).sum := by
  induction k with
  | zero => rfl
  | succ k ih => rw [wayTo, ih, List.range_succ, List.map_append, List.sum_append]; simp
theorem wayTo_ge (ws : List (List UInt8)) (bh : List Nat → Nat → Nat × Nat) (o : List Nat) (k : Nat) (h : ∀ j, j < k → wd ws (bh o j).1 ≠ []) : (k : Int) ≤ wayTo ws bh o k := by
  induction k with
  | zero => simp [wayTo]
  | succ k ih =>
    have h1 := ih (fun j hj => h j (by omega))
    have h2 := stp_pos ws (bh o k).1 (bh o k).2 (h k (by omega))
    rw [wayTo]
    omega
/-- Each ring is a cover. -/
theorem ring_cover (ws : List (List UInt8)) (m : Nat) {o : List Nat} (ho : o.Perm (List.range m)) : ∃ x : List Nat, x.Perm (List.range m) ∧ way ws bhC x = way ws bhR o := by
  have hl : o.length = m := by simpa using ho.length_eq
  have hn : o.Nodup := ho.nodup_iff.2 List.nodup_range
  obtain ⟨σ, hσ⟩ : ∃ σ : Nat → Nat, σ = fun a => o.getD ((o.idxOf a + 1) % o.length) 0 := ⟨_, rfl⟩
  have hat : ∀ k, k < m → σ (o.getD k 0) = o.getD ((k + 1) % m) 0 := by
    intro k hk
    have e1 : o.getD k 0 = o[k]'(by omega) := by simp [List.getD_eq_getElem?_getD, List.getElem?_eq_getElem (show k < o.length by omega)]
    rw [hσ, e1]
    dsimp only
    rw [hn.idxOf_getElem k (by omega), hl]
  have hmap : o.map σ = (List.range m).map fun k => o.getD ((k + 1) % m) 0 := by
    refine List.ext_getElem (by simp [hl]) fun k h1 h2 => ?_
    simp only [List.getElem_map, List.getElem_range]
    rw [← hat k (by simpa [hl] using h1)]
    congr 1
    simp [List.getD_eq_getElem?_getD, List.getElem?_eq_getElem (show k < o.length by simpa using h1)]
  have hrot : (o.map σ).Perm o := by
    rw [hmap]
    rcases Nat.eq_zero_or_pos m with h0 | h0
    · subst h0
      rw [List.eq_nil_of_length_eq_zero hl]
      exact List.Perm.refl _
    · cases o with
      | nil => simp at hl; omega
      | cons a t =>
        have e : ((List.range m).map fun k => (a :: t).getD ((k + 1) % m) 0) = t ++ [a] := by
          refine List.ext_getElem (by simp at hl ⊢; omega) fun k h1 h2 => ?_
          simp only [List.getElem_map, List.getElem_range]
          simp at h1 hl
          by_cases hk : k + 1 < m
          · rw [Nat.mod_eq_of_lt hk, List.getElem_append_left (by omega)]
            simp [List.getD_eq_getElem?_getD, List.getElem?_eq_getElem (show k < t.length by omega)]
          · rw [show k + 1 = m by omega, Nat.mod_self, List.getElem_append_right (by omega)]
            simp
        rw [e]
        exact List.perm_append_comm (l₁ := t) (l₂ := [a])
  refine ⟨(List.range m).map σ, ((ho.map σ).symm.trans hrot).trans ho, ?_⟩
  have e1 : way ws bhC ((List.range m).map σ) = ((List.range m).map fun a => stp ws a (σ a)).sum := by
    unfold way
    rw [wayTo_sum]
    simp only [List.length_map, List.length_range]
    congr 1
    refine List.map_congr_left fun k hk => ?_
    unfold bhC
    simp only
    rw [List.getD_eq_getElem?_getD, List.getElem?_map, List.getElem?_range (by simpa using hk)]
    rfl
  have e2 : way ws bhR o = (o.map fun a => stp ws a (σ a)).sum := by
    unfold way
    rw [wayTo_sum, hl]
    congr 1
    refine List.ext_getElem (by simp [hl]) fun k h1 h2 => ?_
    simp only [List.getElem_map, List.getElem_range]
    have hk : k < m := by simpa using h1
    unfold bhR
    simp only
    have e1 : o.getD k 0 = o[k]'(by omega) := by simp [List.getD_eq_getElem?_getD, List.getElem?_eq_getElem (show k < o.length by omega)]
    have e3 : o.getD ((k + 1) % o.length) 0 = σ (o[k]'(by omega)) := by rw [← e1, hat k hk, hl]
    rw [e3, e1]
  rw [e1, e2]
  exact sum_perm ((ho.map _).symm)
theorem least_cover (ws : List (List UInt8)) : IsLeast (way (red ws) bhC) (ord (red ws).length (red ws).length []) (covF (red ws) (red ws).length (red ws).length []) := by
  have := covF_least (red ws) (red ws).length (red ws).length [] List.nodup_nil (fun j hj => by cases hj) (by simp)
  rwa [show way (red ws) bhC [] = 0 from rfl, Int.zero_add] at this
theorem kept_least {α : Type} {f : α → Int} {L : List α} (h : L ≠ []) : IsLeast f L ((keptI f L).getD 0) := by
  have hk := keptI_kept f L
  cases ho : keptI f L with
  | none => rw [ho] at hk; exact absurd hk h
  | some m => rw [ho] at hk; exact hk
theorem WY_least {ws : List (List UInt8)} (bh : List Nat → Nat → Nat × Nat) (hv : vw ws = true) : IsLeast (way (red ws) bh) (ord (red ws).length (red ws).length []) (WY ws bh) := by
  unfold WY
  rw [hv, if_pos rfl]
  exact kept_least (ord_ne_nil _ _ _ List.nodup_nil (fun j hj => by cases hj) (by simp))
theorem wd_ne {ws : List (List UInt8)} (hv : vw ws = true) {i : Nat} (hi : i < (red ws).length) : wd (red ws) i ≠ [] := by
  have h1 := wd_mem hi
  have h2 := wOk_len (vw_all' hv _ (red_sub h1))
  intro h
  rw [h] at h2
  simp at h2
theorem cover_ge {ws : List (List UInt8)} (hv : vw ws = true) : ((red ws).length : Int) ≤ WY ws bhC := by
  obtain ⟨⟨x, hx, h1⟩, _⟩ := WY_least bhC hv
  have hp := (mem_orders _ x).1 hx
  have hl : x.length = (red ws).length := by simpa using hp.length_eq
  rw [← h1]
  unfold way
  rw [hl]
  exact wayTo_ge _ _ _ _ fun j hj => wd_ne hv (bhC_lt x _ j hp hj).1
theorem cover_le_ring {ws : List (List UInt8)} (hv : vw ws = true) : WY ws bhC ≤ WY ws bhR := by
  obtain ⟨⟨o, ho, h1⟩, _⟩ := WY_least bhR hv
  obtain ⟨x, hx, h2⟩ := ring_cover (red ws) _ ((mem_orders _ o).1 ho)
  obtain ⟨_, h3⟩ := WY_least bhC hv
  have := h3 x ((mem_orders _ x).2 hx)
  omega
theorem redTo_letters (ws : List (List UInt8)) (k : Nat) (hk : k ≤ ws.length) : ltr (redTo ws k) ≤ ltr (ws.take k) := by
  induction k with
  | zero => simp [redTo, ltr]
  | succ k ih =>
    have h1 := ih (by omega)
    have hx : ws[k]? = some (ws[k]'(by omega)) := List.getElem?_eq_getElem _
    rw [redTo_succ hx, List.take_succ_eq_append_getElem (by omega)]
    unfold ltr at h1 ⊢
    rw [List.map_append, List.sum_append]
    split
    · omega
    · rw [List.map_append, List.sum_append]; omega
theorem way_le_letters (ws : List (List UInt8)) {o : List Nat} (ho : o.Perm (List.range ws.length)) : way ws bhR o ≤ (ltr ws : Int) := by
  have hl : o.length = ws.length := by simpa using ho.length_eq
  unfold way
  rw [wayTo_sum, hl]
  have h1 := sum_le_sum (List.range ws.length) (fun j => stp ws (bhR o j).1 (bhR o j).2) (fun j => ((wd ws (o.getD j 0)).length : Int)) (fun j hj => stp_le ws _ _)
  refine Int.le_trans h1 ?_
  have e : ((List.range ws.length).map fun j => ((wd ws (o.getD j 0)).length : Int)) = (sel ws o).map fun x => (x.length : Int) := by
    refine List.ext_getElem (by simp [sel, hl]) fun k h1 h2 => ?_
    have hk : k < o.length := by simpa [sel] using h2
    simp [sel, List.getD_eq_getElem?_getD, List.getElem?_eq_getElem hk]
  rw [e, sum_perm ((sel_perm ho).map _)]
  unfold ltr
  have : ∀ l : List (List UInt8), (l.map fun x => (x.length : Int)).sum = ((l.map List.length).sum : Nat) := by
    intro l
    induction l with
    | nil => rfl
    | cons a l ih => simp only [List.map_cons, List.sum_cons, ih]; omega
  rw [this]
  exact Int.le_refl _
theorem ring_le {ws : List (List UInt8)} (hv : vw ws = true) : WY ws bhR ≤ (ltr ws : Int) := by
  obtain ⟨⟨o, ho, h1⟩, _⟩ := WY_least bhR hv
  have h2 := way_le_letters (red ws) ((mem_orders _ o).1 ho)
  have h3 := redTo_letters ws ws.length (Nat.le_refl _)
  rw [List.take_length] at h3
  have h4 : ltr (red ws) ≤ ltr ws := h3
  omega
theorem ring_zero {ws : List (List UInt8)} (hv : vw ws = true) : WY ws bhR = 0 ↔ ws = [] := by
  constructor
  · intro h
    have h1 := cover_ge hv
    have h2 := cover_le_ring hv
    have h3 : (red ws).length = 0 := by omega
    apply Decidable.byContradiction
    intro hne
    exact red_ne_nil hne (List.eq_nil_of_length_eq_zero h3)
  · rintro rfl
    have := ring_le hv
    have h1 := cover_ge hv
    have h2 := cover_le_ring hv
    simp [ltr] at this
    omega
theorem WY_neg {ws : List (List UInt8)} (bh : List Nat → Nat → Nat × Nat) (hv : vw ws = false) : WY ws bh = -1 := by unfold WY; rw [hv]; rfl
theorem RW_yes {ws : List (List UInt8)} (hv : vw ws = true) : RW ws = red ws := by unfold RW; rw [hv]; rfl
end Go.Proofs.Ytfppbfhlmbakoaa
