/-
  Plain laws of the least over all orders: covers, rings and texts, counted from one number to the next.
-/
import Derived.Test.YtfppbfhlmbakoaaOrd
namespace Go.Proofs.Ytfppbfhlmbakoaa
set_option linter.unusedVariables false
set_option linter.unusedSimpArgs false

/-- The least of numbers that have been offered. -/
def keepI (o : Option Int) (x : Int) : Option Int := some (match o with | none => x | some m => if x < m then x else m)
/-- What is kept when all things of a list have been offered. -/
def keptI {α : Type} (f : α → Int) (L : List α) : Option Int := L.foldl (fun o x => keepI o (f x)) none
theorem keptI_snoc {α : Type} (f : α → Int) (L : List α) (x : α) : keptI f (L ++ [x]) = keepI (keptI f L) (f x) := by simp [keptI]
theorem rev_ind {α : Type} {p : List α → Prop} (h0 : p []) (h1 : ∀ l x, p l → p (l ++ [x])) (l : List α) : p l := by
  have : ∀ n, ∀ l : List α, l.length = n → p l := by
    intro n
    induction n with
    | zero => intro l hl; rw [List.eq_nil_of_length_eq_zero hl]; exact h0
    | succ n ih =>
      intro l hl
      have hne : l ≠ [] := by rintro rfl; cases hl
      rw [← List.dropLast_concat_getLast hne]
      exact h1 _ _ (ih _ (by rw [List.length_dropLast]; omega))
  exact this _ l rfl
theorem keptI_kept {α : Type} (f : α → Int) (L : List α) : Kept f L (keptI f L) := by
  induction L using rev_ind with
  | h0 => rfl
  | h1 L x ih =>
    rw [keptI_snoc]
    have h1 : IsLeast f [x] (f x) := ⟨⟨x, by simp, rfl⟩, fun y hy => by rw [List.mem_singleton] at hy; rw [hy]; exact Int.le_refl _⟩
    cases ho : keptI f L with
    | none =>
      rw [ho] at ih
      have ih : L = [] := ih
      subst ih
      exact h1
    | some m =>
      rw [ho] at ih
      exact IsLeast.app ih h1
theorem keptI_least {α : Type} {f : α → Int} {L : List α} {m : Int} (h : IsLeast f L m) : (keptI f L).getD 0 = m := by
  have hk := keptI_kept f L
  cases ho : keptI f L with
  | none =>
    rw [ho] at hk
    have hk : L = [] := hk
    subst hk
    obtain ⟨⟨x, hx, _⟩, _⟩ := h
    cases hx
  | some k =>
    rw [ho] at hk
    exact IsLeast.unique hk h
/-- The best of the numbers below i that are offered. -/
def bestTo (F : Nat → Option Int) : Nat → Option Int
  | 0 => none
  | i + 1 => match F i with
    | none => bestTo F i
    | some x => keepI (bestTo F i) x
theorem bestTo_kept {m f : Nat} {h : List Nat} {val : List Nat → Int} {c : Int} {F : Nat → Option Int} (h0 : ∀ i, i ∈ h → F i = none) (h1 : ∀ i, i < m → i ∉ h → ∃ x, F i = some x ∧ IsLeast val (ord m f (h ++ [i])) (c + x)) :
    ∀ k, k ≤ m → Kept val (ordTo m f h k) ((bestTo F k).map (c + ·)) := by
  intro k
  induction k with
  | zero => intro _; rfl
  | succ k ih =>
    intro hk
    have ih := ih (by omega)
    rw [ordTo_succ, bestTo]
    by_cases hm : k ∈ h
    · rw [h0 k hm, if_pos hm, List.append_nil]
      exact ih
    · obtain ⟨x, hx, hl⟩ := h1 k (by omega) hm
      rw [hx, if_neg hm]
      cases hb : bestTo F k with
      | none =>
        rw [hb] at ih
        have ih : ordTo m f h k = [] := ih
        rw [ih, List.nil_append]
        exact hl
      | some b =>
        rw [hb] at ih
        have := IsLeast.app ih hl
        simp only [keepI, Option.map_some]
        have e : (c + if x < b then x else b) = if c + x < c + b then c + x else c + b := by split <;> split <;> omega
        rw [e]
        exact this
theorem ord_snoc_ok {m : Nat} {h : List Nat} {i f : Nat} (hn : h.Nodup) (hl : ∀ j ∈ h, j < m) (hf : h.length + (f + 1) = m) (hi : i < m) (hm : i ∉ h) : (h ++ [i]).Nodup ∧ (∀ j ∈ h ++ [i], j < m) ∧ (h ++ [i]).length + f = m := by
  refine ⟨?_, fun j hj => ?_, by simp; omega⟩
  · rw [List.nodup_append]
    exact ⟨hn, by simp, fun a ha b hb => by rw [List.mem_singleton] at hb; subst hb; rintro rfl; exact hm ha⟩
  · rw [List.mem_append, List.mem_singleton] at hj
    rcases hj with hj | rfl
    · exact hl j hj
    · exact hi
theorem best_some {m f : Nat} {h : List Nat} {val : List Nat → Int} {o : Option Int} {c : Int} (hn : h.Nodup) (hl : ∀ j ∈ h, j < m) (hf : h.length + (f + 1) = m) (hk : Kept val (ordTo m f h m) (o.map (c + ·))) : ∃ b, o = some b ∧ IsLeast val (ord m (f + 1) h) (c + b) := by
  cases o with
  | none =>
    have hk : ordTo m f h m = [] := hk
    exact absurd hk (ord_ne_nil m (f + 1) h hn hl hf)
  | some b => exact ⟨b, rfl, hk⟩

/-! ### covers -/
def covF (ws : List (List UInt8)) (m : Nat) : Nat → List Nat → Int
  | 0, _ => 0
  | f + 1, h => (bestTo (fun i => if i ∈ h then none else some (stp ws h.length i + covF ws m f (h ++ [i]))) m).getD (-1)
theorem wayTo_prefix (ws : List (List UInt8)) (h t : List Nat) (k : Nat) (hk : k ≤ h.length) : wayTo ws bhC (h ++ t) k = wayTo ws bhC h k := by
  induction k with
  | zero => rfl
  | succ k ih =>
    rw [wayTo, wayTo, ih (by omega)]
    congr 2
    unfold bhC
    dsimp only
    rw [List.getD_eq_getElem?_getD, List.getD_eq_getElem?_getD, List.getElem?_append_left (by omega)]
theorem wayC_snoc (ws : List (List UInt8)) (h : List Nat) (i : Nat) : way ws bhC (h ++ [i]) = way ws bhC h + stp ws h.length i := by
  unfold way
  rw [List.length_append, List.length_singleton, wayTo, wayTo_prefix ws h [i] _ (Nat.le_refl _)]
  congr 2
  unfold bhC
  simp
theorem covF_least (ws : List (List UInt8)) (m f : Nat) : ∀ h : List Nat, h.Nodup → (∀ j ∈ h, j < m) → h.length + f = m → IsLeast (way ws bhC) (ord m f h) (way ws bhC h + covF ws m f h) := by
  induction f with
  | zero =>
    intro h _ _ _
    rw [ord, covF, Int.add_zero]
    exact ⟨⟨h, by simp, rfl⟩, fun x hx => by rw [List.mem_singleton] at hx; rw [hx]; exact Int.le_refl _⟩
  | succ f ih =>
    intro h hn hl hf
    have hk := bestTo_kept (m := m) (f := f) (h := h) (val := way ws bhC) (c := way ws bhC h) (F := fun i => if i ∈ h then none else some (stp ws h.length i + covF ws m f (h ++ [i])))
      (fun i hi => if_pos hi) (fun i hi hm => ⟨_, if_neg hm, by
        obtain ⟨a1, a2, a3⟩ := ord_snoc_ok hn hl hf hi hm
        have := ih _ a1 a2 a3
        rwa [wayC_snoc, Int.add_assoc] at this⟩) m (Nat.le_refl _)
    obtain ⟨b, hb, hL⟩ := best_some hn hl hf hk
    rw [covF, hb]
    exact hL
theorem covF_best (ws : List (List UInt8)) (m f : Nat) (h : List Nat) (hn : h.Nodup) (hl : ∀ j ∈ h, j < m) (hf : h.length + f = m) : 0 ≤ covF ws m f h := by
  have H : ∀ f h, h.Nodup → (∀ j ∈ h, j < m) → h.length + f = m → 0 ≤ covF ws m f h := by
    intro f
    induction f with
    | zero => intro h _ _ _; exact Int.le_refl _
    | succ f ih =>
      intro h hn hl hf
      have hL := covF_least ws m (f + 1) h hn hl hf
      rw [covF]
      have hb : ∀ k, k ≤ m → ∀ x, bestTo (fun i => if i ∈ h then none else some (stp ws h.length i + covF ws m f (h ++ [i]))) k = some x → 0 ≤ x := by
        intro k
        induction k with
        | zero => intro _ x hx; cases hx
        | succ k ihk =>
          intro hk x hx
          rw [bestTo] at hx
          by_cases hm : k ∈ h
          · simp only [if_pos hm] at hx
            exact ihk (by omega) x hx
          · simp only [if_neg hm] at hx
            obtain ⟨a1, a2, a3⟩ := ord_snoc_ok hn hl hf (show k < m by omega) hm
            have h1 := ih _ a1 a2 a3
            have h2 := stp_nonneg ws h.length k
            unfold keepI at hx
            injection hx with hx
            subst hx
            cases hbk : bestTo (fun i => if i ∈ h then none else some (stp ws h.length i + covF ws m f (h ++ [i]))) k with
            | none => dsimp only; omega
            | some y =>
              have := ihk (by omega) y hbk
              dsimp only
              split <;> omega
      cases hb0 : bestTo (fun i => if i ∈ h then none else some (stp ws h.length i + covF ws m f (h ++ [i]))) m with
      | none =>
        have hk := bestTo_kept (m := m) (f := f) (h := h) (val := way ws bhC) (c := way ws bhC h) (F := fun i => if i ∈ h then none else some (stp ws h.length i + covF ws m f (h ++ [i])))
          (fun i hi => if_pos hi) (fun i hi hm => ⟨_, if_neg hm, by
            obtain ⟨a1, a2, a3⟩ := ord_snoc_ok hn hl hf hi hm
            have := covF_least ws m f _ a1 a2 a3
            rwa [wayC_snoc, Int.add_assoc] at this⟩) m (Nat.le_refl _)
        obtain ⟨b, hb', _⟩ := best_some hn hl hf hk
        rw [hb0] at hb'
        cases hb'
      | some x => exact hb m (Nat.le_refl _) x hb0
  exact H f h hn hl hf
/-! ### rings -/
def prs (ws : List (List UInt8)) : List Nat → Int
  | a :: b :: l => stp ws a b + prs ws (b :: l)
  | _ => 0
theorem prs_snoc (ws : List (List UInt8)) (l : List Nat) (a b : Nat) : prs ws (l ++ [a, b]) = prs ws (l ++ [a]) + stp ws a b := by
  induction l with
  | nil => simp [prs]
  | cons x l ih =>
    cases l with
    | nil => simp [prs] <;> omega
    | cons y l =>
      simp only [List.cons_append, prs] at ih ⊢
      omega
theorem prs_nonneg (ws : List (List UInt8)) (l : List Nat) : 0 ≤ prs ws l := by
  induction l with
  | nil => exact Int.le_refl _
  | cons a l ih =>
    cases l with
    | nil => exact Int.le_refl _
    | cons b l => have := stp_nonneg ws a b; rw [prs]; omega
theorem wayR_take (ws : List (List UInt8)) (o : List Nat) (k : Nat) (hk : k + 1 ≤ o.length) : wayTo ws bhR o k = prs ws (o.take (k + 1)) := by
  induction k with
  | zero =>
    cases o with
    | nil => simp at hk
    | cons a o => simp [wayTo, prs]
  | succ k ih =>
    have e : o.take (k + 1 + 1) = o.take k ++ [o.getD k 0, o.getD (k + 1) 0] := by
      have t1 := List.take_succ_eq_append_getElem (show k + 1 < o.length by omega)
      have t2 := List.take_succ_eq_append_getElem (show k < o.length by omega)
      rw [t1, t2, List.append_assoc, List.singleton_append, List.getD_eq_getElem?_getD, List.getD_eq_getElem?_getD, List.getElem?_eq_getElem (show k < o.length by omega), List.getElem?_eq_getElem (show k + 1 < o.length by omega)]
      rfl
    have e1 : o.take (k + 1) = o.take k ++ [o.getD k 0] := by
      rw [List.take_succ_eq_append_getElem (show k < o.length by omega)]
      simp [List.getD_eq_getElem?_getD, List.getElem?_eq_getElem (show k < o.length by omega)]
    rw [wayTo, ih (by omega), e, prs_snoc, e1]
    congr 1
    unfold bhR
    dsimp only
    rw [Nat.mod_eq_of_lt (by omega)]
theorem wayR_prs (ws : List (List UInt8)) (l : List Nat) (a : Nat) : way ws bhR (l ++ [a]) = prs ws (l ++ [a]) + stp ws a ((l ++ [a]).getD 0 0) := by
  unfold way
  rw [List.length_append, List.length_singleton, wayTo, wayR_take ws _ _ (by simp), List.take_of_length_le (by simp)]
  congr 1
  unfold bhR
  simp
theorem wayR_turn (ws : List (List UInt8)) (a : Nat) (l : List Nat) : way ws bhR (l ++ [a]) = way ws bhR (a :: l) := by
  cases l with
  | nil => rfl
  | cons b l =>
    rw [wayR_prs]
    have h2 : a :: b :: l = (a :: (b :: l).dropLast) ++ [(b :: l).getLast (by simp)] := by rw [List.cons_append, List.dropLast_concat_getLast]
    have h3 := wayR_prs ws (a :: (b :: l).dropLast) ((b :: l).getLast (by simp))
    rw [← h2] at h3
    rw [h3]
    have h4 : b :: l ++ [a] = (b :: l).dropLast ++ [(b :: l).getLast (by simp), a] := by
      have := List.dropLast_concat_getLast (l := b :: l) (by simp)
      rw [show (b :: l).dropLast ++ [(b :: l).getLast (by simp), a] = ((b :: l).dropLast ++ [(b :: l).getLast (by simp)]) ++ [a] by simp, this]
    have h5 : prs ws (b :: l ++ [a]) = prs ws (b :: l) + stp ws ((b :: l).getLast (by simp)) a := by
      rw [h4, prs_snoc, List.dropLast_concat_getLast]
    rw [h5]
    simp [prs]
    omega
theorem wayR_rot (ws : List (List UInt8)) (a b : List Nat) : way ws bhR (b ++ a) = way ws bhR (a ++ b) := by
  induction a generalizing b with
  | nil => simp
  | cons x a ih =>
    have := ih (b ++ [x])
    rw [List.append_assoc, List.singleton_append] at this
    rw [this, ← List.append_assoc, wayR_turn, List.cons_append]
def rngF (ws : List (List UInt8)) (m : Nat) : Nat → List Nat → Int → Int
  | 0, h, s => s + stp ws (h.getD (h.length - 1) 0) (h.getD 0 0)
  | f + 1, h, s => (bestTo (fun i => if i ∈ h then none else some (rngF ws m f (h ++ [i]) (s + stp ws (h.getD (h.length - 1) 0) i))) m).getD (-1)
theorem getD_snoc (l : List Nat) (a : Nat) : (l ++ [a]).getD ((l ++ [a]).length - 1) 0 = a := by simp
theorem prs_last (ws : List (List UInt8)) (h : List Nat) (i : Nat) (hh : h ≠ []) : prs ws (h ++ [i]) = prs ws h + stp ws (h.getD (h.length - 1) 0) i := by
  obtain ⟨l, a, rfl⟩ : ∃ l a, h = l ++ [a] := ⟨h.dropLast, h.getLast hh, (List.dropLast_concat_getLast hh).symm⟩
  rw [getD_snoc, List.append_assoc, List.singleton_append, prs_snoc]
theorem rngF_least (ws : List (List UInt8)) (m f : Nat) : ∀ h : List Nat, h ≠ [] → h.Nodup → (∀ j ∈ h, j < m) → h.length + f = m → IsLeast (way ws bhR) (ord m f h) (rngF ws m f h (prs ws h)) := by
  induction f with
  | zero =>
    intro h hh _ _ _
    rw [ord, rngF]
    refine ⟨⟨h, by simp, ?_⟩, fun x hx => ?_⟩
    all_goals
      obtain ⟨l, a, rfl⟩ : ∃ l a, h = l ++ [a] := ⟨h.dropLast, h.getLast hh, (List.dropLast_concat_getLast hh).symm⟩
    · rw [wayR_prs, getD_snoc]
    · rw [List.mem_singleton] at hx
      rw [hx, wayR_prs, getD_snoc]
      exact Int.le_refl _
  | succ f ih =>
    intro h hh hn hl hf
    have hk := bestTo_kept (m := m) (f := f) (h := h) (val := way ws bhR) (c := 0) (F := fun i => if i ∈ h then none else some (rngF ws m f (h ++ [i]) (prs ws h + stp ws (h.getD (h.length - 1) 0) i)))
      (fun i hi => if_pos hi) (fun i hi hm => ⟨_, if_neg hm, by
        obtain ⟨a1, a2, a3⟩ := ord_snoc_ok hn hl hf hi hm
        have := ih _ (by simp) a1 a2 a3
        rwa [prs_last ws h i hh, ← Int.zero_add (rngF _ _ _ _ _)] at this⟩) m (Nat.le_refl _)
    obtain ⟨b, hb, hL⟩ := best_some hn hl hf hk
    rw [rngF, hb]
    rwa [Int.zero_add] at hL
/-- All orders, and those from 0 on, have the same least ring. -/
theorem ring_least (ws : List (List UInt8)) (n : Nat) {v : Int} (h : IsLeast (way ws bhR) (ord (n + 1) n [0]) v) : IsLeast (way ws bhR) (ord (n + 1) (n + 1) []) v := by
  obtain ⟨⟨x, hx, h1⟩, h2⟩ := h
  obtain ⟨t, rfl, ht⟩ := (mem_orders0 n x).1 hx
  refine ⟨⟨_, (mem_orders (n + 1) _).2 ht, h1⟩, fun y hy => ?_⟩
  have hy := (mem_orders (n + 1) y).1 hy
  have h0 : 0 ∈ y := hy.mem_iff.2 (by simp)
  obtain ⟨a, b, rfl⟩ := List.append_of_mem h0
  rw [wayR_rot]
  refine h2 _ ((mem_orders0 n _).2 ⟨b ++ a, rfl, ?_⟩)
  exact (List.perm_append_comm (l₁ := 0 :: b) (l₂ := a)).trans hy
end Go.Proofs.Ytfppbfhlmbakoaa
