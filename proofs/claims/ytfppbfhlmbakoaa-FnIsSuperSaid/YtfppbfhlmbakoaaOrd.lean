/-
  Plain laws of words in orders.
-/
import Derived.Test.YtfppbfhlmbakoaaLap
import Derived.Test.YtfppbfhlmbakoaaOrdN
namespace Go.Proofs.Ytfppbfhlmbakoaa
set_option linter.unusedVariables false
set_option linter.unusedSimpArgs false

/-! ### words in an order -/
def wd (ws : List (List UInt8)) (i : Nat) : List UInt8 := ws.getD i []
def sel (ws : List (List UInt8)) (o : List Nat) : List (List UInt8) := o.map (wd ws)
theorem wd_at {ws : List (List UInt8)} {i : Nat} {x : List UInt8} (h : ws[i]? = some x) : wd ws i = x := by
  unfold wd
  rw [List.getD_eq_getElem?_getD, h]
  rfl
theorem wd_mem {ws : List (List UInt8)} {i : Nat} (h : i < ws.length) : wd ws i ∈ ws := by
  rw [wd_at (List.getElem?_eq_getElem h)]
  exact List.getElem_mem h
theorem sel_range (ws : List (List UInt8)) : sel ws (List.range ws.length) = ws := by
  unfold sel
  refine List.ext_getElem (by simp) fun i h1 h2 => ?_
  simp only [List.getElem_map, List.getElem_range]
  exact wd_at (List.getElem?_eq_getElem h2)
theorem sel_perm {ws : List (List UInt8)} {o : List Nat} (h : o.Perm (List.range ws.length)) : (sel ws o).Perm ws := by
  have := h.map (wd ws)
  have e := sel_range ws
  unfold sel at e ⊢
  rwa [e] at this
theorem perm_map_lift {α β : Type} (f : α → β) {L M : List β} (h : L.Perm M) : ∀ R : List α, M = R.map f → ∃ R' : List α, R'.Perm R ∧ L = R'.map f := by
  induction h with
  | nil => intro R hR; exact ⟨[], by rw [List.map_eq_nil_iff.1 hR.symm], rfl⟩
  | cons x _ ih =>
    intro R hR
    cases R with
    | nil => cases hR
    | cons r R =>
      rw [List.map_cons] at hR
      injection hR with h1 h2
      obtain ⟨R', hp, e⟩ := ih R h2
      exact ⟨r :: R', hp.cons r, by rw [List.map_cons, ← e, h1]⟩
  | swap x y l =>
    intro R hR
    cases R with
    | nil => cases hR
    | cons r R =>
      cases R with
      | nil => cases hR
      | cons s R =>
        simp only [List.map_cons] at hR
        injection hR with h1 h2
        injection h2 with h2 h3
        exact ⟨s :: r :: R, List.Perm.swap _ _ _, by simp [h1, h2, h3]⟩
  | trans _ _ ih1 ih2 =>
    intro R hR
    obtain ⟨R1, p1, e1⟩ := ih2 R hR
    obtain ⟨R2, p2, e2⟩ := ih1 R1 e1
    exact ⟨R2, p2.trans p1, e2⟩
/-- Each row of the words stands in an order. -/
theorem sel_of_perm {ws L : List (List UInt8)} (h : L.Perm ws) : ∃ o : List Nat, o.Perm (List.range ws.length) ∧ sel ws o = L := by
  obtain ⟨o, ho, e⟩ := perm_map_lift (wd ws) h (List.range ws.length) (sel_range ws).symm
  exact ⟨o, ho, e.symm⟩

/-! ### the least of a list -/
def IsLeast {α : Type} (f : α → Int) (L : List α) (m : Int) : Prop := (∃ x ∈ L, f x = m) ∧ ∀ x ∈ L, m ≤ f x
theorem IsLeast.unique {α : Type} {f : α → Int} {L : List α} {m m' : Int} (h : IsLeast f L m) (h' : IsLeast f L m') : m = m' := by
  obtain ⟨⟨x, hx, rfl⟩, h2⟩ := h
  obtain ⟨⟨y, hy, rfl⟩, h4⟩ := h'
  have := h2 y hy
  have := h4 x hx
  omega
theorem IsLeast.app {α : Type} {f : α → Int} {L M : List α} {m k : Int} (h : IsLeast f L m) (h' : IsLeast f M k) : IsLeast f (L ++ M) (if k < m then k else m) := by
  obtain ⟨⟨x, hx, h1⟩, h2⟩ := h
  obtain ⟨⟨y, hy, h3⟩, h4⟩ := h'
  split
  · refine ⟨⟨y, by simp [hy], h3⟩, fun z hz => ?_⟩
    rw [List.mem_append] at hz
    rcases hz with hz | hz
    · have := h2 z hz; omega
    · exact h4 z hz
  · refine ⟨⟨x, by simp [hx], h1⟩, fun z hz => ?_⟩
    rw [List.mem_append] at hz
    rcases hz with hz | hz
    · exact h2 z hz
    · have := h4 z hz; omega
/-- What is kept of the things that came: nothing yet, or the least one. -/
def Kept {α : Type} (f : α → Int) (L : List α) (o : Option Int) : Prop :=
  match o with
  | none => L = []
  | some m => IsLeast f L m
theorem Kept.snoc {α : Type} {f : α → Int} {L : List α} {o : Option Int} (h : Kept f L o) (x : α) : Kept f (L ++ [x]) (some (match o with | none => f x | some m => if f x < m then f x else m)) := by
  have h1 : IsLeast f [x] (f x) := ⟨⟨x, by simp, rfl⟩, fun y hy => by rw [List.mem_singleton] at hy; rw [hy]; exact Int.le_refl _⟩
  cases o with
  | none =>
    have h : L = [] := h
    subst h
    exact h1
  | some m => exact IsLeast.app h h1

/-! ### rings and covers -/
/-- The sum of a way's steps: of each number the word, less its overlap with the one that stands behind it. -/
def stp (ws : List (List UInt8)) (i j : Nat) : Int := ((wd ws i).length : Int) - (ovl (wd ws i) (wd ws j) : Nat)
def wayTo (ws : List (List UInt8)) (bh : List Nat → Nat → Nat × Nat) (o : List Nat) : Nat → Int
  | 0 => 0
  | k + 1 => wayTo ws bh o k + stp ws (bh o k).1 (bh o k).2
def way (ws : List (List UInt8)) (bh : List Nat → Nat → Nat × Nat) (o : List Nat) : Int := wayTo ws bh o o.length
def bhR (o : List Nat) (k : Nat) : Nat × Nat := (o.getD k 0, o.getD ((k + 1) % o.length) 0)
def bhC (o : List Nat) (k : Nat) : Nat × Nat := (k, o.getD k 0)
theorem stp_nonneg (ws : List (List UInt8)) (i j : Nat) : 0 ≤ stp ws i j := by
  unfold stp
  have := ovl_le_left (wd ws i) (wd ws j)
  omega
theorem stp_le (ws : List (List UInt8)) (i j : Nat) : stp ws i j ≤ ((wd ws i).length : Int) := by
  unfold stp
  omega
theorem stp_pos (ws : List (List UInt8)) (i j : Nat) (h : wd ws i ≠ []) : 1 ≤ stp ws i j := by
  unfold stp
  have := ovl_lt_left (b := wd ws j) h
  omega
theorem wayTo_nonneg (ws : List (List UInt8)) (bh : List Nat → Nat → Nat × Nat) (o : List Nat) (k : Nat) : 0 ≤ wayTo ws bh o k := by
  induction k with
  | zero => exact Int.le_refl _
  | succ k ih => have := stp_nonneg ws (bh o k).1 (bh o k).2; rw [wayTo]; omega
end Go.Proofs.Ytfppbfhlmbakoaa
