/-
  Plain laws of the shortest text over all orders, of several the first in the alphabet.
-/
import Derived.Test.YtfppbfhlmbakoaaOrdL
namespace Go.Proofs.Ytfppbfhlmbakoaa
set_option linter.unusedVariables false
set_option linter.unusedSimpArgs false

/-- Shorter, or as long and ahead in the alphabet. -/
def sLt (x y : List UInt8) : Bool := decide (x.length < y.length) || (decide (x.length = y.length) && decide (x < y))
theorem sLt_iff {x y : List UInt8} : sLt x y = true ↔ x.length < y.length ∨ (x.length = y.length ∧ x < y) := by simp [sLt]
theorem sLt_false {x y : List UInt8} : sLt x y = false ↔ ¬ (x.length < y.length ∨ (x.length = y.length ∧ x < y)) := by rw [← sLt_iff]; simp
theorem sLt_anti {x y : List UInt8} (h1 : sLt x y = false) (h2 : sLt y x = false) : x = y := by
  rw [sLt_false] at h1 h2
  have hl : x.length = y.length := by omega
  have a1 : ¬ x < y := fun h => h1 (.inr ⟨hl, h⟩)
  have a2 : ¬ y < x := fun h => h2 (.inr ⟨hl.symm, h⟩)
  exact List.le_antisymm (List.not_lt.1 a2) (List.not_lt.1 a1)
theorem sLt_trans {x y z : List UInt8} (h1 : sLt x y = true) (h2 : sLt y z = true) : sLt x z = true := by
  rw [sLt_iff] at *
  rcases h1 with h1 | ⟨h1, h1'⟩ <;> rcases h2 with h2 | ⟨h2, h2'⟩
  · left; omega
  · left; omega
  · left; omega
  · right; exact ⟨by omega, List.lt_trans h1' h2'⟩
theorem sLt_step {x y z : List UInt8} (h1 : sLt x y = true) (h2 : sLt z y = false) : sLt x z = true := by
  rw [sLt_iff] at *
  rw [sLt_false] at h2
  rcases h1 with h1 | ⟨h1, h1'⟩
  · left; omega
  · by_cases hl : x.length < z.length
    · left; exact hl
    · have e : z.length = y.length := by omega
      right
      refine ⟨by omega, ?_⟩
      have h3 : ¬ z < y := fun h => h2 (.inr ⟨e, h⟩)
      by_cases h4 : y < z
      · exact List.lt_trans h1' h4
      · rw [List.le_antisymm (List.not_lt.1 h4) (List.not_lt.1 h3)]
        exact h1'
def keepS (o : Option (List UInt8)) (x : List UInt8) : Option (List UInt8) := some (match o with | none => x | some m => if sLt x m then x else m)
def keptS {α : Type} (f : α → List UInt8) (L : List α) : Option (List UInt8) := L.foldl (fun o x => keepS o (f x)) none
theorem keptS_snoc {α : Type} (f : α → List UInt8) (L : List α) (x : α) : keptS f (L ++ [x]) = keepS (keptS f L) (f x) := by simp [keptS]
def LeastS {α : Type} (f : α → List UInt8) (L : List α) (m : List UInt8) : Prop := (∃ x ∈ L, f x = m) ∧ ∀ x ∈ L, sLt (f x) m = false
theorem LeastS.unique {α : Type} {f : α → List UInt8} {L : List α} {m m' : List UInt8} (h : LeastS f L m) (h' : LeastS f L m') : m = m' := by
  obtain ⟨⟨x, hx, rfl⟩, h2⟩ := h
  obtain ⟨⟨y, hy, rfl⟩, h4⟩ := h'
  exact sLt_anti (h4 x hx) (h2 y hy)
theorem LeastS.app {α : Type} {f : α → List UInt8} {L M : List α} {m k : List UInt8} (h : LeastS f L m) (h' : LeastS f M k) : LeastS f (L ++ M) (if sLt k m then k else m) := by
  obtain ⟨⟨x, hx, h1⟩, h2⟩ := h
  obtain ⟨⟨y, hy, h3⟩, h4⟩ := h'
  split
  · next hs =>
    refine ⟨⟨y, by simp [hy], h3⟩, fun z hz => ?_⟩
    rw [List.mem_append] at hz
    rcases hz with hz | hz
    · have := h2 z hz
      cases hzk : sLt (f z) k with
      | false => rfl
      | true => rw [sLt_trans hzk hs] at this; cases this
    · exact h4 z hz
  · next hs =>
    refine ⟨⟨x, by simp [hx], h1⟩, fun z hz => ?_⟩
    rw [List.mem_append] at hz
    rcases hz with hz | hz
    · exact h2 z hz
    · have := h4 z hz
      cases hzm : sLt (f z) m with
      | false => rfl
      | true => rw [sLt_step hzm (by simpa using hs)] at this; cases this
def KeptS {α : Type} (f : α → List UInt8) (L : List α) (o : Option (List UInt8)) : Prop :=
  match o with
  | none => L = []
  | some m => LeastS f L m
theorem sLt_self (x : List UInt8) : sLt x x = false := by rw [sLt_false]; rintro (h | ⟨_, h⟩); exact absurd h (Nat.lt_irrefl _); exact List.lt_irrefl x h
theorem LeastS.one {α : Type} (f : α → List UInt8) (x : α) : LeastS f [x] (f x) := ⟨⟨x, by simp, rfl⟩, fun y hy => by rw [List.mem_singleton] at hy; rw [hy]; exact sLt_self _⟩
theorem keptS_kept {α : Type} (f : α → List UInt8) (L : List α) : KeptS f L (keptS f L) := by
  induction L using rev_ind with
  | h0 => rfl
  | h1 L x ih =>
    rw [keptS_snoc]
    cases ho : keptS f L with
    | none =>
      rw [ho] at ih
      have ih : L = [] := ih
      subst ih
      exact LeastS.one f x
    | some m =>
      rw [ho] at ih
      exact LeastS.app ih (LeastS.one f x)
theorem keptS_least {α : Type} {f : α → List UInt8} {L : List α} {m : List UInt8} (h : LeastS f L m) : (keptS f L).getD [] = m := by
  have hk := keptS_kept f L
  cases ho : keptS f L with
  | none =>
    rw [ho] at hk
    have hk : L = [] := hk
    subst hk
    obtain ⟨⟨x, hx, _⟩, _⟩ := h
    cases hx
  | some k =>
    rw [ho] at hk
    exact LeastS.unique hk h
def bestS (F : Nat → Option (List UInt8)) : Nat → Option (List UInt8)
  | 0 => none
  | i + 1 => match F i with
    | none => bestS F i
    | some x => keepS (bestS F i) x
theorem bestS_kept {m f : Nat} {h : List Nat} {val : List Nat → List UInt8} {F : Nat → Option (List UInt8)} (h0 : ∀ i, i ∈ h → F i = none) (h1 : ∀ i, i < m → i ∉ h → ∃ x, F i = some x ∧ LeastS val (ord m f (h ++ [i])) x) :
    ∀ k, k ≤ m → KeptS val (ordTo m f h k) (bestS F k) := by
  intro k
  induction k with
  | zero => intro _; rfl
  | succ k ih =>
    intro hk
    have ih := ih (by omega)
    rw [ordTo_succ, bestS]
    by_cases hm : k ∈ h
    · rw [h0 k hm, if_pos hm, List.append_nil]
      exact ih
    · obtain ⟨x, hx, hl⟩ := h1 k (by omega) hm
      rw [hx, if_neg hm]
      cases hb : bestS F k with
      | none =>
        rw [hb] at ih
        have ih : ordTo m f h k = [] := ih
        rw [ih, List.nil_append]
        exact hl
      | some b =>
        rw [hb] at ih
        exact LeastS.app ih hl
/-- The text of an order. -/
def otx (ws : List (List UInt8)) (o : List Nat) : List UInt8 := txt (sel ws o)
def shF (ws : List (List UInt8)) (m : Nat) : Nat → List Nat → List UInt8
  | 0, h => otx ws h
  | f + 1, h => (bestS (fun i => if i ∈ h then none else some (shF ws m f (h ++ [i]))) m).getD []
theorem shF_least (ws : List (List UInt8)) (m f : Nat) : ∀ h : List Nat, h.Nodup → (∀ j ∈ h, j < m) → h.length + f = m → LeastS (otx ws) (ord m f h) (shF ws m f h) := by
  induction f with
  | zero =>
    intro h _ _ _
    rw [ord, shF]
    exact LeastS.one (otx ws) h
  | succ f ih =>
    intro h hn hl hf
    have hk := bestS_kept (m := m) (f := f) (h := h) (val := otx ws) (F := fun i => if i ∈ h then none else some (shF ws m f (h ++ [i])))
      (fun i hi => if_pos hi) (fun i hi hm => ⟨_, if_neg hm, by
        obtain ⟨a1, a2, a3⟩ := ord_snoc_ok hn hl hf hi hm
        exact ih _ a1 a2 a3⟩) m (Nat.le_refl _)
    cases hb : bestS (fun i => if i ∈ h then none else some (shF ws m f (h ++ [i]))) m with
    | none =>
      rw [hb] at hk
      have hk : ordTo m f h m = [] := hk
      exact absurd hk (ord_ne_nil m (f + 1) h hn hl hf)
    | some b =>
      rw [hb] at hk
      rw [shF, hb]
      exact hk
/-- The shortest text of words, of several the first. -/
def shT (ws : List (List UInt8)) : List UInt8 := shF ws ws.length ws.length []
theorem shT_least (ws : List (List UInt8)) : LeastS (otx ws) (ord ws.length ws.length []) (shT ws) := shF_least ws ws.length ws.length [] List.nodup_nil (fun j hj => by cases hj) (by simp)
end Go.Proofs.Ytfppbfhlmbakoaa
