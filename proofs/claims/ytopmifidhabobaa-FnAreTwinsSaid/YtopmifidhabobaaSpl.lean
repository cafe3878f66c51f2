/-
  Rows of rows of numbers: what they read as; slices.CompactFunc on them.
-/
import Derived.Test.YtopmifidhabobaaArg
import Derived.Test.YtopmifidhabobaaSome
import Derived.Test.YtopmifidhabobaaVals
import Derived.Test.YtopmifidhabobaaOrders
import Derived.Test.YtopmifidhabobaaAppN
import Derived.Lib.SliceRun
namespace Go.Proofs.Ytopmifidhabobaa
open Go.RowKit
set_option linter.unusedVariables false
set_option linter.unusedSimpArgs false

/-- A slice of numbers, as it lies, and what it holds. -/
abbrev SP := (Option Addr × Nat × Nat) × List Int
def V (p : SP) : Value := .slice p.1.1 p.1.2.1 p.1.2.2
def OwnP (w : World) (lo : Nat) (P : List SP) : Prop := ∀ p ∈ P, Own w lo 3 p.1.1 p.1.2.1 p.1.2.2 (p.2.map I)
theorem Own.keep {w w' : World} {B : Nat} {e : TypeId} {A : Option Addr} {n c : Nat} {xs : List Value} (h : Own w B e A n c xs) (hk : ∀ g cur, B ≤ g → w.heap[g]? = some (.cells cur e (0, 0)) → w'.heap[g]? = w.heap[g]?) : Own w' B e A n c xs :=
  ⟨h.1, h.2.1, h.2.2.1, fun hn => by
    obtain ⟨g, cur, e1, hg, hh, ht⟩ := h.2.2.2 hn
    exact ⟨g, cur, e1, hg, (hk g cur hg hh).trans hh, ht⟩⟩
theorem OwnP.keep {w w' : World} {lo : Nat} {P : List SP} (h : OwnP w lo P) (hk : ∀ g cur, lo ≤ g → w.heap[g]? = some (.cells cur 3 (0, 0)) → w'.heap[g]? = w.heap[g]?) : OwnP w' lo P := fun p hp => (h p hp).keep hk
theorem OwnP.more {w : World} {lo lo' : Nat} {P : List SP} (h : OwnP w lo P) (hl : lo' ≤ lo) : OwnP w lo' P := fun p hp => (h p hp).more hl
theorem OwnP.below {w w' : World} {lo : Nat} {P : List SP} (h : OwnP w lo P) (hb : Below w.heap.size w w') : OwnP w' lo P := fun p hp => (h p hp).below hb (Nat.le_refl _)
theorem OwnP.quiet {w w' : World} {lo : Nat} {P : List SP} (h : OwnP w lo P) (hq : Quiet w w') : OwnP w' lo P := h.below (hq.bel _)
theorem OwnP.snoc {w : World} {lo : Nat} {P : List SP} {p : SP} (h : OwnP w lo P) (hp : Own w lo 3 p.1.1 p.1.2.1 p.1.2.2 (p.2.map I)) : OwnP w lo (P ++ [p]) := fun q hq => by
  rw [List.mem_append, List.mem_singleton] at hq
  rcases hq with hq | rfl
  · exact h q hq
  · exact hp
/-- The block of a row of slices is no block of numbers. -/
theorem grown_other {w w' : World} {B g : Nat} {cur : Array Value} {A : Option Addr} {n c : Nat} {xs : List Value} (hrow : Row w B 22 A n c xs) (hg : w.grownBy w' (Value.slice A n c).ownBlock) (hh : w.heap[g]? = some (.cells cur 3 (0, 0))) : w'.heap[g]? = w.heap[g]? := by
  refine hg.block g (Array.getElem?_eq_some_iff.1 hh).1 fun e => ?_
  obtain ⟨h1, ⟨hv, _⟩ | ⟨g', cap', cur', hv, _, hb, _⟩⟩ := hrow
  · injection hv with ha hb hc
    subst ha
    simp [Value.ownBlock] at e
  · injection hv with ha hb' hc
    subst ha
    simp [Value.ownBlock] at e
    subst e
    rw [hb] at hh
    injection hh with hh
    injection hh with h1 h2
    revert h2
    decide
theorem OwnP.grown {w w' : World} {lo B : Nat} {P : List SP} {A : Option Addr} {n c : Nat} {xs : List Value} (h : OwnP w lo P) (hrow : Row w B 22 A n c xs) (hg : w.grownBy w' (Value.slice A n c).ownBlock) : OwnP w' lo P := h.keep fun g cur _ hh => grown_other hrow hg hh
theorem Row.set {w : World} {base g n cap : Nat} {e : TypeId} {xs : List Value} (h : Row w base e (some ⟨g, 0, none⟩) n cap xs) {j : Nat} (hj : j < n) (v : Value) : Row (w.setCell ⟨g, j, none⟩ v) base e (some ⟨g, 0, none⟩) n cap (xs.set j v) := by
  obtain ⟨h1, ⟨_, h0⟩ | ⟨g', cap', cur, hv, hbase, hb, h2, h3, h4, h5⟩⟩ := h
  · omega
  · injection hv with ha hb' hc
    injection ha with ha
    injection ha with ha
    subst ha hc
    refine ⟨by rw [List.length_set]; exact h1, .inr ⟨g, cap, _, rfl, hbase, Go.Joins.block_setCell (i := j) hb v, h2, h3, by simpa using h4, ?_⟩⟩
    rw [Array.toList_setIfInBounds, List.take_set, h5]
theorem Row.cut {w : World} {base n m cap : Nat} {e : TypeId} {A : Option Addr} {xs : List Value} (h : Row w base e A n cap xs) (hm : m ≤ n) : Row w base e A m cap (xs.take m) := by
  obtain ⟨h1, ⟨hv, h0⟩ | ⟨g', cap', cur, hv, hbase, hb, h2, h3, h4, h5⟩⟩ := h
  · obtain rfl : m = 0 := by omega
    obtain rfl : n = 0 := by omega
    exact ⟨by simp, .inl ⟨hv, rfl⟩⟩
  · injection hv with ha hb' hc
    subst ha hc
    refine ⟨by rw [List.length_take]; omega, .inr ⟨g', cap, cur, rfl, hbase, hb, by omega, h3, h4, ?_⟩⟩
    rw [Nat.mul_one] at h5 ⊢
    rw [← h5, List.take_take, Nat.min_eq_left hm]
theorem grown_setCells (g : Nat) : ∀ (vs : List Value) (o : Nat) (w : World), w.grownBy (w.setCells g o vs) (some g) := by
  intro vs
  induction vs with
  | nil => intro o w; exact grown_refl w _
  | cons v vs ih => intro o w; exact grown_trans (grown_setCell w g o v) (ih (o + 1) _)
theorem row_setCells {base g n cap : Nat} {e : TypeId} : ∀ (vs : List Value) (k : Nat) (w : World) (xs : List Value), Row w base e (some ⟨g, 0, none⟩) n cap xs → k + vs.length ≤ n → ∃ ys, Row (w.setCells g k vs) base e (some ⟨g, 0, none⟩) n cap ys ∧ ys.take k = xs.take k := by
  intro vs
  induction vs with
  | nil => intro k w xs h _; exact ⟨xs, h, rfl⟩
  | cons v vs ih =>
    intro k w xs h hk
    simp only [List.length_cons] at hk
    obtain ⟨ys, h1, h2⟩ := ih (k + 1) _ _ (h.set (show k < n by omega) v) (by omega)
    refine ⟨ys, h1, ?_⟩
    have h3 := congrArg (List.take k) h2
    rw [List.take_take, List.take_take, Nat.min_eq_left (by omega), List.take_set_of_le (Nat.le_refl _)] at h3
    exact h3

/-! ### neighbours that are the same -/
/-- The first k, each that is as the one ahead of it left out. -/
def cmp (P : List SP) : Nat → List SP
  | 0 => []
  | k + 1 => cmp P k ++ (if 0 < k ∧ (P.getD k default).2 = (P.getD (k - 1) default).2 then [] else (P.drop k).take 1)
theorem one_at {α : Type} {P : List α} {k : Nat} {p : α} (h : P[k]? = some p) : (P.drop k).take 1 = [p] := by
  obtain ⟨h1, rfl⟩ := List.getElem?_eq_some_iff.1 h
  rw [List.drop_eq_getElem_cons h1]
  rfl
theorem cmp_keep {P : List SP} {k : Nat} {p : SP} (h : P[k]? = some p) (hd : k = 0 ∨ ∃ q, P[k - 1]? = some q ∧ p.2 ≠ q.2) : cmp P (k + 1) = cmp P k ++ [p] := by
  rw [cmp, if_neg ?_, one_at h]
  rintro ⟨h0, h1⟩
  rcases hd with rfl | ⟨q, hq, hne⟩
  · omega
  · rw [List.getD_eq_getElem?_getD, h, List.getD_eq_getElem?_getD, hq] at h1
    exact hne h1
theorem cmp_skip {P : List SP} {k : Nat} {p q : SP} (h0 : 0 < k) (h : P[k]? = some p) (hq : P[k - 1]? = some q) (he : p.2 = q.2) : cmp P (k + 1) = cmp P k := by
  rw [cmp, if_pos ?_, List.append_nil]
  refine ⟨h0, ?_⟩
  rw [List.getD_eq_getElem?_getD, h, List.getD_eq_getElem?_getD, hq]
  exact he
theorem cmp_le (P : List SP) (k : Nat) : (cmp P k).length ≤ k := by
  induction k with
  | zero => simp [cmp]
  | succ k ih =>
    rw [cmp, List.length_append]
    split
    · simp; omega
    · have : ((P.drop k).take 1).length ≤ 1 := by simp [List.length_take]; omega
      omega
theorem cmp_mem {P : List SP} {k : Nat} {p : SP} (h : p ∈ cmp P k) : p ∈ P := by
  induction k with
  | zero => simp [cmp] at h
  | succ k ih =>
    rw [cmp, List.mem_append] at h
    rcases h with h | h
    · exact ih h
    · split at h
      · cases h
      · exact List.mem_of_mem_drop (List.mem_of_mem_take h)
theorem cmp_feq (P : List SP) (k : Nat) (hk : k ≤ P.length) : FEq ((cmp P k).map Prod.snd) ((P.take k).map Prod.snd) := by
  induction k with
  | zero => exact FEq.refl _
  | succ k ih =>
    have ih := ih (by omega)
    have hp : P[k]? = some P[k] := List.getElem?_eq_getElem (by omega)
    rw [List.take_succ_eq_append_getElem (show k < P.length by omega), List.map_append]
    by_cases hd : 0 < k ∧ (P[k]'(by omega)).2 = (P[k - 1]'(by omega)).2
    · rw [cmp_skip hd.1 hp (List.getElem?_eq_getElem (by omega)) hd.2]
      refine ih.trans fun p => ?_
      rw [List.find?_append]
      cases hf : ((P.take k).map Prod.snd).find? p with
      | some x => rfl
      | none =>
        have h1 : (P[k - 1]'(by omega)).2 ∈ (P.take k).map Prod.snd := List.mem_map_of_mem (by
          rw [List.mem_take_iff_getElem]
          exact ⟨k - 1, by omega, rfl⟩)
        have h2 := List.find?_eq_none.1 hf _ h1
        rw [← hd.2] at h2
        simp [h2]
    · have hd2 : k = 0 ∨ ∃ q, P[k - 1]? = some q ∧ (P[k]'(by omega)).2 ≠ q.2 := by
        rcases Nat.eq_zero_or_pos k with h0 | h0
        · exact .inl h0
        · exact .inr ⟨P[k - 1]'(by omega), List.getElem?_eq_getElem (by omega), fun e => hd ⟨h0, e⟩⟩
      rw [cmp_keep hp hd2, List.map_append]
      exact ih.app (FEq.refl _)
end Go.Proofs.Ytopmifidhabobaa
