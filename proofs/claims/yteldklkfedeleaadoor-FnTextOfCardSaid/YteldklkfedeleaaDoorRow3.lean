/-
  A row of phrases of the call's own whose fields are written.
-/
import Derived.Test.YteldklkfedeleaaDoorPhr2
import Derived.Lib.SmallJoins
namespace Go.Proofs.YteldklkfedeleaaDoor
open Go.RowKit
set_option linter.unusedVariables false
set_option linter.unusedSimpArgs false

theorem phc_set0 (x : Int) : ∀ (ps : List Ph) (k : Nat) (p : Ph), ps[k]? = some p → (phc ps).set (k * 3) (I x) = phc (ps.set k (x, p.2.1, p.2.2)) := by
  intro ps
  induction ps with
  | nil => intro k p h; simp at h
  | cons q ps ih =>
    intro k p h
    cases k with
    | zero =>
      simp at h
      subst h
      rfl
    | succ k =>
      have := ih k p (by simpa using h)
      show (I q.1 :: I q.2.1 :: S q.2.2 :: phc ps).set ((k + 1) * 3) (I x) = I q.1 :: I q.2.1 :: S q.2.2 :: phc (ps.set k (x, p.2.1, p.2.2))
      rw [show (k + 1) * 3 = k * 3 + 1 + 1 + 1 by omega, List.set_cons_succ, List.set_cons_succ, List.set_cons_succ, this]
theorem phc_set1 (x : Int) : ∀ (ps : List Ph) (k : Nat) (p : Ph), ps[k]? = some p → (phc ps).set (k * 3 + 1) (I x) = phc (ps.set k (p.1, x, p.2.2)) := by
  intro ps
  induction ps with
  | nil => intro k p h; simp at h
  | cons q ps ih =>
    intro k p h
    cases k with
    | zero =>
      simp at h
      subst h
      rfl
    | succ k =>
      have := ih k p (by simpa using h)
      show (I q.1 :: I q.2.1 :: S q.2.2 :: phc ps).set ((k + 1) * 3 + 1) (I x) = I q.1 :: I q.2.1 :: S q.2.2 :: phc (ps.set k (p.1, x, p.2.2))
      rw [show (k + 1) * 3 + 1 = k * 3 + 1 + 1 + 1 + 1 by omega, List.set_cons_succ, List.set_cons_succ, List.set_cons_succ, this]
theorem phc_set2 (x : List UInt8) : ∀ (ps : List Ph) (k : Nat) (p : Ph), ps[k]? = some p → (phc ps).set (k * 3 + 2) (S x) = phc (ps.set k (p.1, p.2.1, x)) := by
  intro ps
  induction ps with
  | nil => intro k p h; simp at h
  | cons q ps ih =>
    intro k p h
    cases k with
    | zero =>
      simp at h
      subst h
      rfl
    | succ k =>
      have := ih k p (by simpa using h)
      show (I q.1 :: I q.2.1 :: S q.2.2 :: phc ps).set ((k + 1) * 3 + 2) (S x) = I q.1 :: I q.2.1 :: S q.2.2 :: phc (ps.set k (p.1, p.2.1, x))
      rw [show (k + 1) * 3 + 2 = k * 3 + 2 + 1 + 1 + 1 by omega, List.set_cons_succ, List.set_cons_succ, List.set_cons_succ, this]
theorem Row3.put {w : World} {B : Nat} {A : Option Addr} {n c : Nat} {ps : List Ph} (h : Row3 w B A n c ps) (hn0 : 0 < n) :
    ∃ g, A = some ⟨g, 0, none⟩ ∧ B ≤ g ∧ g < w.heap.size ∧ (∀ i, w.frozen? ⟨g, i, none⟩ = false) ∧
      ∀ (i : Nat) (v : Value) (ps2 : List Ph), (phc ps).set i v = phc ps2 → Row3 (w.setCell ⟨g, i, none⟩ v) B A n c ps2 := by
  obtain ⟨h1, h2 | ⟨g, cap, cur, hv, hg, hh, hn, hc, hs, ht⟩⟩ := h
  · obtain ⟨hv, rfl⟩ := h2
    omega
  · injection hv with ha hb hcc
    subst ha
    refine ⟨g, rfl, hg, (Array.getElem?_eq_some_iff.1 hh).1, fun i => by simp [World.frozen?, hh], fun i v ps2 he => ?_⟩
    have hset := Go.Joins.block_setCell (i := i) hh v
    refine ⟨?_, .inr ⟨g, cap, cur.setIfInBounds i v, by rw [hcc], hg, hset, hn, hc, by simpa using hs, ?_⟩⟩
    · rw [← he, List.length_set]; exact h1
    · rw [← he, ← ht]
      simp [List.take_set]
end Go.Proofs.YteldklkfedeleaaDoor
