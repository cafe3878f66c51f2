/-
  Contracts of the exact laws' own small functions on lists of numbers: a copy, equal lists, marks that are written and read again.
-/
import Derived.Test.YtfbmcfdmffpfmaaArr
import Derived.Deep.QuietTactic
import Derived.BigQuiet
namespace Go.Proofs.Ytfbmcfdmffpfmaa
open Go.RowKit
set_option linter.unusedVariables false
set_option linter.unusedSimpArgs false

/-! ### slices in new memory, each in blocks of its own -/
/-- A slice in a block from lo on and below hi, its first cells xs. -/
def OwnW (w : World) (lo hi : Nat) (t : TypeId) (A : Option Addr) (n c : Nat) (xs : List Value) : Prop :=
  xs.length = n ∧ n ≤ c ∧ c ≤ maxLen ∧ (0 < n → ∃ g cur, A = some ⟨g, 0, none⟩ ∧ lo ≤ g ∧ g < hi ∧ w.heap[g]? = some (.cells cur t (0, 0)) ∧ cur.toList.take n = xs)
/-- Only blocks from lo on and below hi may have turned. -/
structure Turn (lo hi : Nat) (w w' : World) : Prop where
  os : w'.os = w.os
  tape : w'.tape = w.tape
  output : w'.output = w.output
  size : w.heap.size ≤ w'.heap.size
  block : ∀ b, b < w.heap.size → (b < lo ∨ hi ≤ b) → w'.heap[b]? = w.heap[b]?
theorem Turn.of_grown {w w' : World} {lo hi : Nat} {row : Option Nat} (h : w.grownBy w' row) (hr : ∀ k, row = some k → lo ≤ k ∧ k < hi) : Turn lo hi w w' :=
  ⟨h.os, h.tape, h.output, h.size, fun b hb hl => h.block b hb (fun e => by have := hr b e.symm; omega)⟩
theorem Turn.bel {w w' : World} {lo hi B : Nat} (h : Turn lo hi w w') (hB : B ≤ lo) (hw : B ≤ w.heap.size) : Below B w w' :=
  ⟨h.os, h.tape, h.output, h.size, fun b hb => h.block b (by omega) (.inl (by omega))⟩
theorem Own.win {w : World} {B : Nat} {t : TypeId} {A : Option Addr} {n c : Nat} {xs : List Value} (h : Own w B t A n c xs) : OwnW w B w.heap.size t A n c xs :=
  ⟨h.1, h.2.1, h.2.2.1, fun hn => by obtain ⟨g, cur, e, hg, hh, ht⟩ := h.2.2.2 hn; exact ⟨g, cur, e, hg, h.block_lt hh, hh, ht⟩⟩
theorem OwnW.below {w w' : World} {lo hi B : Nat} {t : TypeId} {A : Option Addr} {n c : Nat} {xs : List Value} (h : OwnW w lo hi t A n c xs) (hb : Below B w w') (hB : hi ≤ B) : OwnW w' lo hi t A n c xs :=
  ⟨h.1, h.2.1, h.2.2.1, fun hn => by obtain ⟨g, cur, e, hg, hl, hh, ht⟩ := h.2.2.2 hn; exact ⟨g, cur, e, hg, hl, (hb.block g (by omega)).trans hh, ht⟩⟩
theorem OwnW.turn {w w' : World} {lo hi l k : Nat} {t : TypeId} {A : Option Addr} {n c : Nat} {xs : List Value} (h : OwnW w lo hi t A n c xs) (hb : Turn l k w w') (hB : hi ≤ l ∨ k ≤ lo) : OwnW w' lo hi t A n c xs :=
  ⟨h.1, h.2.1, h.2.2.1, fun hn => by obtain ⟨g, cur, e, hg, hl, hh, ht⟩ := h.2.2.2 hn; exact ⟨g, cur, e, hg, hl, (hb.block g (Array.getElem?_eq_some_iff.1 hh).1 (by omega)).trans hh, ht⟩⟩
theorem OwnW.rd {w : World} {lo hi : Nat} {t : TypeId} {A : Option Addr} {n c : Nat} {xs : List Value} (h : OwnW w lo hi t A n c xs) : Rd w hi A n c xs :=
  ⟨h.1, h.2.1, h.2.2.1, fun hn => by
    obtain ⟨g, cur, e, hg, hl, hh, ht⟩ := h.2.2.2 hn
    refine ⟨g, 0, e, hl, fun j u hu => ?_⟩
    rw [Nat.zero_add, cell_of_row w g j cur _ (0, 0) hh]
    rw [← ht, List.getElem?_take] at hu
    split at hu
    · simpa using hu
    · cases hu⟩
theorem OwnW.rd' {w : World} {lo hi : Nat} {t : TypeId} {A : Option Addr} {n c : Nat} {xs : List Value} (h : OwnW w lo hi t A n c xs) (hh : hi ≤ w.heap.size) : Rd w w.heap.size A n c xs := h.rd.more hh
theorem Rd.turn {w w' : World} {B lo hi : Nat} {A : Option Addr} {n c : Nat} {xs : List Value} (h : Rd w B A n c xs) (hb : Turn lo hi w w') (hB : B ≤ lo) (hw : B ≤ w.heap.size) : Rd w' B A n c xs := h.below (hb.bel hB hw)

/-! ### marks -/
def mk (k : Int) (n : Nat) : List Value := (List.range n).map fun i : Nat => Value.int .i64 (k + (i : Int))
theorem mk_succ (k : Int) (n : Nat) : mk k (n + 1) = mk k n ++ [.int .i64 (k + (n : Int))] := by
  unfold mk
  rw [List.range_succ, List.map_append]
  rfl
theorem mk_len (k : Int) (n : Nat) : (mk k n).length = n := by simp [mk]
theorem mk_at (k : Int) (n j : Nat) (h : j < n) : (mk k n)[j]? = some (.int .i64 (k + (j : Int))) := by
  unfold mk
  rw [List.getElem?_map, List.getElem?_range h]
  rfl
theorem mark_step {cur : Array Value} {n j : Nat} {xs : List Value} {k : Int} (h : cur.toList.take n = mk k j ++ xs.drop j) (hx : xs.length = n) (hj : j < n) : (cur.setIfInBounds j (.int .i64 (k + (j : Int)))).toList.take n = mk k (j + 1) ++ xs.drop (j + 1) := by
  rw [Array.toList_setIfInBounds, List.take_set, h, mk_succ, List.append_assoc, List.set_append_right _ _ (by rw [mk_len]; exact Nat.le_refl _), mk_len, Nat.sub_self]
  congr 1
  rw [List.drop_eq_getElem_cons (by omega)]
  rfl
theorem neq_true {x y : Int} (h : x ≠ y) : (x != y) = true := by simpa using h
theorem ne_atI {us bs : List Int} {k : Nat} {x y : Int} (hx : us[k]? = some x) (hy : bs[k]? = some y) (h : x ≠ y) : us ≠ bs := by
  rintro rfl
  rw [hx] at hy
  injection hy with hy
  exact h hy
theorem take_eq_succI {us bs : List Int} {k : Nat} {x : Int} (hx : us[k]? = some x) (hy : bs[k]? = some x) (h : us.take k = bs.take k) : us.take (k + 1) = bs.take (k + 1) := by
  obtain ⟨h1, rfl⟩ := List.getElem?_eq_some_iff.1 hx
  obtain ⟨h2, h3⟩ := List.getElem?_eq_some_iff.1 hy
  rw [List.take_succ_eq_append_getElem h1, List.take_succ_eq_append_getElem h2, h, h3]
end Go.Proofs.Ytfbmcfdmffpfmaa
