/-
  A row of the call's own that the library writes.
-/
import Derived.Test.YtfbmcfdmffpfmaaBase
import Derived.Sort.Grow
namespace Go.Proofs.Ytfbmcfdmffpfmaa
open Go.RowKit Go.Sort
set_option linter.unusedVariables false
set_option linter.unusedSimpArgs false

/-! ### a row of the call's own that the library writes -/
theorem holds_blk {α : Type} [Inhabited α] (enc : α → Value) {w : World} {g : Nat} {cur : Array Value} {e : TypeId} {ss : List α} (hb : w.heap[g]? = some (.cells cur e (0, 0))) (ht : cur.toList.take ss.length = ss.map enc) : Holds enc w g 0 ss.toArray := by
  intro j hj
  have hj' : j < ss.length := by simpa using hj
  refine ⟨?_, by simp [World.frozen?, hb]⟩
  have h1 : (cur.toList.take ss.length)[j]? = (ss.map enc)[j]? := by rw [ht]
  rw [List.getElem?_take_of_lt hj'] at h1
  simp only [World.cell?, hb, Nat.zero_add]
  simp only [Option.isSome_none, Bool.false_eq_true, if_false]
  rw [← Array.getElem?_toList, h1]
  simp [hj']
theorem heap_put {α : Type} [Inhabited α] (enc : α → Value) {w : World} {g n : Nat} {os : Array Obj} {cur : Array Value} {e : TypeId} {fr : Nat × Nat} (d : Array α) (hb : w.heap[g]? = some (.cells cur e fr)) :
    (grow (putRow enc (Sort.ahead w n) g 0 d) os).heap[g]? = some (.cells (putCells enc 0 d cur) e fr) := by
  have hg : g < w.heap.size := (Array.getElem?_eq_some_iff.1 hb).1
  rw [heap_grow_old _ _ (by simpa using hg)]
  simp [putRow, mapBlock, Sort.ahead, Array.getElem?_modify, hb, onCells]
theorem grown_put {α : Type} [Inhabited α] (enc : α → Value) {w : World} {g n : Nat} {os : Array Obj} (d : Array α) : w.grownBy (grow (putRow enc (Sort.ahead w n) g 0 d) os) (some g) := by
  refine ⟨rfl, rfl, rfl, by simp, fun k hk hne => ?_⟩
  rw [heap_grow_old _ _ (by simpa using hk)]
  have : g ≠ k := fun e => hne (by rw [e])
  simp [putRow, mapBlock, Sort.ahead, Array.getElem?_modify, this]
theorem grow_none (w : World) : grow w #[] = w := by
  simp [grow]
theorem take_put {α : Type} [Inhabited α] (enc : α → Value) (cur : Array Value) (ts : List α) (m : Nat) (hm : m ≤ ts.length) (h : ts.length ≤ cur.size) : (putCells enc 0 ts.toArray cur).toList.take m = (ts.take m).map enc := by
  apply List.ext_getElem?
  intro j
  by_cases hj : j < m
  · rw [List.getElem?_take_of_lt hj, Array.getElem?_toList, List.getElem?_map, List.getElem?_take_of_lt hj]
    have h1 : j < ts.length := by omega
    simp [putCells, h1, show j < cur.size by omega]
  · rw [List.getElem?_take_eq_none (by omega), List.getElem?_eq_none (by simp; omega)]
/-- The same row, with other numbers in its first cells. -/
theorem row_put {α : Type} [Inhabited α] (enc : α → Value) {w : World} {base g cap n k m : Nat} {e : TypeId} {os : Array Obj} {xs : List Value} (h : Row w base e (some ⟨g, 0, none⟩) k cap xs) (hk : 0 < k) (ts : List α) (hm : m ≤ ts.length) (hl : ts.length ≤ k) :
    Row (grow (putRow enc (Sort.ahead w n) g 0 ts.toArray) os) base e (some ⟨g, 0, none⟩) m cap ((ts.take m).map enc) := by
  obtain ⟨h1, ⟨_, h0⟩ | ⟨g', cap', cur, hv, hbase, hb, h2, h3, h4, h5⟩⟩ := h
  · omega
  · injection hv with ha hb' hc
    injection ha with ha
    injection ha with ha
    subst ha hc
    refine ⟨by simp; omega, .inr ⟨g, cap, _, rfl, hbase, heap_put enc ts.toArray hb, by omega, h3, by simp [putCells, h4], ?_⟩⟩
    rw [Nat.mul_one]
    exact take_put enc cur ts m hm (by omega)
theorem Row.blk {w : World} {base g cap k : Nat} {e : TypeId} {xs : List Value} {A : Option Addr} (h : Row w base e A k cap xs) (hk : 0 < k) : ∃ g cur, A = some ⟨g, 0, none⟩ ∧ base ≤ g ∧ w.heap[g]? = some (.cells cur e (0, 0)) ∧ cur.toList.take k = xs ∧ k ≤ cap ∧ cap ≤ maxLen := by
  obtain ⟨h1, ⟨_, h0⟩ | ⟨g', cap', cur, hv, hbase, hb, h2, h3, h4, h5⟩⟩ := h
  · omega
  · injection hv with ha hb' hc
    subst ha hc
    exact ⟨g', cur, rfl, hbase, hb, by simpa using h5, h2, h3⟩
end Go.Proofs.Ytfbmcfdmffpfmaa
