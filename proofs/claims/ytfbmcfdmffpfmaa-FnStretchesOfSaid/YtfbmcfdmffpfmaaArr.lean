/-
  Arrays of the call's own: a row of fixed size whose cells are read and written.
-/
import Derived.Test.YtfbmcfdmffpfmaaBase
import Derived.Lib.SmallJoins
import Derived.OwnWalk
namespace Go.Proofs.Ytfbmcfdmffpfmaa
open Go.RowKit
set_option linter.unusedVariables false

def Arr (w : World) (g : Nat) (t : TypeId) (xs : List Value) : Prop := w.heap[g]? = some (.cells xs.toArray t (0, 0))
theorem Arr.lt {w : World} {g : Nat} {t : TypeId} {xs : List Value} (h : Arr w g t xs) : g < w.heap.size := (Array.getElem?_eq_some_iff.1 h).1
theorem Arr.cell {w : World} {g : Nat} {t : TypeId} {xs : List Value} (h : Arr w g t xs) {i : Nat} {v : Value} (hi : xs[i]? = some v) : w.cell? ⟨g, i, none⟩ = some v := by
  rw [cell_of_row w g i _ _ (0, 0) h]
  simpa using hi
theorem Arr.frozen {w : World} {g : Nat} {t : TypeId} {xs : List Value} (h : Arr w g t xs) (i : Nat) : w.frozen? ⟨g, i, none⟩ = false := by
  unfold Arr at h
  simp [World.frozen?, h]
theorem Arr.set {w : World} {g : Nat} {t : TypeId} {xs : List Value} (h : Arr w g t xs) (i : Nat) (v : Value) : Arr (w.setCell ⟨g, i, none⟩ v) g t (xs.set i v) := by
  have := Go.Joins.block_setCell (i := i) h v
  unfold Arr
  rw [this]
  simp
theorem Arr.below {w w' : World} {B g : Nat} {t : TypeId} {xs : List Value} (h : Arr w g t xs) (hb : Below B w w') (hB : g < B) : Arr w' g t xs := (hb.block g hB).trans h
theorem Arr.quiet {w w' : World} {g : Nat} {t : TypeId} {xs : List Value} (h : Arr w g t xs) (hq : Quiet w w') : Arr w' g t xs := by
  obtain ⟨m, rfl⟩ := hq
  exact h
theorem Arr.of_full {w : World} {B g : Nat} {t : TypeId} {n : Nat} {xs : List Value} (h : w.ownsRow B t 1 (.slice (some ⟨g, 0, none⟩) n n) n xs) (hn : 0 < n) : Arr w g t xs := by
  obtain ⟨h1, h2 | ⟨g', cap, cur, hv, hg, hh, hn', hc, hs, ht⟩⟩ := h
  · obtain ⟨hv, rfl⟩ := h2
    omega
  · injection hv with ha hb hcc
    injection ha with ha
    injection ha with ha
    subst ha hcc
    unfold Arr
    rw [hh]
    have : cur.toList = xs := by
      rw [← ht, List.take_of_length_le]
      simp <;> omega
    rw [← this]
theorem ints_at {xs : List Int} {i : Nat} {x : Int} (h : xs[i]? = some x) : (xs.map I)[i]? = some (.int .i64 x) := by
  rw [List.getElem?_map, h]
  rfl
theorem ints_set (xs : List Int) (i : Nat) (x : Int) : (xs.map I).set i (.int .i64 x) = (xs.set i x).map I := by
  rw [List.map_set]
  rfl
theorem ints_made (n : Nat) : (madeCells (Value.int .i64 0).cells (n * 1)).toList = (List.replicate n (0 : Int)).map I := by
  rw [Nat.mul_one, show (Value.int .i64 0).cells = #[Value.int .i64 0] from rfl, toList_madeCells_one, List.map_replicate]
  rfl
theorem Try.infoI : (Try.prog.info? 3).map (fun i => (i.zero, i.size, i.bytes)) = some (some (.int .i64 0), 1, 8) := by kernel_rfl
end Go.Proofs.Ytfbmcfdmffpfmaa
