/-
  Plain laws of the orders of a list: the program's (all orders of the places, one behind the other) and the reference's find the same first one.
-/
import Derived.Test.YtopmifidhabobaaOrdN
import Derived.Test.YtopmifidhabobaaCut
namespace Go.Proofs.Ytopmifidhabobaa
set_option linter.unusedVariables false
set_option linter.unusedSimpArgs false

/-- Two lists in which whatever is looked for is found first as the same. -/
def FEq {α : Type} (a b : List α) : Prop := ∀ p : α → Bool, a.find? p = b.find? p
theorem FEq.refl {α : Type} (a : List α) : FEq a a := fun _ => rfl
theorem FEq.trans {α : Type} {a b c : List α} (h : FEq a b) (k : FEq b c) : FEq a c := fun p => (h p).trans (k p)
theorem FEq.symm {α : Type} {a b : List α} (h : FEq a b) : FEq b a := fun p => (h p).symm
theorem FEq.app {α : Type} {a b c d : List α} (h : FEq a b) (k : FEq c d) : FEq (a ++ c) (b ++ d) := fun p => by
  rw [List.find?_append, List.find?_append, h p, k p]
theorem FEq.mem {α : Type} [DecidableEq α] {a b : List α} (h : FEq a b) (x : α) : x ∈ a ↔ x ∈ b := by
  have h1 := h (fun y => decide (y = x))
  have e : ∀ l : List α, x ∈ l ↔ (l.find? (fun y => decide (y = x))).isSome = true := fun l => by simp
  rw [e a, e b, h1]
def sel (s : List Int) (o : List Nat) : List Int := o.map fun i => s.getD i 0
/-- The reference's orders of what is left behind a head. -/
def oS : Nat → List Int → List Int → List (List Int)
  | 0, _, head => [head]
  | f + 1, left, head => (List.range left.length).flatMap fun k => if 0 < k ∧ left.getD k 0 = left.getD (k - 1) 0 then [] else oS f (left.take k ++ left.drop (k + 1)) (head ++ [left.getD k 0])
def oSTo (f : Nat) (left head : List Int) (j : Nat) : List (List Int) := (List.range j).flatMap fun k => if 0 < k ∧ left.getD k 0 = left.getD (k - 1) 0 then [] else oS f (left.take k ++ left.drop (k + 1)) (head ++ [left.getD k 0])
theorem oSTo_succ (f : Nat) (left head : List Int) (j : Nat) : oSTo f left head (j + 1) = oSTo f left head j ++ (if 0 < j ∧ left.getD j 0 = left.getD (j - 1) 0 then [] else oS f (left.take j ++ left.drop (j + 1)) (head ++ [left.getD j 0])) := by
  unfold oSTo
  rw [List.range_succ, List.flatMap_append]
  simp
theorem oS_succ (f : Nat) (left head : List Int) : oS (f + 1) left head = oSTo f left head left.length := rfl
theorem flatMap_skip {α β : Type} (L : List α) (p : α → Prop) [DecidablePred p] (g : α → List β) : (L.flatMap fun i => if p i then [] else g i) = (L.filter fun i => decide (¬ p i)).flatMap g := by
  induction L with
  | nil => rfl
  | cons a L ih =>
    by_cases h : p a <;> simp [h, List.filter_cons, ih]
theorem getD_eq {α : Type} {l : List α} {k : Nat} (d : α) (h : k < l.length) : l.getD k d = l[k] := by
  rw [List.getD_eq_getElem?_getD, List.getElem?_eq_getElem h]
  rfl
theorem filter_ne_at {l : List Nat} (hn : l.Nodup) {k : Nat} (hk : k < l.length) : l.filter (fun i => decide (i ≠ l[k])) = l.take k ++ l.drop (k + 1) := by
  have e := List.drop_eq_getElem_cons hk
  obtain ⟨x, hx⟩ : ∃ x, x = l[k] := ⟨_, rfl⟩
  rw [← hx] at e ⊢
  have e9 : l.filter (fun i => decide (i ≠ x)) = (l.take k ++ l.drop k).filter (fun i => decide (i ≠ x)) := by rw [List.take_append_drop]
  rw [e9, List.filter_append]
  have hn' : (l.take k ++ l.drop k).Nodup := by rw [List.take_append_drop]; exact hn
  obtain ⟨_, h2, h3⟩ := List.nodup_append.1 hn'
  rw [e] at h2 h3
  have e1 : (l.take k).filter (fun i => decide (i ≠ x)) = l.take k := by
    rw [List.filter_eq_self]
    intro a ha
    have := h3 a ha x (by simp)
    simpa using this
  have e2 : (l.drop k).filter (fun i => decide (i ≠ x)) = l.drop (k + 1) := by
    rw [e, List.filter_cons]
    simp only [ne_eq, not_true_eq_false, decide_false, Bool.false_eq_true, if_false]
    rw [List.filter_eq_self]
    intro a ha
    have := (List.nodup_cons.1 h2).1
    simp
    rintro rfl
    exact this ha
  rw [e1, e2]
theorem skip_same {l : List Int} {k : Nat} (hk : k < l.length) (h0 : 0 < k) (h : l.getD k 0 = l.getD (k - 1) 0) : l.take k ++ l.drop (k + 1) = l.take (k - 1) ++ l.drop k := by
  obtain ⟨m, rfl⟩ : ∃ m, k = m + 1 := ⟨k - 1, by omega⟩
  rw [getD_eq 0 hk, show m + 1 - 1 = m by omega, getD_eq 0 (show m < l.length by omega)] at h
  rw [show m + 1 - 1 = m by omega, List.take_succ_eq_append_getElem (show m < l.length by omega), List.drop_eq_getElem_cons hk, h]
  simp [← List.take_append_getElem]
theorem sel_take (s : List Int) (o : List Nat) (k : Nat) : sel s (o.take k) = (sel s o).take k := by unfold sel; rw [List.map_take]
theorem sel_drop (s : List Int) (o : List Nat) (k : Nat) : sel s (o.drop k) = (sel s o).drop k := by unfold sel; rw [List.map_drop]
theorem sel_app (s : List Int) (o o2 : List Nat) : sel s (o ++ o2) = sel s o ++ sel s o2 := by unfold sel; rw [List.map_append]
theorem sel_len (s : List Int) (o : List Nat) : (sel s o).length = o.length := by unfold sel; rw [List.length_map]
theorem sel_getD (s : List Int) (o : List Nat) {k : Nat} (hk : k < o.length) : (sel s o).getD k 0 = s.getD o[k] 0 := by
  rw [getD_eq 0 (by rw [sel_len]; exact hk)]
  unfold sel
  rw [List.getElem_map]
/-- The orders of the places that h leaves, and the reference's of what stands there. -/
theorem ord_feq (s : List Int) (n : Nat) (f : Nat) : ∀ (h rem : List Nat), rem = (List.range n).filter (fun i => decide (i ∉ h)) → rem.length = f → FEq ((ord n f h).map (sel s)) (oS f (sel s rem) (sel s h)) := by
  induction f with
  | zero =>
    intro h rem _ _
    exact FEq.refl _
  | succ f ih =>
    intro h rem hrem hlen
    have hnd : rem.Nodup := by rw [hrem]; exact List.nodup_range.filter _
    have e0 : ord n (f + 1) h = rem.flatMap fun i => ord n f (h ++ [i]) := by
      rw [ord, flatMap_skip (List.range n) (fun i => i ∈ h), hrem]
    rw [e0, oS_succ, sel_len, List.map_flatMap]
    have key : ∀ k, k ≤ rem.length → FEq ((rem.take k).flatMap fun i => (ord n f (h ++ [i])).map (sel s)) (oSTo f (sel s rem) (sel s h) k) ∧
        (0 < k → ∀ p : List Int → Bool, ((rem.take k).flatMap fun i => (ord n f (h ++ [i])).map (sel s)).find? p = none → (oS f ((sel s rem).take (k - 1) ++ (sel s rem).drop k) (sel s h ++ [(sel s rem).getD (k - 1) 0])).find? p = none) := by
      intro k
      induction k with
      | zero => exact fun _ => ⟨by simp [oSTo, FEq.refl], fun h => absurd h (by omega)⟩
      | succ k ihk =>
        intro hk
        obtain ⟨h1, h2⟩ := ihk (by omega)
        have hkl : k < rem.length := by omega
        have hX : FEq ((ord n f (h ++ [rem[k]])).map (sel s)) (oS f ((sel s rem).take k ++ (sel s rem).drop (k + 1)) (sel s h ++ [(sel s rem).getD k 0])) := by
          have h3 := ih (h ++ [rem[k]]) (rem.take k ++ rem.drop (k + 1)) ?_ ?_
          · rw [sel_app, sel_app, sel_take, sel_drop] at h3
            rw [sel_getD s rem hkl]
            exact h3
          · rw [← filter_ne_at hnd hkl]
            obtain ⟨y, hy⟩ : ∃ y, y = rem[k] := ⟨_, rfl⟩
            rw [← hy]
            clear hy
            rw [hrem, List.filter_filter]
            refine List.filter_congr fun x _ => ?_
            simp only [List.mem_append, List.mem_singleton]
            by_cases hx : x ∈ h <;> by_cases hx2 : x = y <;> simp [hx, hx2]
          · rw [List.length_append, List.length_take, List.length_drop]
            omega
        rw [List.take_succ_eq_append_getElem hkl, List.flatMap_append, oSTo_succ]
        simp only [List.flatMap_cons, List.flatMap_nil, List.append_nil]
        refine ⟨?_, fun _ p hp => ?_⟩
        · split
          · next hd =>
            rw [List.append_nil]
            refine FEq.trans (fun p => ?_) h1
            rw [List.find?_append]
            cases hA : ((rem.take k).flatMap fun i => (ord n f (h ++ [i])).map (sel s)).find? p with
            | some x => rfl
            | none =>
              have h4 := h2 hd.1 p hA
              rw [← skip_same (by rw [sel_len]; exact hkl) hd.1 hd.2, ← hd.2] at h4
              rw [hX p, h4]
              rfl
          · exact h1.app hX
        · rw [List.find?_append, Option.or_eq_none_iff] at hp
          rw [show k + 1 - 1 = k by omega, ← hX p]
          exact hp.2
    have h5 := (key rem.length (Nat.le_refl _)).1
    rw [List.take_length] at h5
    exact h5
/-- All orders of a list: the program's, as they come. -/
def arr (s : List Int) : List (List Int) := (ord s.length s.length []).map (sel s)
theorem sel_range (s : List Int) : sel s (List.range s.length) = s := by
  refine List.ext_getElem (by simp [sel]) fun i h1 h2 => ?_
  simp [sel, List.getD_eq_getElem?_getD, List.getElem?_eq_getElem h2]
theorem arr_feq (s : List Int) : FEq (arr s) (oS s.length s []) := by
  have h := ord_feq s s.length s.length [] (List.range s.length) (by rw [List.filter_eq_self.2 (fun a _ => by simp)]) (by simp)
  rw [sel_range] at h
  exact h
theorem mem_arr {s x : List Int} : x ∈ arr s ↔ ∃ o : List Nat, o.Perm (List.range s.length) ∧ x = sel s o := by
  unfold arr
  rw [List.mem_map]
  constructor
  · rintro ⟨o, ho, rfl⟩
    exact ⟨o, (mem_orders _ _).1 ho, rfl⟩
  · rintro ⟨o, ho, rfl⟩
    exact ⟨o, (mem_orders _ _).2 ho, rfl⟩
theorem arr_perm {s x : List Int} (h : x ∈ arr s) : x.Perm s := by
  obtain ⟨o, ho, rfl⟩ := mem_arr.1 h
  have h2 : (sel s o).Perm (sel s (List.range s.length)) := ho.map _
  rwa [sel_range] at h2
theorem oS_perm {s x : List Int} (h : x ∈ oS s.length s []) : x.Perm s := arr_perm (((arr_feq s).mem x).2 h)
end Go.Proofs.Ytopmifidhabobaa
