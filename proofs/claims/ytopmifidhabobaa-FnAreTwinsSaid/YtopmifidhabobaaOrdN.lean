/-
  Plain laws of orders: all orders of the numbers below n, one behind the other.
-/
import Derived.Test.YtopmifidhabobaaBase
namespace Go.Proofs.Ytopmifidhabobaa
set_option linter.unusedVariables false
set_option linter.unusedSimpArgs false

/-- All orders of the numbers below n that begin with h, with f numbers more. -/
def ord (n : Nat) : Nat → List Nat → List (List Nat)
  | 0, h => [h]
  | f + 1, h => (List.range n).flatMap fun i => if i ∈ h then [] else ord n f (h ++ [i])
/-- Those whose next number is below i. -/
def ordTo (n f : Nat) (h : List Nat) (i : Nat) : List (List Nat) := (List.range i).flatMap fun i => if i ∈ h then [] else ord n f (h ++ [i])
theorem ordTo_succ (n f : Nat) (h : List Nat) (i : Nat) : ordTo n f h (i + 1) = ordTo n f h i ++ (if i ∈ h then [] else ord n f (h ++ [i])) := by
  unfold ordTo
  rw [List.range_succ, List.flatMap_append]
  simp
theorem ord_succ (n f : Nat) (h : List Nat) : ord n (f + 1) h = ordTo n f h n := rfl
theorem mem_ord (n f : Nat) : ∀ (h x : List Nat), h.Nodup → (x ∈ ord n f h ↔ ∃ t, x = h ++ t ∧ t.length = f ∧ x.Nodup ∧ ∀ i ∈ t, i < n) := by
  induction f with
  | zero =>
    intro h x hh
    rw [ord, List.mem_singleton]
    constructor
    · rintro rfl
      exact ⟨[], by simp, rfl, hh, fun i hi => by cases hi⟩
    · rintro ⟨t, rfl, ht, _, _⟩
      rw [List.eq_nil_of_length_eq_zero ht, List.append_nil]
  | succ f ih =>
    intro h x hh
    rw [ord, List.mem_flatMap]
    constructor
    · rintro ⟨i, hi, hx⟩
      split at hx
      · cases hx
      · next hni =>
        have hh' : (h ++ [i]).Nodup := by
          rw [List.nodup_append]
          exact ⟨hh, by simp, fun a ha b hb => by rw [List.mem_singleton] at hb; subst hb; rintro rfl; exact hni ha⟩
        obtain ⟨t, rfl, ht, hn, hl⟩ := (ih _ _ hh').1 hx
        refine ⟨i :: t, by simp, by simp [ht], hn, fun j hj => ?_⟩
        rw [List.mem_cons] at hj
        rcases hj with rfl | hj
        · simpa using hi
        · exact hl j hj
    · rintro ⟨t, rfl, ht, hn, hl⟩
      cases t with
      | nil => cases ht
      | cons i t =>
        refine ⟨i, by simpa using hl i (by simp), ?_⟩
        have hni : i ∉ h := by
          intro hi
          rw [List.nodup_append] at hn
          exact hn.2.2 i hi i (by simp) rfl
        rw [if_neg hni]
        have e : h ++ i :: t = (h ++ [i]) ++ t := by simp
        rw [e] at hn ⊢
        have hh' : (h ++ [i]).Nodup := (List.nodup_append.1 hn).1
        exact (ih _ _ hh').2 ⟨t, rfl, by simpa using ht, hn, fun j hj => hl j (by simp [hj])⟩
theorem nodup_sub_perm (x : List Nat) : ∀ S : List Nat, x.Nodup → (∀ i ∈ x, i ∈ S) → x.length = S.length → x.Perm S := by
  induction x with
  | nil =>
    intro S _ _ hl
    rw [List.eq_nil_of_length_eq_zero hl.symm]
  | cons a x ih =>
    intro S hn hs hl
    have ha : a ∈ S := hs a (by simp)
    obtain ⟨hax, hx⟩ := List.nodup_cons.1 hn
    have h1 := List.perm_cons_erase ha
    refine List.Perm.trans (List.Perm.cons a (ih (S.erase a) hx (fun i hi => ?_) ?_)) h1.symm
    · refine (List.mem_erase_of_ne ?_).2 (hs i (by simp [hi]))
      rintro rfl
      exact hax hi
    · rw [List.length_erase_of_mem ha]
      simp at hl
      omega
/-- All orders: the rows of the numbers below n, each one once. -/
theorem mem_orders (n : Nat) (x : List Nat) : x ∈ ord n n [] ↔ x.Perm (List.range n) := by
  rw [mem_ord n n [] x List.nodup_nil]
  constructor
  · rintro ⟨t, rfl, ht, hn, hl⟩
    refine nodup_sub_perm _ _ hn (fun i hi => ?_) (by simp; exact ht)
    simpa using hl i (by simpa using hi)
  · intro h
    exact ⟨x, rfl, by simpa using h.length_eq, h.nodup_iff.2 List.nodup_range, fun i hi => by simpa using h.mem_iff.1 hi⟩
/-- An order from 0 on. -/
theorem mem_orders0 (n : Nat) (x : List Nat) : x ∈ ord (n + 1) n [0] ↔ ∃ t, x = 0 :: t ∧ x.Perm (List.range (n + 1)) := by
  rw [mem_ord (n + 1) n [0] x (by simp)]
  constructor
  · rintro ⟨t, rfl, ht, hn, hl⟩
    refine ⟨t, rfl, nodup_sub_perm _ _ hn (fun i hi => ?_) (by simp; exact ht)⟩
    simp at hi
    rcases hi with rfl | hi
    · simp
    · simpa using hl i hi
  · rintro ⟨t, rfl, h⟩
    refine ⟨t, rfl, by simpa using h.length_eq, h.nodup_iff.2 List.nodup_range, fun i hi => by simpa using h.mem_iff.1 (List.mem_cons_of_mem _ hi)⟩
theorem ord_ne_nil (n f : Nat) (h : List Nat) (hh : h.Nodup) (hl : ∀ i ∈ h, i < n) (hf : h.length + f = n) : ord n f h ≠ [] := by
  -- the numbers that are not in h, as they come
  have h1 : ∀ S : List Nat, S.Nodup → (∀ i ∈ h, i ∈ S) → S.length = h.length + f → ∃ t : List Nat, (h ++ t).Perm S := by
    clear hl hf
    induction h with
    | nil => intro S _ _ _; exact ⟨S, List.Perm.refl _⟩
    | cons a h ih =>
      intro S hS hs hlen
      have ha : a ∈ S := hs a (by simp)
      obtain ⟨hax, hx⟩ := List.nodup_cons.1 hh
      obtain ⟨t, ht⟩ := ih hx (S.erase a) (hS.erase a) (fun i hi => (List.mem_erase_of_ne (by rintro rfl; exact hax hi)).2 (hs i (by simp [hi]))) (by rw [List.length_erase_of_mem ha, hlen]; simp <;> omega)
      exact ⟨t, (List.Perm.cons a ht).trans (List.perm_cons_erase ha).symm⟩
  obtain ⟨t, ht⟩ := h1 (List.range n) List.nodup_range (fun i hi => by simpa using hl i hi) (by simp; omega)
  have hm : h ++ t ∈ ord n f h := by
    refine (mem_ord n f h _ hh).2 ⟨t, rfl, ?_, ht.nodup_iff.2 List.nodup_range, fun i hi => by simpa using ht.mem_iff.1 (List.mem_append_right h hi)⟩
    have := ht.length_eq
    simp at this
    omega
  exact List.ne_nil_of_mem hm

end Go.Proofs.Ytopmifidhabobaa
