/-
  Plain laws of windows and of words in order: sorted, each once, and each as often as it is there.
-/
import Derived.Test.YtfbmcfdmffpfmaaWords
namespace Go.Proofs.Ytfbmcfdmffpfmaa
set_option linter.unusedVariables false
set_option linter.unusedSimpArgs false

/-! ### the order of texts -/
theorem tlt_of_le_ne {x y : List UInt8} (h : x ≤ y) (hne : x ≠ y) : x < y := by
  by_cases h2 : x < y
  · exact h2
  · exact absurd (List.le_antisymm h (List.not_lt.1 h2)) hne
theorem tlt_of_le_of_lt {x y z : List UInt8} (h1 : x ≤ y) (h2 : y < z) : x < z := by
  by_cases e : x = y
  · subst e; exact h2
  · exact List.lt_trans (tlt_of_le_ne h1 e) h2
theorem tle_of_lt {x y : List UInt8} (h : x < y) : x ≤ y := List.not_lt.1 fun h2 => List.lt_irrefl x (List.lt_trans h h2)
theorem tne_of_lt {x y : List UInt8} (h : x < y) : x ≠ y := fun e => by subst e; exact List.lt_irrefl x h
def leT : List UInt8 → List UInt8 → Bool := fun x y => decide (x ≤ y)
/-- Texts in order. -/
def stT (l : List (List UInt8)) : List (List UInt8) := l.mergeSort leT
theorem stT_perm (l : List (List UInt8)) : (stT l).Perm l := List.mergeSort_perm _ _
theorem stT_sorted (l : List (List UInt8)) : (stT l).Pairwise (fun a b => a ≤ b) := by
  have tr : ∀ a b c : List UInt8, leT a b = true → leT b c = true → leT a c = true := fun a b c h1 h2 => by simp only [leT, decide_eq_true_eq] at *; exact List.le_trans h1 h2
  have to : ∀ a b : List UInt8, (leT a b || leT b a) = true := fun a b => by simp only [leT, Bool.or_eq_true, decide_eq_true_eq]; exact List.le_total a b
  have h := List.pairwise_mergeSort tr to l
  exact h.imp fun {a b} h => by simpa [leT] using h
theorem sortedT_eq {l m : List (List UInt8)} (hp : l.Perm m) (hl : l.Pairwise (fun a b => a ≤ b)) (hm : m.Pairwise (fun a b => a ≤ b)) : l = m :=
  List.Perm.eq_of_pairwise (le := fun a b => a ≤ b) (fun a b _ _ h1 h2 => List.le_antisymm h1 h2) hl hm hp
theorem stT_of_sorted {l : List (List UInt8)} (h : l.Pairwise (fun a b => a ≤ b)) : stT l = l := sortedT_eq (stT_perm l) (stT_sorted l) h
theorem stT_of_perm {l m : List (List UInt8)} (h : l.Perm m) : stT l = stT m := sortedT_eq ((stT_perm l).trans (h.trans (stT_perm m).symm)) (stT_sorted l) (stT_sorted m)
theorem stT_len (l : List (List UInt8)) : (stT l).length = l.length := (stT_perm l).length_eq

/-! ### texts in order, each once -/
def AscT (L : List (List UInt8)) : Prop := L.Pairwise (fun a b => a < b)
theorem AscT.nodup {L : List (List UInt8)} (h : AscT L) : L.Nodup := h.imp fun {a b} h => tne_of_lt h
theorem AscT.sorted {L : List (List UInt8)} (h : AscT L) : L.Pairwise (fun a b => a ≤ b) := h.imp fun {a b} h => tle_of_lt h
theorem AscT.eq {L M : List (List UInt8)} (hL : AscT L) (hM : AscT M) (h : ∀ x, x ∈ L ↔ x ∈ M) : L = M :=
  List.Perm.eq_of_pairwise (le := fun a b => a < b) (fun a b _ _ h1 h2 => absurd (List.lt_trans h1 h2) (List.lt_irrefl a)) hL hM ((List.perm_ext_iff_of_nodup hL.nodup hM.nodup).2 h)
theorem ascT_of {L : List (List UInt8)} (h : L.Pairwise (fun a b => a ≤ b)) (hn : L.Nodup) : AscT L := (h.and hn).imp fun {a b} h => tlt_of_le_ne h.1 h.2
/-- One text more, if it is not there. -/
def insT : List (List UInt8) → List UInt8 → List (List UInt8)
  | [], x => [x]
  | y :: L, x => if y < x then y :: insT L x else if y = x then y :: L else x :: y :: L
theorem insT_mem : ∀ (L : List (List UInt8)) (x z : List UInt8), z ∈ insT L x ↔ z = x ∨ z ∈ L := by
  intro L
  induction L with
  | nil => intro x z; simp [insT]
  | cons y L ih =>
    intro x z
    rw [insT]
    split
    · rw [List.mem_cons, ih, List.mem_cons]
      constructor
      · rintro (h | h | h)
        · exact .inr (.inl h)
        · exact .inl h
        · exact .inr (.inr h)
      · rintro (h | h | h)
        · exact .inr (.inl h)
        · exact .inl h
        · exact .inr (.inr h)
    · split
      · next h => subst h; simp
      · simp
theorem insT_asc : ∀ {L : List (List UInt8)} {x : List UInt8}, AscT L → AscT (insT L x) := by
  intro L
  induction L with
  | nil => intro x _; simp [insT, AscT]
  | cons y L ih =>
    intro x h
    have h1 := List.pairwise_cons.1 h
    rw [insT]
    split
    · next hy =>
      refine List.pairwise_cons.2 ⟨fun z hz => ?_, ih h1.2⟩
      rcases (insT_mem L x z).1 hz with rfl | hz
      · exact hy
      · exact h1.1 z hz
    · next hy =>
      split
      · exact h
      · next hne =>
        have hxy : x < y := tlt_of_le_ne (List.not_lt.1 hy) fun e => hne e.symm
        refine List.pairwise_cons.2 ⟨fun z hz => ?_, h⟩
        rcases List.mem_cons.1 hz with rfl | hz
        · exact hxy
        · exact List.lt_trans hxy (h1.1 z hz)
theorem insT_len_le : ∀ (L : List (List UInt8)) (x : List UInt8), (insT L x).length ≤ L.length + 1 := by
  intro L
  induction L with
  | nil => intro x; simp [insT]
  | cons y L ih =>
    intro x
    rw [insT]
    have := ih x
    split
    · simp; omega
    · split <;> simp
/-- How the place is found. -/
theorem insT_at : ∀ {L : List (List UInt8)} {x : List UInt8} {k : Nat}, k ≤ L.length → (∀ y ∈ L.take k, y < x) → (∀ y, L[k]? = some y → ¬ y < x) →
    insT L x = if L[k]? = some x then L else L.take k ++ x :: L.drop k := by
  intro L
  induction L with
  | nil =>
    intro x k hk _ _
    obtain rfl : k = 0 := by simpa using hk
    simp [insT]
  | cons y L ih =>
    intro x k hk h1 h2
    cases k with
    | zero =>
      have hy := h2 y rfl
      rw [insT, if_neg hy]
      by_cases e : y = x
      · rw [if_pos e, if_pos (by simp [e])]
      · rw [if_neg e, if_neg (by simpa using e)]
        rfl
    | succ k =>
      have hy : y < x := h1 y (by simp)
      rw [insT, if_pos hy, ih (k := k) (by simpa using hk) (fun z hz => h1 z (by simp [hz])) (fun z hz => h2 z (by simpa using hz))]
      rw [List.getElem?_cons_succ]
      split <;> simp
def dd (l : List (List UInt8)) : List (List UInt8) := l.foldl insT []
theorem fold_insT (l : List (List UInt8)) : ∀ L, AscT L → AscT (l.foldl insT L) ∧ ∀ z, z ∈ l.foldl insT L ↔ z ∈ l ∨ z ∈ L := by
  induction l with
  | nil => intro L h; exact ⟨h, by simp⟩
  | cons x l ih =>
    intro L h
    rw [List.foldl_cons]
    obtain ⟨h1, h2⟩ := ih (insT L x) (insT_asc h)
    refine ⟨h1, fun z => ?_⟩
    rw [h2, insT_mem, List.mem_cons]
    constructor
    · rintro (h | h | h)
      · exact .inl (.inr h)
      · exact .inl (.inl h)
      · exact .inr h
    · rintro ((h | h) | h)
      · exact .inr (.inl h)
      · exact .inl h
      · exact .inr (.inr h)
theorem dd_asc (l : List (List UInt8)) : AscT (dd l) := (fold_insT l [] List.Pairwise.nil).1
theorem dd_mem (l : List (List UInt8)) (z : List UInt8) : z ∈ dd l ↔ z ∈ l := by unfold dd; rw [(fold_insT l [] List.Pairwise.nil).2]; simp
theorem dd_len (l : List (List UInt8)) : (dd l).length ≤ l.length := by
  have h : ∀ (l L : List (List UInt8)), (l.foldl insT L).length ≤ L.length + l.length := by
    intro l
    induction l with
    | nil => intro L; simp
    | cons x l ih =>
      intro L
      rw [List.foldl_cons]
      have h1 := ih (insT L x)
      have h2 := insT_len_le L x
      simp
      omega
  unfold dd
  simpa using h l []
theorem dd_snoc (l : List (List UInt8)) (x : List UInt8) : dd (l ++ [x]) = insT (dd l) x := by unfold dd; rw [List.foldl_append]; rfl
theorem dd_eq {l L : List (List UInt8)} (h : AscT L) (hm : ∀ z, z ∈ L ↔ z ∈ l) : L = dd l := h.eq (dd_asc l) fun x => by rw [hm, dd_mem]

/-! ### texts in order, each as often as it is there -/
def insS : List (List UInt8) → List UInt8 → List (List UInt8)
  | [], x => [x]
  | y :: L, x => if y ≤ x then y :: insS L x else x :: y :: L
theorem insS_perm : ∀ (L : List (List UInt8)) (x : List UInt8), (insS L x).Perm (x :: L) := by
  intro L
  induction L with
  | nil => intro x; simp [insS]
  | cons y L ih =>
    intro x
    rw [insS]
    split
    · exact ((ih x).cons y).trans (List.Perm.swap x y L)
    · exact List.Perm.refl _
theorem insS_sorted : ∀ {L : List (List UInt8)} {x : List UInt8}, L.Pairwise (fun a b => a ≤ b) → (insS L x).Pairwise (fun a b => a ≤ b) := by
  intro L
  induction L with
  | nil => intro x _; simp [insS]
  | cons y L ih =>
    intro x h
    have h1 := List.pairwise_cons.1 h
    rw [insS]
    split
    · next hy =>
      refine List.pairwise_cons.2 ⟨fun z hz => ?_, ih h1.2⟩
      rcases List.mem_cons.1 ((insS_perm L x).mem_iff.1 hz) with rfl | hz
      · exact hy
      · exact h1.1 z hz
    · next hy =>
      have hxy : x ≤ y := (List.le_total x y).resolve_right hy
      refine List.pairwise_cons.2 ⟨fun z hz => ?_, h⟩
      rcases List.mem_cons.1 hz with rfl | hz
      · exact hxy
      · exact List.le_trans hxy (h1.1 z hz)
theorem insS_at : ∀ {L : List (List UInt8)} {x : List UInt8} {k : Nat}, k ≤ L.length → (∀ y ∈ L.take k, y ≤ x) → (∀ y, L[k]? = some y → ¬ y ≤ x) → insS L x = L.take k ++ x :: L.drop k := by
  intro L
  induction L with
  | nil =>
    intro x k hk _ _
    obtain rfl : k = 0 := by simpa using hk
    simp [insS]
  | cons y L ih =>
    intro x k hk h1 h2
    cases k with
    | zero => rw [insS, if_neg (h2 y rfl)]; rfl
    | succ k =>
      rw [insS, if_pos (h1 y (by simp)), ih (k := k) (by simpa using hk) (fun z hz => h1 z (by simp [hz])) (fun z hz => h2 z (by simpa using hz))]
      simp
theorem fold_insS (l : List (List UInt8)) : ∀ L, L.Pairwise (fun a b => a ≤ b) → (l.foldl insS L).Pairwise (fun a b => a ≤ b) ∧ (l.foldl insS L).Perm (l ++ L) := by
  induction l with
  | nil => intro L h; exact ⟨h, List.Perm.refl _⟩
  | cons x l ih =>
    intro L h
    rw [List.foldl_cons]
    obtain ⟨h1, h2⟩ := ih (insS L x) (insS_sorted h)
    refine ⟨h1, h2.trans ?_⟩
    exact ((insS_perm L x).append_left l).trans List.perm_middle
theorem fold_insS_st (l : List (List UInt8)) : l.foldl insS [] = stT l := by
  obtain ⟨h1, h2⟩ := fold_insS l [] List.Pairwise.nil
  exact sortedT_eq ((by simpa using h2 : (l.foldl insS []).Perm l).trans (stT_perm l).symm) h1 (stT_sorted l)
theorem stT_snoc (l : List (List UInt8)) (x : List UInt8) : stT (l ++ [x]) = insS (stT l) x := by
  rw [← fold_insS_st, ← fold_insS_st, List.foldl_append]
  rfl

/-! ### windows -/
def win (s : List UInt8) (k i : Nat) : List UInt8 := (s.drop i).take k
def windsTo (s : List UInt8) (k j : Nat) : List (List UInt8) := (List.range j).map (win s k)
theorem windsTo_succ (s : List UInt8) (k j : Nat) : windsTo s k (j + 1) = windsTo s k j ++ [win s k j] := by simp [windsTo, List.range_succ]
theorem windsTo_len (s : List UInt8) (k j : Nat) : (windsTo s k j).length = j := by simp [windsTo]
def winds (s : List UInt8) (k : Nat) : List (List UInt8) := windsTo s k (s.length + 1 - k)
theorem winds_len (s : List UInt8) (k : Nat) : (winds s k).length = s.length + 1 - k := windsTo_len _ _ _
theorem win_len {s : List UInt8} {k i : Nat} (h : i + k ≤ s.length) : (win s k i).length = k := by unfold win; rw [List.length_take, List.length_drop]; omega
theorem winds_mem (s : List UInt8) (k : Nat) (x : List UInt8) : x ∈ winds s k ↔ ∃ i, i + k ≤ s.length ∧ win s k i = x := by
  unfold winds windsTo
  rw [List.mem_map]
  constructor
  · rintro ⟨i, hi, rfl⟩
    rw [List.mem_range] at hi
    exact ⟨i, by omega, rfl⟩
  · rintro ⟨i, hi, rfl⟩
    exact ⟨i, List.mem_range.2 (by omega), rfl⟩
theorem winds_memlen {s : List UInt8} {k : Nat} {x : List UInt8} (h : x ∈ winds s k) : x.length = k := by
  obtain ⟨i, hi, rfl⟩ := (winds_mem s k x).1 h
  exact win_len hi
theorem winds_has {s x : List UInt8} : hasL s x = true ↔ x ∈ winds s x.length := by
  rw [hasL_iff, infix_iff, winds_mem]
  rfl
/-- All different words of so many letters. -/
def fac (s : List UInt8) (k : Nat) : List (List UInt8) := dd (winds s k)
theorem fac_mem (s : List UInt8) (k : Nat) (x : List UInt8) : x ∈ fac s k ↔ x ∈ winds s k := dd_mem _ _
theorem fac_asc (s : List UInt8) (k : Nat) : AscT (fac s k) := dd_asc _
theorem fac_len (s : List UInt8) (k : Nat) : (fac s k).length ≤ s.length + 1 - k := by
  have := dd_len (winds s k)
  rw [winds_len] at this
  exact this
/-- How often a word begins. -/
def cntW (s x : List UInt8) : Nat := (winds s x.length).count x
theorem cntW_pos {s x : List UInt8} : 0 < cntW s x ↔ hasL s x = true := by
  unfold cntW
  rw [List.count_pos_iff, winds_has]
end Go.Proofs.Ytfbmcfdmffpfmaa
