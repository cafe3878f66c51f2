/-
  Plain laws of texts that are made of windows: their windows are the words, and a text is among those of its windows.
-/
import Derived.Test.YtfbmcfdmffpfmaaFac
namespace Go.Proofs.Ytfbmcfdmffpfmaa
set_option linter.unusedVariables false
set_option linter.unusedSimpArgs false

/-- Whether the i-th word left may come next. -/
def goesT (k : Nat) (s : List UInt8) (left : List (List UInt8)) (i : Nat) : Bool :=
  !(decide (0 < i) && decide (left.getD i [] = left.getD (i - 1) [])) && (decide (s = []) || decide (s.drop (s.length + 1 - k) = (left.getD i []).take (k - 1)))
def nxtT (k : Nat) (s x : List UInt8) : List UInt8 := if s = [] then x else s ++ x.drop (k - 1)
/-- All texts that go on with words that are left. -/
def txs (k : Nat) : Nat → List UInt8 → List (List UInt8) → List (List UInt8)
  | 0, s, _ => [s]
  | f + 1, s, left => (List.range left.length).flatMap fun i => if goesT k s left i then txs k f (nxtT k s (left.getD i [])) (left.eraseIdx i) else []
/-- The first rounds of them. -/
def txsTo (k f : Nat) (s : List UInt8) (left : List (List UInt8)) (j : Nat) : List (List UInt8) :=
  (List.range j).flatMap fun i => if goesT k s left i then txs k f (nxtT k s (left.getD i [])) (left.eraseIdx i) else []
theorem txsTo_succ (k f : Nat) (s : List UInt8) (left : List (List UInt8)) (j : Nat) : txsTo k f s left (j + 1) = txsTo k f s left j ++ (if goesT k s left j then txs k f (nxtT k s (left.getD j [])) (left.eraseIdx j) else []) := by
  unfold txsTo
  rw [List.range_succ, List.flatMap_append]
  simp
theorem txs_succ (k f : Nat) (s : List UInt8) (left : List (List UInt8)) : txs k (f + 1) s left = txsTo k f s left left.length := by rw [txs]; rfl
def fct : Nat → Nat
  | 0 => 1
  | f + 1 => (f + 1) * fct f
theorem txs_len (k : Nat) : ∀ (f : Nat) (s : List UInt8) (left : List (List UInt8)), left.length = f → (txs k f s left).length ≤ fct f := by
  intro f
  induction f with
  | zero => intro s left _; simp [txs, fct]
  | succ f ih =>
    intro s left hl
    have key : ∀ j, j ≤ left.length → (txsTo k f s left j).length ≤ j * fct f := by
      intro j
      induction j with
      | zero => intro _; simp [txsTo]
      | succ j ihj =>
        intro hj
        have h1 := ihj (by omega)
        rw [txsTo_succ, List.length_append, Nat.add_mul, Nat.one_mul]
        split
        · have h2 := ih (nxtT k s (left.getD j [])) (left.eraseIdx j) (by rw [List.length_eraseIdx_of_lt (by omega)]; omega)
          omega
        · simp; omega
    have h := key left.length (Nat.le_refl _)
    rw [txs_succ]
    rw [hl] at h ⊢
    exact h
theorem fct_le : ∀ {f : Nat}, f ≤ 8 → fct f ≤ 40320 := by
  intro f hf
  rcases (show f = 0 ∨ f = 1 ∨ f = 2 ∨ f = 3 ∨ f = 4 ∨ f = 5 ∨ f = 6 ∨ f = 7 ∨ f = 8 by omega) with rfl | rfl | rfl | rfl | rfl | rfl | rfl | rfl | rfl <;> decide
theorem txsTo_len {k f : Nat} {s : List UInt8} {left : List (List UInt8)} (hl : left.length = f + 1) (hf : f + 1 ≤ 8) (j : Nat) (hj : j ≤ f + 1) : (txsTo k f s left j).length ≤ 322560 := by
  have key : ∀ j, j ≤ left.length → (txsTo k f s left j).length ≤ j * fct f := by
    intro j
    induction j with
    | zero => intro _; simp [txsTo]
    | succ j ihj =>
      intro hj
      have h1 := ihj (by omega)
      rw [txsTo_succ, List.length_append, Nat.add_mul, Nat.one_mul]
      split
      · have h2 := txs_len k f (nxtT k s (left.getD j [])) (left.eraseIdx j) (by rw [List.length_eraseIdx_of_lt (by omega)]; omega)
        omega
      · simp; omega
  have h1 := key j (by omega)
  have h2 := fct_le (f := f) (by omega)
  have h3 : j * fct f ≤ 8 * 40320 := Nat.mul_le_mul (by omega) h2
  omega

/-! ### their windows -/
theorem win_last {s : List UInt8} {k : Nat} (c : UInt8) (hk : 1 ≤ k) (hl : k ≤ s.length + 1) : winds (s ++ [c]) k = winds s k ++ [s.drop (s.length + 1 - k) ++ [c]] := by
  unfold winds
  have e : (s ++ [c]).length + 1 - k = (s.length + 1 - k) + 1 := by simp; omega
  rw [e, windsTo_succ]
  congr 1
  · unfold windsTo
    refine List.map_congr_left fun i hi => ?_
    rw [List.mem_range] at hi
    unfold win
    rw [List.drop_append_of_le_length (by omega), List.take_append_of_le_length (by rw [List.length_drop]; omega)]
  · unfold win
    rw [List.drop_append_of_le_length (by omega), List.take_of_length_le]
    rw [List.length_append, List.length_drop, List.length_singleton]
    omega
theorem winds_self {x : List UInt8} {k : Nat} (h : x.length = k) : winds x k = [x] := by
  unfold winds windsTo
  rw [h, show k + 1 - k = 1 by omega]
  simp only [List.range_one, List.map_cons, List.map_nil]
  unfold win
  rw [List.drop_zero, List.take_of_length_le (by omega)]
theorem last_one {x : List UInt8} {k : Nat} (h : x.length = k) (hk : 1 ≤ k) : ∃ c, x.drop (k - 1) = [c] ∧ x = x.take (k - 1) ++ [c] := by
  have hl : k - 1 < x.length := by omega
  refine ⟨x[k - 1], ?_, ?_⟩
  · rw [List.drop_eq_getElem_cons hl, List.drop_of_length_le (by omega)]
  · conv => lhs; rw [← List.take_append_drop (k - 1) x]
    rw [List.drop_eq_getElem_cons hl, List.drop_of_length_le (by omega)]
theorem nxt_winds {k : Nat} {s x : List UInt8} (hk : 1 ≤ k) (hx : x.length = k) (hs : s ≠ [] → k ≤ s.length) (hm : s ≠ [] → s.drop (s.length + 1 - k) = x.take (k - 1)) :
    winds (nxtT k s x) k = (if s = [] then [] else winds s k) ++ [x] ∧ k ≤ (nxtT k s x).length := by
  unfold nxtT
  by_cases h : s = []
  · rw [if_pos h, if_pos h, winds_self hx]
    exact ⟨rfl, by omega⟩
  · rw [if_neg h, if_neg h]
    obtain ⟨c, h1, h2⟩ := last_one hx hk
    have h3 := hs h
    rw [h1, win_last c hk (by omega), hm h, ← h2]
    exact ⟨rfl, by simp; omega⟩
theorem perm_eraseIdx : ∀ (L : List (List UInt8)) (i : Nat), i < L.length → L.Perm (L.getD i [] :: L.eraseIdx i) := by
  intro L
  induction L with
  | nil => intro i h; simp at h
  | cons y L ih =>
    intro i h
    cases i with
    | zero => simp
    | succ i =>
      have h1 := ih i (by simpa using h)
      simp only [List.getD_cons_succ, List.eraseIdx_cons_succ]
      exact (h1.cons y).trans (List.Perm.swap _ _ _)
theorem txs_winds {k : Nat} (hk : 1 ≤ k) : ∀ (f : Nat) (s : List UInt8) (left : List (List UInt8)), left.length = f → (∀ x ∈ left, x.length = k) → (s ≠ [] → k ≤ s.length) → (s = [] → left ≠ []) → ∀ y ∈ txs k f s left,
    (winds y k).Perm ((if s = [] then [] else winds s k) ++ left) ∧ y ≠ [] ∧ y.length + (if s = [] then 1 else 0) = (if s = [] then k else s.length) + left.length ∧ (∀ c ∈ y, c ∈ s ∨ ∃ x ∈ left, c ∈ x) := by
  intro f
  induction f with
  | zero =>
    intro s left hl hx hs h0 y hy
    rw [txs, List.mem_singleton] at hy
    subst hy
    have hL := List.eq_nil_of_length_eq_zero hl
    subst hL
    by_cases h : y = []
    · exact absurd rfl (h0 h)
    · rw [if_neg h, if_neg h, if_neg h, List.append_nil]
      exact ⟨List.Perm.refl _, h, by simp, fun c hc => .inl hc⟩
  | succ f ih =>
    intro s left hl hx hs h0 y hy
    rw [txs, List.mem_flatMap] at hy
    obtain ⟨i, hi, hy⟩ := hy
    rw [List.mem_range] at hi
    split at hy
    · next hg =>
      have hp := perm_eraseIdx left i hi
      have hxi : (left.getD i []) ∈ left := hp.mem_iff.2 (by simp)
      have hxl := hx _ hxi
      have hm : s ≠ [] → s.drop (s.length + 1 - k) = (left.getD i []).take (k - 1) := fun hne => by
        unfold goesT at hg
        rw [Bool.and_eq_true, Bool.or_eq_true] at hg
        rcases hg.2 with h | h
        · exact absurd (of_decide_eq_true h) hne
        · exact of_decide_eq_true h
      obtain ⟨w1, w2⟩ := nxt_winds hk hxl hs hm
      have hne : nxtT k s (left.getD i []) ≠ [] := fun e => by rw [e] at w2; simp at w2; omega
      obtain ⟨r1, r2, r3, r4⟩ := ih (nxtT k s (left.getD i [])) (left.eraseIdx i) (by rw [List.length_eraseIdx_of_lt hi]; omega) (fun x h => hx x (hp.mem_iff.2 (by simp [h]))) (fun _ => w2) (fun e => absurd e hne) y hy
      rw [if_neg hne] at r1
      rw [if_neg hne, if_neg hne] at r3
      refine ⟨?_, r2, ?_, ?_⟩
      · refine r1.trans ?_
        rw [w1, List.append_assoc, List.singleton_append]
        exact hp.symm.append_left _
      · have hle := hp.length_eq
        rw [List.length_cons] at hle
        unfold nxtT at r3
        by_cases h : s = []
        · rw [if_pos h] at r3
          rw [if_pos h, if_pos h]
          omega
        · rw [if_neg h] at r3
          rw [if_neg h, if_neg h]
          rw [List.length_append, List.length_drop] at r3
          omega
      · intro c hc
        rcases r4 c hc with h | ⟨x, h1, h2⟩
        · unfold nxtT at h
          split at h
          · exact .inr ⟨_, hxi, h⟩
          · rcases List.mem_append.1 h with h | h
            · exact .inl h
            · exact .inr ⟨_, hxi, List.mem_of_mem_drop h⟩
        · exact .inr ⟨x, hp.mem_iff.2 (by simp [h1]), h2⟩
    · cases hy

/-! ### a text is among those of its windows -/
theorem idx_first (L : List (List UInt8)) (x : List UInt8) (h : x ∈ L) : ∃ i, i < L.length ∧ L.getD i [] = x ∧ ∀ j, j < i → L.getD j [] ≠ x := by
  induction L with
  | nil => cases h
  | cons y L ih =>
    by_cases e : y = x
    · exact ⟨0, by simp, by simp [e], fun j hj => by omega⟩
    · obtain ⟨i, h1, h2, h3⟩ := ih ((List.mem_cons.1 h).resolve_left fun h => e h.symm)
      refine ⟨i + 1, by simp; omega, by simpa using h2, fun j hj => ?_⟩
      cases j with
      | zero => simpa using e
      | succ j => simpa using h3 j (by omega)
theorem take_win {s : List UInt8} {k j : Nat} (hk : 1 ≤ k) (hj : j + k ≤ s.length) : s.take (j + k) = s.take (j + k - 1) ++ (win s k j).drop (k - 1) := by
  unfold win
  have e : ((s.drop j).take k).drop (k - 1) = [s[j + k - 1]'(by omega)] := by
    rw [List.drop_take, List.drop_drop, show k - (k - 1) = 1 by omega, show j + (k - 1) = j + k - 1 by omega, List.drop_eq_getElem_cons (by omega)]
    rfl
  rw [e]
  have := List.take_succ_eq_append_getElem (l := s) (i := j + k - 1) (by omega)
  rw [show j + k - 1 + 1 = j + k by omega] at this
  exact this
theorem txs_all {s : List UInt8} {k : Nat} (hk : 1 ≤ k) (hl : k ≤ s.length) : ∀ (f j : Nat) (left : List (List UInt8)), j + f = s.length + 1 - k → left.Perm ((List.range f).map fun i => win s k (j + i)) → left.Pairwise (fun a b => a ≤ b) →
    s ∈ txs k f (if j = 0 then [] else s.take (j + k - 1)) left := by
  intro f
  induction f with
  | zero =>
    intro j left hj _ _
    rw [txs, List.mem_singleton, if_neg (by omega), List.take_of_length_le (by omega)]
  | succ f ih =>
    intro j left hj hp hs
    have hmem : win s k j ∈ left := hp.mem_iff.2 (List.mem_map.2 ⟨0, by simp, by simp⟩)
    obtain ⟨i, hi, hix, hfirst⟩ := idx_first left _ hmem
    have hlen : left.length = f + 1 := by have := hp.length_eq; simpa using this
    rw [txs, List.mem_flatMap]
    refine ⟨i, List.mem_range.2 hi, ?_⟩
    obtain ⟨t, ht⟩ : ∃ t, t = (if j = 0 then [] else s.take (j + k - 1)) := ⟨_, rfl⟩
    have hg : goesT k t left i = true := by
      unfold goesT
      rw [hix, Bool.and_eq_true, Bool.not_eq_true', Bool.or_eq_true]
      refine ⟨?_, ?_⟩
      · rw [Bool.and_eq_false_iff]
        by_cases h0 : 0 < i
        · right
          exact decide_eq_false fun e => hfirst (i - 1) (by omega) e.symm
        · left
          exact decide_eq_false h0
      · by_cases hj0 : j = 0
        · left
          rw [ht, if_pos hj0]
          rfl
        · right
          rw [ht, if_neg hj0]
          refine decide_eq_true ?_
          rw [List.length_take, show min (j + k - 1) s.length + 1 - k = j by omega]
          unfold win
          rw [List.take_take, List.drop_take, show j + k - 1 - j = min (k - 1) k by omega]
    rw [← ht, if_pos hg]
    have hn : nxtT k t (left.getD i []) = s.take (j + 1 + k - 1) := by
      unfold nxtT
      rw [hix]
      by_cases hj0 : j = 0
      · rw [ht, if_pos hj0, if_pos rfl, hj0]
        unfold win
        rw [List.drop_zero, show 0 + 1 + k - 1 = k by omega]
      · have hne : t ≠ [] := fun e => by
          rw [ht, if_neg hj0] at e
          have := congrArg List.length e
          rw [List.length_take, List.length_nil] at this
          omega
        rw [if_neg hne, ht, if_neg hj0, show j + 1 + k - 1 = j + k by omega, take_win hk (by omega)]
    rw [hn]
    have h := ih (j + 1) (left.eraseIdx i) (by omega) ?_ (hs.sublist (List.eraseIdx_sublist _ _))
    · rw [if_neg (by omega)] at h
      exact h
    · have h1 := perm_eraseIdx left i hi
      rw [hix] at h1
      have h2 := h1.symm.trans hp
      rw [List.range_succ_eq_map, List.map_cons, List.map_map] at h2
      simp only [Nat.add_zero] at h2
      refine ((List.perm_cons _).1 h2).trans ?_
      refine List.Perm.of_eq (List.map_congr_left fun m _ => ?_)
      show win s k (j + (m + 1)) = win s k (j + 1 + m)
      rw [show j + (m + 1) = j + 1 + m by omega]
theorem self_txs {s : List UInt8} {k : Nat} (hk : 1 ≤ k) (hl : k ≤ s.length) : s ∈ txs k (winds s k).length [] (stT (winds s k)) := by
  have h := txs_all hk hl (s.length + 1 - k) 0 (stT (winds s k)) (by omega) ?_ (stT_sorted _)
  · rw [if_pos rfl] at h
    rw [winds_len]
    exact h
  · refine (stT_perm _).trans (List.Perm.of_eq ?_)
    unfold winds windsTo
    refine List.map_congr_left fun i _ => ?_
    rw [Nat.zero_add]
end Go.Proofs.Ytfbmcfdmffpfmaa
