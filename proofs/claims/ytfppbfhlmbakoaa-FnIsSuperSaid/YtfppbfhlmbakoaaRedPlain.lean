/-
  Plain laws on the words that are left: none is in another one; each word is in one of them; what is left of them is they.
-/
import Derived.Test.YtfppbfhlmbakoaaWords
namespace Go.Proofs.Ytfppbfhlmbakoaa
set_option linter.unusedVariables false
set_option linter.unusedSimpArgs false

theorem dropTo_iff {ws : List (List UInt8)} {i : Nat} {x : List UInt8} {n : Nat} : dropTo ws i x n = true ↔ ∃ k v, k < n ∧ ws[k]? = some v ∧ hit i x k v = true := by
  induction n with
  | zero => simp [dropTo]
  | succ n ih =>
    rw [dropTo, Bool.or_eq_true, ih]
    constructor
    · rintro (⟨k, v, hk, hv, hh⟩ | h)
      · exact ⟨k, v, by omega, hv, hh⟩
      · split at h
        · next v hv => exact ⟨n, v, by omega, hv, h⟩
        · cases h
    · rintro ⟨k, v, hk, hv, hh⟩
      by_cases hkn : k = n
      · subst hkn
        right
        rw [hv]
        exact hh
      · exact .inl ⟨k, v, by omega, hv, hh⟩
theorem hit_iff {i k : Nat} {x v : List UInt8} : hit i x k v = true ↔ k ≠ i ∧ x <:+: v ∧ (v ≠ x ∨ k < i) := by
  unfold hit
  simp only [Bool.and_eq_true, Bool.or_eq_true, decide_eq_true_eq, hasL_iff]
  constructor
  · rintro ⟨⟨a, b⟩, c⟩; exact ⟨a, b, c⟩
  · rintro ⟨a, b, c⟩; exact ⟨⟨a, b⟩, c⟩
theorem keep_iff {ws : List (List UInt8)} {i : Nat} {x : List UInt8} : dropTo ws i x ws.length = false ↔ ∀ k v, ws[k]? = some v → k ≠ i → x <:+: v → v = x ∧ i < k := by
  rw [← Bool.not_eq_true, dropTo_iff]
  constructor
  · intro h k v hv hk hx
    have h1 : ¬ hit i x k v = true := fun hh => h ⟨k, v, (List.getElem?_eq_some_iff.1 hv).1, hv, hh⟩
    rw [hit_iff] at h1
    by_cases e : v = x
    · exact ⟨e, by
        by_cases hki : k < i
        · exact absurd ⟨hk, hx, .inr hki⟩ h1
        · omega⟩
    · exact absurd ⟨hk, hx, .inl e⟩ h1
  · rintro h ⟨k, v, _, hv, hh⟩
    rw [hit_iff] at hh
    obtain ⟨h1, h2⟩ := h k v hv hh.1 hh.2.1
    rcases hh.2.2 with h3 | h3
    · exact h3 h1
    · omega
theorem mem_redTo {ws : List (List UInt8)} {n : Nat} {x : List UInt8} : x ∈ redTo ws n ↔ ∃ i, i < n ∧ ws[i]? = some x ∧ dropTo ws i x ws.length = false := by
  induction n with
  | zero => simp [redTo]
  | succ n ih =>
    rw [redTo]
    split
    · next y hy =>
      split
      · next hd =>
        rw [ih]
        constructor
        · rintro ⟨i, hi, hx, hk⟩; exact ⟨i, by omega, hx, hk⟩
        · rintro ⟨i, hi, hx, hk⟩
          by_cases e : i = n
          · subst e
            rw [hy] at hx
            injection hx with hx
            subst hx
            rw [hd] at hk
            cases hk
          · exact ⟨i, by omega, hx, hk⟩
      · next hd =>
        rw [List.mem_append, ih]
        constructor
        · rintro (⟨i, hi, hx, hk⟩ | h)
          · exact ⟨i, by omega, hx, hk⟩
          · simp at h
            subst h
            exact ⟨n, by omega, hy, by simpa using hd⟩
        · rintro ⟨i, hi, hx, hk⟩
          by_cases e : i = n
          · subst e
            rw [hy] at hx
            injection hx with hx
            subst hx
            exact .inr (by simp)
          · exact .inl ⟨i, by omega, hx, hk⟩
    · next hy =>
      rw [ih]
      constructor
      · rintro ⟨i, hi, hx, hk⟩; exact ⟨i, by omega, hx, hk⟩
      · rintro ⟨i, hi, hx, hk⟩
        by_cases e : i = n
        · subst e; rw [hy] at hx; cases hx
        · exact ⟨i, by omega, hx, hk⟩
/-- Neither is in the other. -/
def Apart (a b : List UInt8) : Prop := ¬ a <:+: b ∧ ¬ b <:+: a
theorem redTo_apart (ws : List (List UInt8)) (n : Nat) : (redTo ws n).Pairwise Apart := by
  induction n with
  | zero => simp [redTo]
  | succ n ih =>
    rw [redTo]
    split
    · next y hy =>
      split
      · exact ih
      · next hd =>
        rw [List.pairwise_append]
        refine ⟨ih, by simp, ?_⟩
        intro a ha b hb
        simp at hb
        subst hb
        obtain ⟨i, hi, hx, hk⟩ := mem_redTo.1 ha
        have hd' := keep_iff.1 (by simpa using hd : dropTo ws n b ws.length = false)
        have hk' := keep_iff.1 hk
        refine ⟨fun h => ?_, fun h => ?_⟩
        · obtain ⟨e, _⟩ := hk' n b hy (by omega) h
          subst e
          have := (hd' i b hx (by omega) (List.infix_refl _)).2
          omega
        · have := (hd' i a hx (by omega) h).2
          omega
    · exact ih
theorem red_apart (ws : List (List UInt8)) : (red ws).Pairwise Apart := redTo_apart ws _
/-- Each word is in one of those that are left. -/
theorem red_met (ws : List (List UInt8)) (L : Nat) (hL : ∀ x ∈ ws, x.length ≤ L) : ∀ (m i : Nat) (x : List UInt8), (L - x.length) * (ws.length + 1) + i ≤ m → ws[i]? = some x → ∃ r ∈ red ws, x <:+: r := by
  intro m
  induction m with
  | zero =>
    intro i x hm hx
    cases hd : dropTo ws i x ws.length with
    | false => exact ⟨x, mem_redTo.2 ⟨i, (List.getElem?_eq_some_iff.1 hx).1, hx, hd⟩, List.infix_refl _⟩
    | true =>
      obtain ⟨k, v, hk, hv, hh⟩ := dropTo_iff.1 hd
      rw [hit_iff] at hh
      have hvl := hL v (List.mem_of_getElem? hv)
      have hxl := hL x (List.mem_of_getElem? hx)
      have hle := hh.2.1.length_le
      have h0 : (L - x.length) * (ws.length + 1) = 0 := by omega
      rcases Nat.mul_eq_zero.1 h0 with h1 | h1
      · have : v = x := (hh.2.1.eq_of_length (by omega)).symm
        rcases hh.2.2 with h2 | h2
        · exact absurd this h2
        · omega
      · omega
  | succ m ih =>
    intro i x hm hx
    cases hd : dropTo ws i x ws.length with
    | false => exact ⟨x, mem_redTo.2 ⟨i, (List.getElem?_eq_some_iff.1 hx).1, hx, hd⟩, List.infix_refl _⟩
    | true =>
      obtain ⟨k, v, hk, hv, hh⟩ := dropTo_iff.1 hd
      rw [hit_iff] at hh
      have hvl := hL v (List.mem_of_getElem? hv)
      have hxl := hL x (List.mem_of_getElem? hx)
      have hle := hh.2.1.length_le
      have hil := (List.getElem?_eq_some_iff.1 hx).1
      have hrec : (L - v.length) * (ws.length + 1) + k ≤ m := by
        by_cases hlen : v.length = x.length
        · have : v = x := (hh.2.1.eq_of_length (by omega)).symm
          rcases hh.2.2 with h2 | h2
          · exact absurd this h2
          · rw [hlen]; omega
        · have h3 : (L - v.length) + 1 ≤ L - x.length := by omega
          have h4 := Nat.mul_le_mul_right (ws.length + 1) h3
          rw [Nat.add_mul, Nat.one_mul] at h4
          omega
      obtain ⟨r, hr, hvr⟩ := ih k v hrec hv
      exact ⟨r, hr, hh.2.1.trans hvr⟩
theorem red_met' {ws : List (List UInt8)} {x : List UInt8} (hx : x ∈ ws) : ∃ r ∈ red ws, x <:+: r := by
  obtain ⟨i, hi, he⟩ := List.getElem_of_mem hx
  refine red_met ws (ws.map List.length).sum (fun y hy => ?_) _ i x (Nat.le_refl _) (by rw [List.getElem?_eq_getElem hi, he])
  clear hx hi he i
  induction ws with
  | nil => cases hy
  | cons a l ih =>
    rw [List.map_cons, List.sum_cons]
    rcases List.mem_cons.1 hy with rfl | hy
    · omega
    · have := ih hy; omega
theorem red_sub {ws : List (List UInt8)} {x : List UInt8} (h : x ∈ red ws) : x ∈ ws := by
  obtain ⟨i, _, hx, _⟩ := mem_redTo.1 h
  exact List.mem_of_getElem? hx
theorem red_le (ws : List (List UInt8)) : (red ws).length ≤ ws.length := redTo_le ws _
/-- What is left of words of which none is in another one is they. -/
theorem redTo_of_apart {ws : List (List UInt8)} (h : ws.Pairwise Apart) (n : Nat) (hn : n ≤ ws.length) : redTo ws n = ws.take n := by
  induction n with
  | zero => simp [redTo]
  | succ n ih =>
    have hlt : n < ws.length := by omega
    have hx : ws[n]? = some ws[n] := List.getElem?_eq_getElem hlt
    have hk : dropTo ws n ws[n] ws.length = false := by
      rw [keep_iff]
      intro k v hv hkn hxv
      exfalso
      obtain ⟨hk, rfl⟩ := List.getElem?_eq_some_iff.1 hv
      rw [List.pairwise_iff_getElem] at h
      rcases Nat.lt_or_gt_of_ne hkn with h1 | h1
      · exact (h k n hk hlt h1).2 hxv
      · exact (h n k hlt hk h1).1 hxv
    rw [redTo_succ hx, hk, ih (by omega), List.take_succ_eq_append_getElem hlt]
    rfl
theorem red_red (ws : List (List UInt8)) : red (red ws) = red ws := by
  have := redTo_of_apart (red_apart ws) (red ws).length (Nat.le_refl _)
  unfold red at this ⊢
  rw [this, List.take_length]
theorem vw_red {ws : List (List UInt8)} (h : vw ws = true) : vw (red ws) = true := by
  have h1 := vw_len h
  have h2 := vw_all' h
  unfold vw
  rw [Bool.and_eq_true]
  exact ⟨List.all_eq_true.2 fun x hx => h2 x (red_sub hx), by have := red_le ws; simpa using by omega⟩
theorem red_ne_nil {ws : List (List UInt8)} (h : ws ≠ []) : red ws ≠ [] := by
  obtain ⟨x, hx⟩ := List.exists_mem_of_ne_nil ws h
  obtain ⟨r, hr, _⟩ := red_met' hx
  exact List.ne_nil_of_mem hr
end Go.Proofs.Ytfppbfhlmbakoaa
