/-
  Plain laws of overlaps: the longest one, two texts put together, the sum of the overlaps of a row of texts; the greedy way saves at least half.
-/
import Derived.Test.YtfppbfhlmbakoaaText
namespace Go.Proofs.Ytfppbfhlmbakoaa
set_option linter.unusedVariables false
set_option linter.unusedSimpArgs false

/-! ### the longest overlap -/
def ovF (a b : List UInt8) : Nat → Nat
  | 0 => 0
  | k + 1 => if a.drop (a.length - (k + 1)) = b.take (k + 1) then k + 1 else ovF a b k
/-- How many letters two texts overlap by. -/
def ovl (a b : List UInt8) : Nat := ovF a b (min a.length b.length - 1)
/-- k letters overlap, fewer than both texts have. -/
def Lap (a b : List UInt8) (k : Nat) : Prop := k < a.length ∧ k < b.length ∧ a.drop (a.length - k) = b.take k
theorem ovF_le (a b : List UInt8) (n : Nat) : ovF a b n ≤ n := by
  induction n with
  | zero => exact Nat.le_refl _
  | succ n ih => rw [ovF]; split <;> omega
theorem ovF_eq (a b : List UInt8) (n : Nat) : a.drop (a.length - ovF a b n) = b.take (ovF a b n) := by
  induction n with
  | zero => simp [ovF]
  | succ n ih =>
    rw [ovF]
    split
    · assumption
    · exact ih
theorem ovF_max (a b : List UInt8) (n k : Nat) (hk : k ≤ n) (h : a.drop (a.length - k) = b.take k) : k ≤ ovF a b n := by
  induction n with
  | zero => omega
  | succ n ih =>
    rw [ovF]
    split
    · exact hk
    · next hn =>
      rcases Nat.lt_or_ge k (n + 1) with h1 | h1
      · exact ih (by omega)
      · obtain rfl : k = n + 1 := by omega
        exact absurd h hn
theorem ovl_lap {a b : List UInt8} (ha : a ≠ []) (hb : b ≠ []) : Lap a b (ovl a b) := by
  have h1 := List.length_pos_iff.2 ha
  have h2 := List.length_pos_iff.2 hb
  have h3 := ovF_le a b (min a.length b.length - 1)
  exact ⟨by unfold ovl; omega, by unfold ovl; omega, ovF_eq a b _⟩
theorem ovl_max {a b : List UInt8} {k : Nat} (h : Lap a b k) : k ≤ ovl a b := ovF_max a b _ k (by have := h.1; have := h.2.1; omega) h.2.2
theorem ovl_lt_left {a b : List UInt8} (ha : a ≠ []) : ovl a b < a.length := by
  have h1 := List.length_pos_iff.2 ha
  have := ovF_le a b (min a.length b.length - 1)
  unfold ovl
  omega
theorem ovl_le_left (a b : List UInt8) : ovl a b ≤ a.length := by
  have := ovF_le a b (min a.length b.length - 1)
  unfold ovl
  omega
theorem ovl_le_right (a b : List UInt8) : ovl a b ≤ b.length := by
  have := ovF_le a b (min a.length b.length - 1)
  unfold ovl
  omega
theorem ovl_nil (b : List UInt8) : ovl [] b = 0 := by simp [ovl, ovF]
theorem Lap.prefix {p a c : List UInt8} {k : Nat} (h : Lap p a k) (hc : a <+: c) : Lap p c k := by
  obtain ⟨h1, h2, h3⟩ := h
  obtain ⟨t, rfl⟩ := hc
  refine ⟨h1, by simp; omega, ?_⟩
  rw [List.take_append_of_le_length (by omega)]
  exact h3
theorem Lap.suffix {b s c : List UInt8} {k : Nat} (h : Lap b s k) (hc : b <:+ c) : Lap c s k := by
  obtain ⟨h1, h2, h3⟩ := h
  obtain ⟨t, rfl⟩ := hc
  refine ⟨by simp; omega, h2, ?_⟩
  rw [← h3, List.length_append, show t.length + b.length - k = t.length + (b.length - k) by omega, ← List.drop_drop, List.drop_left]
theorem ovl_prefix {p a c : List UInt8} (hp : p ≠ []) (ha : a ≠ []) (h : a <+: c) : ovl p a ≤ ovl p c := ovl_max ((ovl_lap hp ha).prefix h)
theorem ovl_suffix {b s c : List UInt8} (hb : b ≠ []) (hs : s ≠ []) (h : b <:+ c) : ovl b s ≤ ovl c s := ovl_max ((ovl_lap hb hs).suffix h)
/-- Three overlaps give a fourth one. -/
theorem lap_four {p b a s : List UInt8} {x y m : Nat} (h1 : Lap p b x) (h2 : Lap a s y) (h3 : Lap a b m) (hx : x ≤ m) (hy : y ≤ m) (hz : m < x + y) : Lap p s (x + y - m) := by
  obtain ⟨a1, a2, a3⟩ := h1
  obtain ⟨b1, b2, b3⟩ := h2
  obtain ⟨c1, c2, c3⟩ := h3
  refine ⟨by omega, by omega, ?_⟩
  calc p.drop (p.length - (x + y - m)) = (p.drop (p.length - x)).drop (m - y) := by rw [List.drop_drop]; congr 1; omega
    _ = (b.take x).drop (m - y) := by rw [a3]
    _ = ((b.take m).take x).drop (m - y) := by rw [List.take_take, Nat.min_eq_left hx]
    _ = ((a.drop (a.length - m)).take x).drop (m - y) := by rw [c3]
    _ = ((a.drop (a.length - m)).drop (m - y)).take (x - (m - y)) := by rw [List.drop_take]
    _ = (a.drop (a.length - y)).take (x + y - m) := by rw [List.drop_drop]; congr 1; omega; congr 1; omega
    _ = (s.take y).take (x + y - m) := by rw [b3]
    _ = s.take (x + y - m) := by rw [List.take_take]; congr 1; omega
theorem ovl_four {p b a s : List UInt8} (hp : p ≠ []) (hb : b ≠ []) (ha : a ≠ []) (hs : s ≠ []) (hx : ovl p b ≤ ovl a b) (hy : ovl a s ≤ ovl a b) : ovl p b + ovl a s ≤ ovl p s + ovl a b := by
  rcases Nat.lt_or_ge (ovl a b) (ovl p b + ovl a s) with h | h
  · have := ovl_max (lap_four (ovl_lap hp hb) (ovl_lap ha hs) (ovl_lap ha hb) hx hy h)
    omega
  · omega

/-! ### two texts put together -/
def mrg (a b : List UInt8) : List UInt8 := a ++ b.drop (ovl a b)
theorem mrg_prefix (a b : List UInt8) : a <+: mrg a b := List.prefix_append _ _
theorem mrg_suffix {a b : List UInt8} (ha : a ≠ []) (hb : b ≠ []) : b <:+ mrg a b := by
  obtain ⟨h1, h2, h3⟩ := ovl_lap ha hb
  refine ⟨a.take (a.length - ovl a b), ?_⟩
  calc a.take (a.length - ovl a b) ++ b = a.take (a.length - ovl a b) ++ (b.take (ovl a b) ++ b.drop (ovl a b)) := by rw [List.take_append_drop]
    _ = (a.take (a.length - ovl a b) ++ a.drop (a.length - ovl a b)) ++ b.drop (ovl a b) := by rw [h3, List.append_assoc]
    _ = a ++ b.drop (ovl a b) := by rw [List.take_append_drop]
theorem mrg_length (a b : List UInt8) : (mrg a b).length + ovl a b = a.length + b.length := by
  have := ovl_le_right a b
  unfold mrg
  rw [List.length_append, List.length_drop]
  omega
theorem mrg_ne {a b : List UInt8} (ha : a ≠ []) : mrg a b ≠ [] := by
  unfold mrg
  simp [ha]

/-! ### the sum of the overlaps of a row -/
def pth : List (List UInt8) → Nat
  | [] => 0
  | [_] => 0
  | a :: b :: r => ovl a b + pth (b :: r)
def ltr (S : List (List UInt8)) : Nat := (S.map List.length).sum
theorem ltr_perm {S T : List (List UInt8)} (h : S.Perm T) : ltr S = ltr T := (h.map _).sum_nat
theorem ltr_cons (a : List UInt8) (S : List (List UInt8)) : ltr (a :: S) = a.length + ltr S := by simp [ltr]
theorem pth_split (X Y : List (List UInt8)) (u : List UInt8) : pth (X ++ u :: Y) = pth (X ++ [u]) + pth (u :: Y) := by
  induction X with
  | nil => simp [pth]
  | cons a X ih =>
    cases X with
    | nil => simp [pth]
    | cons b X =>
      simp only [List.cons_append, pth] at ih ⊢
      omega
theorem pth_snoc (X : List (List UInt8)) (u v : List UInt8) : pth (X ++ [u, v]) = pth (X ++ [u]) + ovl u v := by
  rw [pth_split X [v] u]
  simp [pth]
theorem pth_append_ge (X Y : List (List UInt8)) : pth X + pth Y ≤ pth (X ++ Y) := by
  rcases List.eq_nil_or_concat X with rfl | ⟨X', u, rfl⟩
  · simp [pth]
  · rw [List.concat_eq_append, List.append_assoc, List.singleton_append, pth_split X' Y u]
    cases Y with
    | nil => simp [pth]
    | cons v Y => simp only [pth]; omega
theorem pth_last_mono {X : List (List UInt8)} {u v : List UInt8} (hX : ∀ x ∈ X, x ≠ []) (hu : u ≠ []) (h : u <+: v) : pth (X ++ [u]) ≤ pth (X ++ [v]) := by
  rcases List.eq_nil_or_concat X with rfl | ⟨X', t, rfl⟩
  · simp [pth]
  · rw [List.concat_eq_append] at hX ⊢
    simp only [List.append_assoc, List.singleton_append]
    rw [pth_snoc, pth_snoc]
    have := ovl_prefix (hX t (by simp)) hu h
    omega
theorem pth_head_mono {Y : List (List UInt8)} {u v : List UInt8} (hY : ∀ x ∈ Y, x ≠ []) (hu : u ≠ []) (h : u <:+ v) : pth (u :: Y) ≤ pth (v :: Y) := by
  cases Y with
  | nil => simp [pth]
  | cons t Y =>
    simp only [pth]
    have := ovl_suffix hu (hY t (by simp)) h
    omega
/-- Two texts at two places of a row overlap by m letters at most. -/
def Most (S : List (List UInt8)) (m : Nat) : Prop := ∀ u v T, S.Perm (u :: v :: T) → ovl u v ≤ m
theorem Most.perm {S T : List (List UInt8)} {m : Nat} (h : Most S m) (p : S.Perm T) : Most T m := fun u v R q => h u v R (p.trans q)
theorem Most.at_ {X Y : List (List UInt8)} {u v : List UInt8} {m : Nat} (h : Most (X ++ u :: v :: Y) m) : ovl u v ≤ m := by
  refine h u v (X ++ Y) ?_
  have h1 : (X ++ u :: v :: Y).Perm (u :: (X ++ v :: Y)) := List.perm_middle
  exact h1.trans (List.Perm.cons u List.perm_middle)
/-- One step: the two texts with the greatest overlap are put together. -/
theorem greedy_step {a b : List UInt8} {R L : List (List UInt8)} (hne : ∀ x ∈ a :: b :: R, x ≠ []) (hm : Most (a :: b :: R) (ovl a b)) (hL : L.Perm (a :: b :: R)) :
    ∃ L', L'.Perm (mrg a b :: R) ∧ pth L ≤ pth L' + 2 * ovl a b := by
  have hMa : Most L (ovl a b) := hm.perm hL.symm
  have hnL : ∀ x ∈ L, x ≠ [] := fun x hx => hne x (hL.mem_iff.1 hx)
  have ha : a ≠ [] := hne a (by simp)
  have hb : b ≠ [] := hne b (by simp)
  obtain ⟨X, Y, hXY⟩ := List.append_of_mem (hL.symm.mem_iff.1 (List.mem_cons_self : a ∈ a :: b :: R))
  have hp : (X ++ Y).Perm (b :: R) := by
    have h1 : (a :: (X ++ Y)).Perm (a :: b :: R) := (List.perm_middle.symm.trans (by rw [← hXY])).trans hL
    exact h1.cons_inv
  have hbm : b ∈ X ++ Y := hp.symm.mem_iff.1 (by simp)
  rw [List.mem_append] at hbm
  rcases hbm with hb1 | hb1
  · -- b stands ahead of a
    obtain ⟨P, Q, rfl⟩ := List.append_of_mem hb1
    have hpR : (P ++ Q ++ Y).Perm R := by
      have h1 : (b :: (P ++ Q ++ Y)).Perm (b :: R) := by
        refine List.Perm.trans ?_ hp
        simp only [List.append_assoc, List.cons_append]
        exact List.perm_middle.symm
      exact h1.cons_inv
    refine ⟨(mrg a b :: Q) ++ (P ++ Y), ?_, ?_⟩
    · show (mrg a b :: (Q ++ (P ++ Y))).Perm (mrg a b :: R)
      refine List.Perm.cons _ (List.Perm.trans ?_ hpR)
      rw [← List.append_assoc]
      exact List.perm_append_comm.append_right Y
    · subst hXY
      simp only [List.append_assoc, List.cons_append] at hMa hnL ⊢
      have hP : ∀ x ∈ P, x ≠ [] := fun x hx => hnL x (by simp [hx])
      have hQ : ∀ x ∈ Q, x ≠ [] := fun x hx => hnL x (by simp [hx])
      have hY : ∀ x ∈ Y, x ≠ [] := fun x hx => hnL x (by simp [hx])
      rw [pth_split P _ b]
      have e1 : pth (b :: (Q ++ a :: Y)) = pth (b :: Q ++ [a]) + pth (a :: Y) := pth_split (b :: Q) Y a
      rw [e1]
      -- the last step into a
      have e2 : pth (b :: Q ++ [a]) ≤ pth (b :: Q) + ovl a b := by
        rcases List.eq_nil_or_concat (b :: Q) with h | ⟨Z, z, h⟩
        · cases h
        · rw [List.concat_eq_append] at h
          rw [h]
          simp only [List.append_assoc, List.singleton_append]
          rw [pth_snoc]
          have h2 : P ++ b :: (Q ++ a :: Y) = (P ++ Z) ++ z :: a :: Y := by
            have : b :: (Q ++ a :: Y) = (b :: Q) ++ a :: Y := rfl
            rw [this, h]
            simp
          rw [h2] at hMa
          have := hMa.at_
          omega
      have e3 : pth (mrg a b :: Q) + pth (P ++ Y) ≤ pth (mrg a b :: (Q ++ (P ++ Y))) := pth_append_ge (mrg a b :: Q) (P ++ Y)
      have e4 := pth_head_mono hQ hb (mrg_suffix ha hb)
      -- around the gap
      have e5 : pth (P ++ [b]) + pth (a :: Y) ≤ pth (P ++ Y) + ovl a b := by
        rcases List.eq_nil_or_concat P with rfl | ⟨P', p, rfl⟩
        · cases Y with
          | nil => simp [pth]
          | cons s Y =>
            have h2 : [] ++ b :: (Q ++ a :: s :: Y) = (b :: Q) ++ a :: s :: Y := by simp
            rw [h2] at hMa
            have := hMa.at_
            simp only [pth, List.nil_append]
            omega
        · rw [List.concat_eq_append] at *
          have h2 : P' ++ [p] ++ b :: (Q ++ a :: Y) = P' ++ p :: b :: (Q ++ a :: Y) := by simp
          rw [h2] at hMa
          have hx := hMa.at_
          simp only [List.append_assoc, List.singleton_append]
          rw [pth_snoc]
          cases Y with
          | nil => simp [pth]; omega
          | cons s Y =>
            have h3 : P' ++ p :: b :: (Q ++ a :: s :: Y) = (P' ++ p :: b :: Q) ++ a :: s :: Y := by simp
            rw [h3] at hMa
            have hy := hMa.at_
            rw [pth_split P' (s :: Y) p]
            simp only [pth]
            have := ovl_four (hP p (by simp)) hb ha (hY s (by simp)) hx hy
            omega
      have e6 : pth (P ++ [b]) + (pth (b :: Q ++ [a]) + pth (a :: Y)) ≤ pth (mrg a b :: (Q ++ (P ++ Y))) + 2 * ovl a b := by omega
      exact e6
  · -- b stands behind a
    obtain ⟨Q, P, rfl⟩ := List.append_of_mem hb1
    have hpR : (X ++ Q ++ P).Perm R := by
      have h1 : (b :: (X ++ Q ++ P)).Perm (b :: R) := by
        refine List.Perm.trans ?_ hp
        rw [← List.append_assoc]
        exact List.perm_middle.symm
      exact h1.cons_inv
    refine ⟨Q ++ (X ++ mrg a b :: P), ?_, ?_⟩
    · have h1 : (Q ++ (X ++ mrg a b :: P)).Perm (mrg a b :: (Q ++ X ++ P)) := by
        rw [← List.append_assoc]
        exact List.perm_middle
      refine h1.trans (List.Perm.cons _ (List.Perm.trans ?_ hpR))
      exact List.perm_append_comm.append_right P
    · subst hXY
      have hX : ∀ x ∈ X, x ≠ [] := fun x hx => hnL x (by simp [hx])
      have hP : ∀ x ∈ P, x ≠ [] := fun x hx => hnL x (by simp [hx])
      rw [pth_split X _ a]
      have e1 : pth (a :: (Q ++ b :: P)) = pth (a :: Q ++ [b]) + pth (b :: P) := pth_split (a :: Q) P b
      rw [e1]
      have e2 : pth (a :: Q ++ [b]) ≤ pth Q + 2 * ovl a b := by
        cases Q with
        | nil => simp [pth]; omega
        | cons q Q =>
          have h2 : X ++ a :: (q :: Q ++ b :: P) = X ++ a :: q :: (Q ++ b :: P) := rfl
          have hx : ovl a q ≤ ovl a b := by rw [h2] at hMa; exact hMa.at_
          rcases List.eq_nil_or_concat (q :: Q) with h | ⟨Z, z, h⟩
          · cases h
          · rw [List.concat_eq_append] at h
            have hy : ovl z b ≤ ovl a b := by
              have h3 : X ++ a :: (q :: Q ++ b :: P) = (X ++ a :: Z) ++ z :: b :: P := by rw [h]; simp
              rw [h3] at hMa
              exact hMa.at_
            have e3 : pth (a :: q :: Q ++ [b]) = ovl a q + pth (q :: Q ++ [b]) := by simp only [List.cons_append, pth]
            rw [e3, h]
            simp only [List.append_assoc, List.singleton_append]
            rw [pth_snoc]
            omega
      have e3 : pth Q + pth (X ++ mrg a b :: P) ≤ pth (Q ++ (X ++ mrg a b :: P)) := pth_append_ge _ _
      have e4 := pth_split X P (mrg a b)
      have e5 := pth_last_mono hX ha (mrg_prefix a b)
      have e6 := pth_head_mono hP hb (mrg_suffix ha hb)
      omega
/-- The greedy way: as long as there are two texts, two with the greatest overlap are put together. -/
inductive Gr : List (List UInt8) → List UInt8 → Prop
  | one (t : List UInt8) : Gr [t] t
  | step {S S' R : List (List UInt8)} {a b t : List UInt8} : S.Perm (a :: b :: R) → Most S (ovl a b) → S'.Perm (mrg a b :: R) → Gr S' t → Gr S t
theorem Gr.half {S : List (List UInt8)} {t : List UInt8} (h : Gr S t) : (∀ x ∈ S, x ≠ []) → t.length ≤ ltr S ∧ ∀ L : List (List UInt8), L.Perm S → pth L + 2 * t.length ≤ 2 * ltr S := by
  induction h with
  | one t =>
    intro _
    refine ⟨by simp [ltr], fun L hL => ?_⟩
    rw [List.perm_singleton.1 hL]
    simp [pth, ltr]
  | @step S S' R a b t hp hm hs _ ih =>
    intro hne
    have hne1 : ∀ x ∈ a :: b :: R, x ≠ [] := fun x hx => hne x (hp.mem_iff.2 hx)
    have hne2 : ∀ x ∈ S', x ≠ [] := by
      intro x hx
      have hx := hs.mem_iff.1 hx
      rw [List.mem_cons] at hx
      rcases hx with rfl | hx
      · exact mrg_ne (hne1 a (by simp))
      · exact hne1 x (by simp [hx])
    obtain ⟨i1, i2⟩ := ih hne2
    have l1 : ltr S' + ovl a b = ltr S := by
      rw [ltr_perm hs, ltr_perm hp, ltr_cons, ltr_cons, ltr_cons]
      have := mrg_length a b
      omega
    refine ⟨by omega, fun L hL => ?_⟩
    obtain ⟨L', hL', hle⟩ := greedy_step hne1 (hm.perm hp) (hL.trans hp)
    have := i2 L' (hL'.trans hs.symm)
    omega
/-- All texts are in what is left. -/
theorem Gr.all {S : List (List UInt8)} {t : List UInt8} (h : Gr S t) : (∀ x ∈ S, x ≠ []) → ∀ x ∈ S, x <:+: t := by
  induction h with
  | one t =>
    intro _ x hx
    rw [List.mem_singleton] at hx
    subst hx
    exact List.infix_refl _
  | @step S S' R a b t hp hm hs _ ih =>
    intro hne x hx
    have hne1 : ∀ x ∈ a :: b :: R, x ≠ [] := fun x hx => hne x (hp.mem_iff.2 hx)
    have hne2 : ∀ x ∈ S', x ≠ [] := by
      intro x hx
      have hx := hs.mem_iff.1 hx
      rw [List.mem_cons] at hx
      rcases hx with rfl | hx
      · exact mrg_ne (hne1 a (by simp))
      · exact hne1 x (by simp [hx])
    have hc : mrg a b <:+: t := ih hne2 _ (hs.mem_iff.2 (by simp))
    have hx := hp.mem_iff.1 hx
    rw [List.mem_cons, List.mem_cons] at hx
    rcases hx with rfl | rfl | hx
    · exact (mrg_prefix _ _).isInfix.trans hc
    · exact (mrg_suffix (hne1 _ (by simp)) (hne1 _ (by simp))).isInfix.trans hc
    · exact ih hne2 x (hs.mem_iff.2 (by simp [hx]))
/-- The letters of what is left are letters of the texts. -/
theorem Gr.letters {S : List (List UInt8)} {t : List UInt8} (h : Gr S t) (p : UInt8 → Bool) : (∀ x ∈ S, x.all p = true) → t.all p = true := by
  induction h with
  | one t => intro h; exact h t (by simp)
  | @step S S' R a b t hp hm hs _ ih =>
    intro h
    refine ih fun x hx => ?_
    have hx := hs.mem_iff.1 hx
    rw [List.mem_cons] at hx
    rcases hx with rfl | hx
    · unfold mrg
      rw [List.all_append, h a (hp.mem_iff.2 (by simp)), Bool.true_and]
      have hb := h b (hp.mem_iff.2 (by simp))
      rw [List.all_eq_true] at hb ⊢
      exact fun c hc => hb c (List.mem_of_mem_drop hc)
    · exact h x (hp.mem_iff.2 (by simp [hx]))

/-! ### texts of rows -/
/-- The text of a row of words, each as near to the one ahead as may be, and the last word. -/
def tx (tl : List UInt8 × List UInt8) (L : List (List UInt8)) : List UInt8 × List UInt8 := L.foldl (fun tl w => (tl.1 ++ w.drop (ovl tl.2 w), w)) tl
def txt (L : List (List UInt8)) : List UInt8 := (tx ([], []) L).1
theorem tx_cons (tl : List UInt8 × List UInt8) (w : List UInt8) (L : List (List UInt8)) : tx tl (w :: L) = tx (tl.1 ++ w.drop (ovl tl.2 w), w) L := rfl
theorem tx_snoc (tl : List UInt8 × List UInt8) (w : List UInt8) (L : List (List UInt8)) : tx tl (L ++ [w]) = ((tx tl L).1 ++ w.drop (ovl (tx tl L).2 w), w) := by
  unfold tx
  rw [List.foldl_append]
  rfl
theorem tx_from (L : List (List UInt8)) (hL : ∀ x ∈ L, x ≠ []) : ∀ (t l : List UInt8), l ≠ [] → l <:+ t →
    t <+: (tx (t, l) L).1 ∧ (∀ x ∈ L, x <:+: (tx (t, l) L).1) ∧ (tx (t, l) L).1.length + pth (l :: L) = t.length + ltr L := by
  induction L with
  | nil => intro t l _ _; exact ⟨List.prefix_refl _, fun x hx => (by cases hx), by simp [tx, pth, ltr]⟩
  | cons w L ih =>
    intro t l hl hs
    have hw : w ≠ [] := hL w (by simp)
    have hsuf : w <:+ t ++ w.drop (ovl l w) := by
      obtain ⟨u, rfl⟩ := hs
      have := mrg_suffix hl hw
      unfold mrg at this
      rw [List.append_assoc]
      exact this.trans (List.suffix_append _ _)
    obtain ⟨h1, h2, h3⟩ := ih (fun x hx => hL x (by simp [hx])) (t ++ w.drop (ovl l w)) w hw hsuf
    rw [tx_cons]
    refine ⟨(List.prefix_append _ _).trans h1, ?_, ?_⟩
    · intro x hx
      rw [List.mem_cons] at hx
      rcases hx with rfl | hx
      · exact hsuf.isInfix.trans h1.isInfix
      · exact h2 x hx
    · have h4 := ovl_le_right l w
      rw [List.length_append, List.length_drop] at h3
      simp only [pth, ltr_cons]
      omega
theorem txt_all (L : List (List UInt8)) (hL : ∀ x ∈ L, x ≠ []) : (∀ x ∈ L, x <:+: txt L) ∧ (txt L).length + pth L = ltr L := by
  cases L with
  | nil => exact ⟨fun x hx => (by cases hx), by simp [txt, tx, pth, ltr]⟩
  | cons w L =>
    have e : txt (w :: L) = (tx (w, w) L).1 := by
      unfold txt
      rw [tx_cons, ovl_nil]
      simp
    obtain ⟨h1, h2, h3⟩ := tx_from L (fun x hx => hL x (by simp [hx])) w w (hL w (by simp)) (List.suffix_refl _)
    rw [e]
    refine ⟨fun x hx => ?_, by rw [h3, ltr_cons]⟩
    rw [List.mem_cons] at hx
    rcases hx with rfl | hx
    · exact h1.isInfix
    · exact h2 x hx
theorem tx_letters (p : UInt8 → Bool) (L : List (List UInt8)) (hL : ∀ x ∈ L, x.all p = true) : ∀ tl : List UInt8 × List UInt8, tl.1.all p = true → (tx tl L).1.all p = true := by
  induction L with
  | nil => intro tl h; exact h
  | cons w L ih =>
    intro tl h
    rw [tx_cons]
    refine ih (fun x hx => hL x (by simp [hx])) _ ?_
    rw [List.all_append, h, Bool.true_and]
    have hb := hL w (by simp)
    rw [List.all_eq_true] at hb ⊢
    exact fun c hc => hb c (List.mem_of_mem_drop hc)
theorem txt_letters (p : UInt8 → Bool) (L : List (List UInt8)) (hL : ∀ x ∈ L, x.all p = true) : (txt L).all p = true := tx_letters p L hL _ rfl

/-! ### no text with all words is shorter than the shortest row -/
/-- w stands in t at place p. -/
def At (t : List UInt8) (p : Nat) (w : List UInt8) : Prop := p + w.length ≤ t.length ∧ (t.drop p).take w.length = w
theorem at_of_infix {t w : List UInt8} (h : w <:+: t) : ∃ p, At t p w := by
  obtain ⟨p, h1, h2⟩ := infix_iff.1 h
  exact ⟨p, h1, h2⟩
/-- One that ends no later and begins no earlier stands in the other one. -/
theorem At.inside {t u v : List UInt8} {p q : Nat} (hu : At t p u) (hv : At t q v) (h1 : p ≤ q) (h2 : q + v.length ≤ p + u.length) : v <:+: u := by
  obtain ⟨a1, a2⟩ := hu
  obtain ⟨b1, b2⟩ := hv
  rw [infix_iff]
  refine ⟨q - p, by omega, ?_⟩
  have e : (u.drop (q - p)).take v.length = v := by
    calc (u.drop (q - p)).take v.length = (((t.drop p).take u.length).drop (q - p)).take v.length := by rw [a2]
      _ = (((t.drop p).drop (q - p)).take (u.length - (q - p))).take v.length := by rw [List.drop_take]
      _ = ((t.drop q).take (u.length - (q - p))).take v.length := by rw [List.drop_drop]; congr 3; omega
      _ = (t.drop q).take v.length := by rw [List.take_take]; congr 1; omega
      _ = v := b2
  exact e
theorem At.lap {t u v : List UInt8} {p q : Nat} (hu : At t p u) (hv : At t q v) (h1 : p < q) (h2 : p + u.length < q + v.length) (h3 : q < p + u.length) : Lap u v (p + u.length - q) := by
  obtain ⟨a1, a2⟩ := hu
  obtain ⟨b1, b2⟩ := hv
  refine ⟨by omega, by omega, ?_⟩
  calc u.drop (u.length - (p + u.length - q)) = ((t.drop p).take u.length).drop (q - p) := by rw [a2]; congr 1; omega
    _ = ((t.drop p).drop (q - p)).take (u.length - (q - p)) := by rw [List.drop_take]
    _ = (t.drop q).take (p + u.length - q) := by rw [List.drop_drop]; congr 1; omega; congr 1; omega
    _ = ((t.drop q).take v.length).take (p + u.length - q) := by rw [List.take_take]; congr 1; omega
    _ = v.take (p + u.length - q) := by rw [b2]
/-- Words at rising places: the sum of their lengths less their overlaps is at most the room. -/
theorem row_room (t : List UInt8) (L : List (Nat × List UInt8)) : ∀ (x : Nat × List UInt8), (∀ y ∈ x :: L, At t y.1 y.2) → (x :: L).Pairwise (fun y z => y.1 < z.1 ∧ y.1 + y.2.length < z.1 + z.2.length) →
    ltr ((x :: L).map Prod.snd) + x.1 ≤ pth ((x :: L).map Prod.snd) + t.length := by
  induction L with
  | nil =>
    intro x hx _
    have := (hx x (by simp)).1
    simp [ltr, pth]
    omega
  | cons y L ih =>
    intro x hx hp
    have h1 := ih y (fun z hz => hx z (by simp at hz ⊢; exact .inr hz)) (List.pairwise_cons.1 hp).2
    obtain ⟨h2, h3⟩ := (List.pairwise_cons.1 hp).1 y (by simp)
    have h4 : x.1 + x.2.length ≤ ovl x.2 y.2 + y.1 := by
      rcases Nat.lt_or_ge y.1 (x.1 + x.2.length) with h | h
      · have := ovl_max ((hx x (by simp)).lap (hx y (by simp)) h2 h3 h)
        omega
      · omega
    simp only [List.map_cons, ltr_cons, pth] at h1 ⊢
    omega
/-- No word is in another one. -/
def ApartL (S : List (List UInt8)) : Prop := S.Pairwise (fun u v => ¬ u <:+: v ∧ ¬ v <:+: u)
theorem shortest_row {S : List (List UInt8)} {t : List UInt8} (hS : ApartL S) (ht : ∀ x ∈ S, x <:+: t) : ∃ L, L.Perm S ∧ ltr S ≤ pth L + t.length := by
  -- each word with a place
  have h1 : ∀ T : List (List UInt8), (∀ x ∈ T, x <:+: t) → ∃ Z : List (Nat × List UInt8), Z.map Prod.snd = T ∧ ∀ z ∈ Z, At t z.1 z.2 := by
    intro T
    induction T with
    | nil => intro _; exact ⟨[], rfl, fun z hz => by cases hz⟩
    | cons a T ih =>
      intro h
      obtain ⟨Z, e, hZ⟩ := ih fun x hx => h x (by simp [hx])
      obtain ⟨p, hp⟩ := at_of_infix (h a (by simp))
      refine ⟨(p, a) :: Z, by simp [e], fun z hz => ?_⟩
      rw [List.mem_cons] at hz
      rcases hz with rfl | hz
      · exact hp
      · exact hZ z hz
  obtain ⟨Z, e, hZ⟩ := h1 S ht
  obtain ⟨W, hW⟩ : ∃ W, W = Z.mergeSort (fun a b => decide (a.1 ≤ b.1)) := ⟨_, rfl⟩
  have hWp : W.Perm Z := by rw [hW]; exact List.mergeSort_perm _ _
  have hWs : W.Pairwise (fun a b => a.1 ≤ b.1) := by
    rw [hW]
    have := List.pairwise_mergeSort (le := fun a b : Nat × List UInt8 => decide (a.1 ≤ b.1)) (fun a b c h1 h2 => by simp at h1 h2 ⊢; omega) (fun a b => by simp; omega) Z
    exact this.imp fun h => by simpa using h
  have hWa : W.Pairwise (fun a b => ¬ a.2 <:+: b.2 ∧ ¬ b.2 <:+: a.2) := by
    have h2 : Z.Pairwise (fun a b => ¬ a.2 <:+: b.2 ∧ ¬ b.2 <:+: a.2) := by
      have : (Z.map Prod.snd).Pairwise (fun u v => ¬ u <:+: v ∧ ¬ v <:+: u) := by rw [e]; exact hS
      exact List.pairwise_map.1 this
    exact hWp.symm.pairwise h2 fun h => ⟨h.2, h.1⟩
  have hWat : ∀ z ∈ W, At t z.1 z.2 := fun z hz => hZ z (hWp.mem_iff.1 hz)
  have hWr : W.Pairwise (fun y z => y.1 < z.1 ∧ y.1 + y.2.length < z.1 + z.2.length) := by
    refine (hWs.and hWa).imp_of_mem ?_
    rintro y z hy hz ⟨h2, h3, h4⟩
    have a1 := hWat y hy
    have a2 := hWat z hz
    refine ⟨?_, ?_⟩
    · rcases Nat.lt_or_ge y.1 z.1 with h | h
      · exact h
      · exfalso
        have hq : y.1 = z.1 := by omega
        rcases Nat.le_total y.2.length z.2.length with h5 | h5
        · exact h3 (a2.inside a1 (by omega) (by omega))
        · exact h4 (a1.inside a2 (by omega) (by omega))
    · rcases Nat.lt_or_ge (y.1 + y.2.length) (z.1 + z.2.length) with h | h
      · exact h
      · exact absurd (a1.inside a2 h2 h) h4
  refine ⟨W.map Prod.snd, ?_, ?_⟩
  · rw [← e]
    exact hWp.map _
  · have hl : ltr S = ltr (W.map Prod.snd) := by
      rw [← e]
      exact ltr_perm (hWp.symm.map _)
    rw [hl]
    cases W with
    | nil => simp [ltr]
    | cons x W =>
      have := row_room t W x hWat hWr
      omega
end Go.Proofs.Ytfppbfhlmbakoaa
