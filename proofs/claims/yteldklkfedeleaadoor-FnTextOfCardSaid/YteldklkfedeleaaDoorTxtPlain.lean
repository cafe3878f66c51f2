/-
  Plain laws of texts of phrases: the two sides' texts are the same; no phrases are fewer than the fewest.
-/
import Derived.Test.YteldklkfedeleaaDoorTextOf2
import Derived.Test.YteldklkfedeleaaDoorPhrPlain
namespace Go.Proofs.YteldklkfedeleaaDoor
open Go.RowKit
set_option linter.unusedVariables false
set_option linter.unusedSimpArgs false

theorem cp_len_eq (n : Nat) : ∀ (t : List UInt8) (i : Nat), i < t.length → (cp t i n).length = t.length + n := by
  induction n with
  | zero => intro t i _; rfl
  | succ n ih =>
    intro t i h
    rw [cp, ih _ _ (by simp; omega)]
    simp
    omega
def cut40 (u : List UInt8) : Option (List UInt8) := if u.length ≤ 40 then some u else none
theorem bh_sbh (t : List UInt8) (p : Ph) : bh t p = (sbh t p).bind cut40 := by
  obtain ⟨f, z, l⟩ := p
  unfold bh sbh
  dsimp only
  by_cases hf : f = -1
  · subst hf
    have hr : inR (-1) 0 ((t.length : Int) - 1) = false := inR_eq_false (by omega)
    rw [hr]
    by_cases hz : z = 1
    · subst hz
      rw [inR_eq_true (show (1 : Int) ≤ 1 ∧ (1 : Int) ≤ 40 by omega)]
      by_cases hl : l.length = 1
      · cases hv : vt l with
        | true =>
          by_cases h40 : t.length + 1 ≤ 40
          · simp [lok, hl, hv, cut40, h40, show (t.length : Int) + 1 ≤ 40 by omega]
          · simp [lok, hl, hv, cut40, h40, show ¬ (t.length : Int) + 1 ≤ 40 by omega]
        | false => simp [lok, hv]
      · simp [lok, hl]
    · have hz' : (z == 1) = false := by simpa using hz
      simp [hz']
  · have hf' : (f == -1) = false := by simpa using hf
    rw [hf']
    cases hr : inR f 0 ((t.length : Int) - 1) with
    | false => simp
    | true =>
      have h1 := inR_true hr
      cases hz : inR z 1 40 with
      | false => simp
      | true =>
        have h2 := inR_true hz
        by_cases hl : l = []
        · have hc := cp_len_eq z.toNat t f.toNat (by omega)
          by_cases h40 : (t.length : Int) + z ≤ 40
          · have : (cp t f.toNat z.toNat).length ≤ 40 := by omega
            simp [hl, h40, cut40, this]
          · have : ¬ (cp t f.toNat z.toNat).length ≤ 40 := by omega
            simp [hl, h40, cut40, this]
        · simp [hl]
theorem sbh_more {t u : List UInt8} {p : Ph} (h : sbh t p = some u) : t.length ≤ u.length := by
  obtain ⟨f, z, l⟩ := p
  unfold sbh at h
  dsimp only at h
  split at h
  · split at h
    · injection h with h
      subst h
      simp
    · cases h
  · split at h
    · rename_i h1
      simp only [Bool.and_eq_true, decide_eq_true_eq] at h1
      have h2 := inR_true h1.1.1
      injection h with h
      subst h
      rw [cp_len_eq _ _ _ (by omega)]
      omega
    · cases h
theorem stxt_long (ps : List Ph) : ∀ t : List UInt8, 40 < t.length → stxt t ps = none := by
  induction ps with
  | nil =>
    intro t h
    rw [stxt, if_neg]
    intro hv
    have := vt_len hv
    omega
  | cons p ps ih =>
    intro t h
    rw [stxt]
    cases hs : sbh t p with
    | none => rfl
    | some u =>
      have := sbh_more hs
      exact ih u (by omega)
def okL (t : List UInt8) : Prop := ∀ c ∈ t, okB c = true
theorem cp_ok (n : Nat) : ∀ (t : List UInt8) (i : Nat), okL t → okL (cp t i n) := by
  induction n with
  | zero => intro t i h; exact h
  | succ n ih =>
    intro t i h
    rw [cp]
    refine ih _ _ fun c hc => ?_
    rcases List.mem_append.1 hc with hc | hc
    · exact h c hc
    · exact h c (List.mem_of_mem_drop (List.mem_of_mem_take hc))
theorem sbh_ok {t u : List UInt8} {p : Ph} (h : sbh t p = some u) (ht : okL t) : okL u := by
  obtain ⟨f, z, l⟩ := p
  unfold sbh at h
  dsimp only at h
  split at h
  · split at h
    · rename_i h1
      simp only [Bool.and_eq_true, decide_eq_true_eq] at h1
      injection h with h
      subst h
      intro c hc
      rcases List.mem_append.1 hc with hc | hc
      · exact ht c hc
      · exact vt_ok h1.2 c hc
    · cases h
  · split at h
    · injection h with h
      subst h
      exact cp_ok _ _ _ ht
    · cases h
theorem stxt_txt (ps : List Ph) : ∀ t : List UInt8, okL t → t.length ≤ 40 → stxt t ps = txt t ps := by
  induction ps with
  | nil =>
    intro t h1 h2
    rw [stxt, txt, if_pos (vt_mk h1 h2)]
  | cons p ps ih =>
    intro t h1 h2
    rw [stxt, txt, bh_sbh]
    cases hs : sbh t p with
    | none => rfl
    | some u =>
      show stxt u ps = (cut40 u).bind fun v => txt v ps
      unfold cut40
      split
      · rename_i h3
        exact ih u (sbh_ok hs h1) h3
      · exact stxt_long ps u (by omega)
theorem SX_TX (ps : List Ph) : SX ps = TX ps := by
  unfold SX TX
  rw [stxt_txt ps [] (fun c hc => by cases hc) (by simp)]
theorem txt_vt (ps : List Ph) : ∀ t u : List UInt8, okL t → t.length ≤ 40 → txt t ps = some u → vt u = true := by
  induction ps with
  | nil =>
    intro t u h1 h2 h
    rw [txt] at h
    injection h with h
    subst h
    exact vt_mk h1 h2
  | cons p ps ih =>
    intro t u h1 h2 h
    rw [txt] at h
    cases hb : bh t p with
    | none => rw [hb] at h; cases h
    | some v =>
      rw [hb] at h
      have hs := hb
      rw [bh_sbh] at hs
      cases hs' : sbh t p with
      | none => rw [hs'] at hs; cases hs
      | some v' =>
        rw [hs'] at hs
        have hv : cut40 v' = some v := hs
        unfold cut40 at hv
        split at hv
        · injection hv with hv
          subst hv
          exact ih _ u (sbh_ok hs' h1) (bh_len hb) h
        · cases hv
theorem cp_pre (n : Nat) : ∀ (t : List UInt8) (i : Nat), ∃ r, cp t i n = t ++ r := by
  induction n with
  | zero => intro t i; exact ⟨[], by simp [cp]⟩
  | succ n ih =>
    intro t i
    obtain ⟨r, hr⟩ := ih (t ++ (t.drop i).take 1) (i + 1)
    exact ⟨(t.drop i).take 1 ++ r, by rw [cp, hr, List.append_assoc]⟩
theorem cp_same (n : Nat) : ∀ (t : List UInt8) (i k : Nat), i < t.length → k < n → (cp t i n)[i + k]? = (cp t i n)[t.length + k]? := by
  induction n with
  | zero => intro t i k _ h; omega
  | succ n ih =>
    intro t i k hi hk
    have he : (t.drop i).take 1 = [t[i]] := by rw [List.drop_eq_getElem_cons hi, List.take_succ_cons, List.take_zero]
    rw [cp, he]
    cases k with
    | zero =>
      obtain ⟨r, hr⟩ := cp_pre n (t ++ [t[i]]) (i + 1)
      rw [hr, Nat.add_zero, Nat.add_zero, List.append_assoc, List.getElem?_append_left hi, List.getElem?_append_right (Nat.le_refl _), List.getElem?_eq_getElem hi]
      simp
    | succ k =>
      have := ih (t ++ [t[i]]) (i + 1) k (by simp; omega) (by omega)
      rw [show i + 1 + k = i + (k + 1) by omega, List.length_append, List.length_singleton, show t.length + 1 + k = t.length + (k + 1) by omega] at this
      exact this
theorem bh_cases {t v : List UInt8} {p : Ph} (h : bh t p = some v) : (∃ l, l.length = 1 ∧ v = t ++ l) ∨ ∃ i n, i < t.length ∧ 1 ≤ n ∧ v = cp t i n := by
  obtain ⟨f, z, l⟩ := p
  rw [bh_sbh] at h
  cases hs : sbh t (f, z, l) with
  | none => rw [hs] at h; cases h
  | some v' =>
    rw [hs] at h
    have hv : cut40 v' = some v := h
    unfold cut40 at hv
    split at hv
    · injection hv with hv
      subst hv
      unfold sbh at hs
      dsimp only at hs
      split at hs
      · split at hs
        · rename_i h1
          simp only [Bool.and_eq_true, decide_eq_true_eq] at h1
          injection hs with hs
          exact .inl ⟨l, h1.1.2, hs.symm⟩
        · cases hs
      · split at hs
        · rename_i h1
          simp only [Bool.and_eq_true, decide_eq_true_eq] at h1
          have h2 := inR_true h1.1.1
          have h3 := inR_true h1.1.2
          injection hs with hs
          exact .inr ⟨f.toNat, z.toNat, by omega, by omega, hs.symm⟩
        · cases hs
    · cases hv
theorem txt_few (ps : List Ph) : ∀ t u : List UInt8, txt t ps = some u → (∃ r, u = t ++ r) ∧ gl u t.length ≤ ps.length := by
  induction ps with
  | nil =>
    intro t u h
    rw [txt] at h
    injection h with h
    subst h
    exact ⟨⟨[], by simp⟩, by rw [gl_end _ _ (Nat.le_refl _)]; exact Nat.zero_le _⟩
  | cons p ps ih =>
    intro t u h
    rw [txt] at h
    cases hb : bh t p with
    | none => rw [hb] at h; cases h
    | some v =>
      rw [hb] at h
      obtain ⟨⟨r, hr⟩, hg⟩ := ih v u h
      rw [List.length_cons]
      rcases bh_cases hb with ⟨l, hl, hv⟩ | ⟨i, n, hi, hn, hv⟩
      · have hul : u.length = t.length + 1 + r.length := by rw [hr, hv]; simp; omega
        have hvl : v.length = t.length + 1 := by rw [hv]; simp; omega
        refine ⟨⟨l ++ r, by rw [hr, hv, List.append_assoc]⟩, ?_⟩
        rw [gl_step u t.length (by omega)]
        have := gl_mono u (show v.length ≤ t.length + max (sz u t.length) 1 by omega)
        omega
      · have hvl : v.length = t.length + n := by rw [hv, cp_len_eq n t i hi]
        have hul : u.length = t.length + n + r.length := by rw [hr, List.length_append, hvl]
        obtain ⟨x, hx⟩ := cp_pre n t i
        refine ⟨⟨x ++ r, by rw [hr, hv, hx, List.append_assoc]⟩, ?_⟩
        have hm : n ≤ mat u i t.length := by
          refine mlen_ge u u.length i t.length n (by omega) (by omega) fun k hk => ?_
          rw [hr, List.getElem?_append_left (by omega), List.getElem?_append_left (by omega), hv]
          exact cp_same n t i k hi hk
        have hs : n ≤ sz u t.length := Nat.le_trans hm (lng_max u t.length t.length i hi)
        rw [gl_step u t.length (by omega)]
        have := gl_mono u (show v.length ≤ t.length + max (sz u t.length) 1 by omega)
        omega
theorem TX_few {ps : List Ph} {u : List UInt8} (h : TX ps = some u) : few u ≤ (ps.length : Int) ∧ vt u = true := by
  unfold TX at h
  split at h
  · have h1 := (txt_few ps [] u h).2
    rw [few_gl]
    exact ⟨by simp at h1; omega, txt_vt ps [] u (fun c hc => by cases hc) (by simp) h⟩
  · cases h
end Go.Proofs.YteldklkfedeleaaDoor
