/-
  Plain laws of phrases: the phrases of a text make the text; they are the fewest.
-/
import Derived.Test.YteldklkfedeleaaDoorTextOf
import Derived.Test.YteldklkfedeleaaDoorFew
namespace Go.Proofs.YteldklkfedeleaaDoor
open Go.RowKit
set_option linter.unusedVariables false

theorem mlen_ge (s : List UInt8) (f : Nat) : ∀ i q n, q + n ≤ s.length → n ≤ f → (∀ k, k < n → s[i + k]? = s[q + k]?) → n ≤ mlen s i q f := by
  induction f with
  | zero => intro i q n _ h _; omega
  | succ f ih =>
    intro i q n h1 h2 h3
    cases n with
    | zero => exact Nat.zero_le _
    | succ n =>
      have h0 := h3 0 (by omega)
      rw [Nat.add_zero, Nat.add_zero] at h0
      have := ih (i + 1) (q + 1) n (by omega) (by omega) (fun k hk => by
        have := h3 (k + 1) (by omega)
        rw [show i + 1 + k = i + (k + 1) by omega, show q + 1 + k = q + (k + 1) by omega]
        exact this)
      rw [mlen, if_pos ⟨by omega, h0⟩]
      omega
theorem mlen_same (s : List UInt8) (f : Nat) : ∀ i q k, k < mlen s i q f → s[i + k]? = s[q + k]? := by
  induction f with
  | zero => intro i q k h; rw [mlen] at h; omega
  | succ f ih =>
    intro i q k h
    rw [mlen] at h
    split at h
    · rename_i hc
      cases k with
      | zero => exact hc.2
      | succ k =>
        have := ih (i + 1) (q + 1) k (by omega)
        rw [show i + 1 + k = i + (k + 1) by omega, show q + 1 + k = q + (k + 1) by omega] at this
        exact this
    · omega
theorem lng_mat (s : List UInt8) (q : Nat) : ∀ i, 0 < (lng s q i).2 → 0 ≤ (lng s q i).1 ∧ (lng s q i).1 < i ∧ mat s (lng s q i).1.toNat q = (lng s q i).2 := by
  intro i
  induction i with
  | zero => intro h; simp [lng] at h
  | succ i ih =>
    rw [lng]
    split
    · intro _; refine ⟨by simp, by simp; omega, by simp⟩
    · intro h
      have := ih h
      exact ⟨this.1, by omega, this.2.2⟩
theorem lng_max (s : List UInt8) (q : Nat) : ∀ i j, j < i → mat s j q ≤ (lng s q i).2 := by
  intro i
  induction i with
  | zero => intro j h; omega
  | succ i ih =>
    intro j h
    rw [lng]
    split
    · rename_i hc
      rcases Nat.lt_or_ge j i with h1 | h1
      · have := ih j h1; simp; omega
      · have : j = i := by omega
        subst this
        exact Nat.le_refl _
    · rename_i hc
      rcases Nat.lt_or_ge j i with h1 | h1
      · exact ih j h1
      · have : j = i := by omega
        subst this
        omega
def sz (s : List UInt8) (q : Nat) : Nat := (lng s q q).2
theorem sz_step (s : List UInt8) (q : Nat) (hq : q + 1 ≤ s.length) : sz s q ≤ sz s (q + 1) + 1 := by
  unfold sz
  rcases Nat.eq_zero_or_pos (lng s q q).2 with h | h
  · omega
  · obtain ⟨h1, h2, h3⟩ := lng_mat s q q h
    have hle := lng_le s q (by omega) q
    obtain ⟨n, hn⟩ : ∃ n, (lng s q q).2 = n + 1 := ⟨(lng s q q).2 - 1, by omega⟩
    have hm : n ≤ mat s ((lng s q q).1.toNat + 1) (q + 1) := by
      refine mlen_ge s s.length _ _ n (by omega) (by omega) fun k hk => ?_
      have := mlen_same s s.length (lng s q q).1.toNat q (k + 1) (by unfold mat at h3; omega)
      rw [show (lng s q q).1.toNat + 1 + k = (lng s q q).1.toNat + (k + 1) by omega, show q + 1 + k = q + (k + 1) by omega]
      exact this
    have := lng_max s (q + 1) (q + 1) ((lng s q q).1.toNat + 1) (by omega)
    omega
/-! ### the phrases are as many as the fewest -/
theorem phr_fuel (s : List UInt8) : ∀ f q, s.length ≤ q + f → phr s f q = phr s (s.length - q) q := by
  intro f
  induction f using Nat.strongRecOn with
  | ind f ih =>
    intro q hf
    cases f with
    | zero => rw [show s.length - q = 0 by omega]
    | succ f =>
      by_cases hq : q < s.length
      · obtain ⟨m, hm⟩ : ∃ m, s.length - q = m + 1 := ⟨s.length - q - 1, by omega⟩
        rw [hm, phr, phr, if_pos hq, if_pos hq]
        split
        · rw [ih f (by omega) _ (by omega)]
          by_cases hmf : m = f
          · rw [hmf, ih f (by omega) _ (by omega)]
          · rw [ih m (by omega) _ (by omega)]
        · rw [ih f (by omega) _ (by omega)]
          by_cases hmf : m = f
          · rw [hmf, ih f (by omega) _ (by omega)]
          · rw [ih m (by omega) _ (by omega)]
      · rw [phr, if_neg hq, show s.length - q = 0 by omega, phr]
def gl (s : List UInt8) (q : Nat) : Nat := (phr s (s.length - q) q).length
theorem gl_end (s : List UInt8) (q : Nat) (hq : s.length ≤ q) : gl s q = 0 := by
  unfold gl
  rw [show s.length - q = 0 by omega]
  rfl
theorem gl_step (s : List UInt8) (q : Nat) (hq : q < s.length) : gl s q = 1 + gl s (q + max (sz s q) 1) := by
  unfold gl
  obtain ⟨m, hm⟩ : ∃ m, s.length - q = m + 1 := ⟨s.length - q - 1, by omega⟩
  rw [hm, phr, if_pos hq]
  unfold sz
  split
  · rename_i h
    rw [List.length_cons, show q + max (lng s q q).2 1 = q + (lng s q q).2 by omega, ← phr_fuel s m _ (by omega)]
    omega
  · rename_i h
    rw [List.length_cons, show q + max (lng s q q).2 1 = q + 1 by omega, ← phr_fuel s m _ (by omega)]
    omega
theorem gl_mono1 (s : List UInt8) : ∀ d q, s.length - q ≤ d → gl s (q + 1) ≤ gl s q ∧ ∀ r, q ≤ r → gl s r ≤ gl s q := by
  intro d
  induction d with
  | zero =>
    intro q h
    refine ⟨by rw [gl_end s (q + 1) (by omega)]; exact Nat.zero_le _, fun r hr => by rw [gl_end s r (by omega)]; exact Nat.zero_le _⟩
  | succ d ih =>
    intro q h
    by_cases hq : q < s.length
    · have h1 : gl s (q + 1) ≤ gl s q := by
        rw [gl_step s q hq]
        by_cases hsz : sz s q ≤ 1
        · rw [show q + max (sz s q) 1 = q + 1 by omega]
          omega
        · by_cases hq1 : q + 1 < s.length
          · rw [gl_step s (q + 1) hq1]
            have hst := sz_step s q (by omega)
            have := (ih (q + max (sz s q) 1) (by omega)).2 (q + 1 + max (sz s (q + 1)) 1) (by omega)
            omega
          · rw [gl_end s (q + 1) (by omega)]
            omega
      refine ⟨h1, fun r hr => ?_⟩
      rcases Nat.lt_or_ge q r with h2 | h2
      · exact Nat.le_trans ((ih (q + 1) (by omega)).2 r h2) h1
      · have : r = q := by omega
        subst this
        exact Nat.le_refl _
    · refine ⟨by rw [gl_end s (q + 1) (by omega)]; exact Nat.zero_le _, fun r hr => by rw [gl_end s r (by omega)]; exact Nat.zero_le _⟩
theorem gl_mono (s : List UInt8) {q r : Nat} (h : q ≤ r) : gl s r ≤ gl s q := (gl_mono1 s _ q (Nat.le_refl _)).2 r h
theorem mn_last (L : List Int) (n : Nat) (h : ∀ i, i + 1 < n → L.getD (i + 1) 0 ≤ L.getD i 0) : mn L n = 1 + L.getD (n - 1) 0 := by
  induction n with
  | zero => rw [mn]
  | succ n ih =>
    rw [mn, ih fun i hi => h i (by omega)]
    cases n with
    | zero => simp
    | succ n =>
      have := h n (by omega)
      simp only [Nat.add_sub_cancel]
      omega
theorem fl_gl (s : List UInt8) (k : Nat) (hk : k ≤ s.length) : fl s k = (List.range (k + 1)).map fun i => (gl s (s.length - k + i) : Int) := by
  induction k with
  | zero => simp [fl, gl_end]
  | succ k ih =>
    have hL := ih (by omega)
    obtain ⟨q, hq⟩ : ∃ q, q = s.length - (k + 1) := ⟨_, rfl⟩
    have hget : ∀ i, i ≤ k → (fl s k).getD i 0 = (gl s (q + 1 + i) : Int) := by
      intro i hi
      rw [hL, List.getD_eq_getElem?_getD, List.getElem?_map, List.getElem?_range (by omega)]
      simp
      rw [show s.length - k + i = q + 1 + i by omega]
    have hszq : q + sz s q ≤ s.length := lng_le s q (by omega) q
    rw [fl, ← hq]
    have hmn : mn (fl s k) (sz s q) = (gl s q : Int) := by
      rw [mn_last _ _ fun i hi => by
        rw [hget i (by omega), hget (i + 1) (by omega)]
        have := gl_mono s (show q + 1 + i ≤ q + 1 + (i + 1) by omega)
        omega]
      rw [hget _ (by omega), gl_step s q (by omega), show q + 1 + (sz s q - 1) = q + max (sz s q) 1 by omega]
      omega
    rw [show (lng s q q).2 = sz s q from rfl, hmn, List.range_succ_eq_map, List.map_cons, Nat.add_zero, List.map_map, hL]
    congr 1
    refine List.map_congr_left fun i hi => ?_
    simp only [Function.comp]
    congr 2
    omega
theorem few_gl (s : List UInt8) : few s = (gl s 0 : Int) := by
  unfold few
  rw [fl_gl s s.length (Nat.le_refl _), List.range_succ_eq_map]
  simp
theorem PO_few (s : List UInt8) (hv : vt s = true) : ((PO s).length : Int) = few s := by
  unfold PO
  rw [hv, if_pos rfl, few_gl]
  rfl
/-! ### the phrases make the text -/
theorem phr_mem (s : List UInt8) (f : Nat) : ∀ q p, p ∈ phr s f q → p = (-1, 1, p.2.2) ∧ p.2.2.length ≤ 1 ∨ 0 ≤ p.1 ∧ p.1 < s.length ∧ 0 ≤ p.2.1 ∧ p.2.1 ≤ s.length ∧ p.2.2 = [] := by
  induction f with
  | zero => intro q p h; simp [phr] at h
  | succ f ih =>
    intro q p h
    rw [phr] at h
    split at h
    · rename_i hq
      split at h
      · rename_i hs
        rcases List.mem_cons.1 h with rfl | h
        · obtain ⟨h1, h2, _⟩ := lng_mat s q q hs
          have := lng_le s q (by omega) q
          right
          refine ⟨h1, by omega, by simp, by simp; omega, rfl⟩
        · exact ih _ _ h
      · rcases List.mem_cons.1 h with rfl | h
        · left
          exact ⟨rfl, by simp; omega⟩
        · exact ih _ _ h
    · simp at h
theorem PO_ok (s : List UInt8) (hv : vt s = true) : PhOk (PO s) := by
  have hl := vt_len hv
  intro p hp
  unfold PO at hp
  rw [hv, if_pos rfl] at hp
  rcases phr_mem s _ _ p hp with ⟨h, h2⟩ | ⟨h1, h2, h3, h4, h5⟩
  · rw [h]
    simp
    omega
  · rw [h5]
    simp
    omega
theorem take_snoc (s : List UInt8) (q : Nat) (hq : q < s.length) : s.take q ++ (s.drop q).take 1 = s.take (q + 1) := by
  rw [List.take_succ_eq_append_getElem hq, List.drop_eq_getElem_cons hq]
  rfl
theorem cp_take (s : List UInt8) : ∀ n i q, i < q → q + n ≤ s.length → (∀ k, k < n → s[i + k]? = s[q + k]?) → cp (s.take q) i n = s.take (q + n) := by
  intro n
  induction n with
  | zero => intro i q _ _ _; rfl
  | succ n ih =>
    intro i q hi hq h
    rw [cp]
    have h0 := h 0 (by omega)
    rw [Nat.add_zero, Nat.add_zero] at h0
    have e : ((s.take q).drop i).take 1 = (s.drop q).take 1 := by
      rw [List.drop_take, List.take_take, show min 1 (q - i) = 1 by omega]
      have hil : i < s.length := by omega
      have hql : q < s.length := by omega
      rw [List.drop_eq_getElem_cons hil, List.drop_eq_getElem_cons hql]
      rw [List.getElem?_eq_getElem hil, List.getElem?_eq_getElem hql] at h0
      injection h0 with h0
      rw [List.take_succ_cons, List.take_zero, List.take_succ_cons, List.take_zero, h0]
    rw [e, take_snoc s q (by omega), ih (i + 1) (q + 1) (by omega) (by omega) fun k hk => by
      have := h (k + 1) (by omega)
      rw [show i + 1 + k = i + (k + 1) by omega, show q + 1 + k = q + (k + 1) by omega]
      exact this]
    congr 1
    omega
theorem txt_phr (s : List UInt8) (hv : vt s = true) (f : Nat) : ∀ q, q ≤ s.length → s.length ≤ q + f → txt (s.take q) (phr s f q) = some s := by
  have hl := vt_len hv
  induction f with
  | zero =>
    intro q h1 h2
    rw [phr, txt, List.take_of_length_le (by omega)]
  | succ f ih =>
    intro q h1 h2
    rw [phr]
    by_cases hq : q < s.length
    · rw [if_pos hq]
      split
      · rename_i hs
        obtain ⟨g1, g2, g3⟩ := lng_mat s q q hs
        have hle := lng_le s q (by omega) q
        have hb : bh (s.take q) ((lng s q q).1, ((lng s q q).2 : Int), []) = some (s.take (q + (lng s q q).2)) := by
          unfold bh
          dsimp only
          rw [if_neg, if_neg, if_neg]
          · rw [show ((lng s q q).2 : Int).toNat = (lng s q q).2 from rfl, cp_take s _ _ q (by omega) hle]
            intro k hk
            exact mlen_same s s.length _ q k (by unfold mat at g3; omega)
          · rw [inR_eq_true (by rw [List.length_take]; omega)]
            simp
          · simp [lok]
          · rw [inR_eq_true (by omega), List.length_take]
            simp
            omega
        rw [txt, hb]
        exact ih _ hle (by omega)
      · have hb : bh (s.take q) (-1, 1, (s.drop q).take 1) = some (s.take (q + 1)) := by
          have hlk : lok ((s.drop q).take 1) = true := by
            unfold lok
            simp only [Bool.and_eq_true, decide_eq_true_eq]
            refine ⟨by simp; omega, vt_mk (fun c hc => vt_ok hv c (List.mem_of_mem_drop (List.mem_of_mem_take hc))) (by simp; omega)⟩
          unfold bh
          dsimp only
          rw [if_neg, if_pos, take_snoc s q hq]
          · rw [hlk]; rfl
          · rw [inR_eq_true (by omega), List.length_take]
            simp
            omega
        rw [txt, hb]
        exact ih _ hq (by omega)
    · rw [if_neg hq, txt, List.take_of_length_le (by omega)]
theorem gl_le (s : List UInt8) : ∀ d q, s.length - q ≤ d → gl s q ≤ s.length - q := by
  intro d
  induction d with
  | zero => intro q h; rw [gl_end s q (by omega)]; exact Nat.zero_le _
  | succ d ih =>
    intro q h
    by_cases hq : q < s.length
    · rw [gl_step s q hq]
      have := ih (q + max (sz s q) 1) (by omega)
      omega
    · rw [gl_end s q (by omega)]; exact Nat.zero_le _
theorem TX_PO (s : List UInt8) (hv : vt s = true) : TX (PO s) = some s := by
  have hl := vt_len hv
  have h1 := gl_le s _ 0 (Nat.le_refl _)
  have h2 := txt_phr s hv s.length 0 (Nat.zero_le _) (by omega)
  unfold PO
  rw [hv, if_pos rfl]
  unfold TX
  rw [if_pos]
  · exact h2
  · have : (phr s s.length 0).length = gl s 0 := rfl
    omega
end Go.Proofs.YteldklkfedeleaaDoor
