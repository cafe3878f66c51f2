/-
  Plain laws of TextsOf, IsTold, LeastTold.
-/
import Derived.Test.YtfbmcfdmffpfmaaTxs
import Derived.Test.YtfbmcfdmffpfmaaFacL
namespace Go.Proofs.Ytfbmcfdmffpfmaa
set_option linter.unusedVariables false
set_option linter.unusedSimpArgs false

/-- How many letters words have. -/
def klen (ws : List (List UInt8)) : Nat := (ws.headD []).length
def wdOk (k : Nat) (x : List UInt8) : Bool := vt x && inR x.length 1 6 && decide (x.length = k)
/-- Whether words are windows. -/
def vwd (ws : List (List UInt8)) : Bool := ws.all (wdOk (klen ws)) && inR ws.length 1 8
theorem wdOk_iff {k : Nat} {x : List UInt8} : wdOk k x = true ↔ vt x = true ∧ 1 ≤ x.length ∧ x.length ≤ 6 ∧ x.length = k := by
  unfold wdOk
  rw [Bool.and_eq_true, Bool.and_eq_true, decide_eq_true_iff]
  constructor
  · rintro ⟨⟨h1, h2⟩, h3⟩
    have := inR_true h2
    exact ⟨h1, by omega, by omega, h3⟩
  · rintro ⟨h1, h2, h3, h4⟩
    exact ⟨⟨h1, inR_eq_true (by omega)⟩, h4⟩
theorem vwd_iff {ws : List (List UInt8)} : vwd ws = true ↔ (∀ x ∈ ws, vt x = true ∧ 1 ≤ x.length ∧ x.length ≤ 6 ∧ x.length = klen ws) ∧ 1 ≤ ws.length ∧ ws.length ≤ 8 := by
  unfold vwd
  rw [Bool.and_eq_true, List.all_eq_true]
  constructor
  · rintro ⟨h1, h2⟩
    have := inR_true h2
    exact ⟨fun x hx => wdOk_iff.1 (h1 x hx), by omega, by omega⟩
  · rintro ⟨h1, h2, h3⟩
    exact ⟨fun x hx => wdOk_iff.2 (h1 x hx), inR_eq_true (by omega)⟩
theorem klen_of {ws : List (List UInt8)} {k : Nat} (h : ∀ x ∈ ws, x.length = k) (hne : ws ≠ []) : klen ws = k := by
  cases ws with
  | nil => exact absurd rfl hne
  | cons a r => exact h a (by simp)
theorem klen_perm {ws vs : List (List UInt8)} {k : Nat} (hp : ws.Perm vs) (h : ∀ x ∈ ws, x.length = k) (hne : ws ≠ []) : klen vs = k :=
  klen_of (fun x hx => h x (hp.mem_iff.2 hx)) fun e => hne (by rw [e] at hp; exact hp.eq_nil)
/-- All texts of windows. -/
def txl (ws : List (List UInt8)) : List (List UInt8) := dd (txs (klen ws) ws.length [] (stT ws))
def TX (ws : List (List UInt8)) : List (List UInt8) := if vwd ws then txl ws else []
theorem txl_mem {ws : List (List UInt8)} (h : vwd ws = true) {y : List UInt8} (hy : y ∈ txl ws) : (winds y (klen ws)).Perm ws ∧ vt y = true ∧ 1 ≤ klen ws ∧ klen ws ≤ 6 ∧ y.length + 1 = klen ws + ws.length := by
  obtain ⟨h1, h2, h3⟩ := vwd_iff.1 h
  have hne : ws ≠ [] := fun e => by rw [e] at h2; simp at h2
  have hk : 1 ≤ klen ws ∧ klen ws ≤ 6 := by
    cases ws with
    | nil => exact absurd rfl hne
    | cons a r =>
      have := h1 a (by simp)
      omega
  unfold txl at hy
  rw [dd_mem] at hy
  obtain ⟨r1, r2, r3, r4⟩ := txs_winds hk.1 ws.length [] (stT ws) (stT_len ws) (fun x hx => (h1 x ((stT_perm ws).mem_iff.1 hx)).2.2.2) (fun h => absurd rfl h) (fun _ e => hne (by have := stT_perm ws; rw [e] at this; exact this.symm.eq_nil)) y hy
  rw [if_pos rfl, List.nil_append] at r1
  rw [if_pos rfl, if_pos rfl, stT_len] at r3
  refine ⟨r1.trans (stT_perm ws), vt_mk (fun c hc => ?_) (by omega), hk.1, hk.2, r3⟩
  rcases r4 c hc with h | ⟨x, hx, hc⟩
  · cases h
  · exact vt_ok (h1 x ((stT_perm ws).mem_iff.1 hx)).1 c hc
theorem TX_winds {ws : List (List UInt8)} {y : List UInt8} (hy : y ∈ TX ws) : vwd ws = true ∧ vt y = true ∧ 1 ≤ klen ws ∧ klen ws ≤ 6 ∧ stT (winds y (klen ws)) = stT ws := by
  unfold TX at hy
  split at hy
  · next h =>
    obtain ⟨h1, h2, h3, h4, _⟩ := txl_mem h hy
    exact ⟨h, h2, h3, h4, stT_of_perm h1⟩
  · cases hy
theorem TX_asc (ws : List (List UInt8)) : AscT (TX ws) := by
  unfold TX
  split
  · exact dd_asc _
  · exact List.Pairwise.nil
theorem txs_few {ws : List (List UInt8)} (h : vwd ws = true) : (txs (klen ws) ws.length [] (stT ws)).length ≤ 40320 := by
  have h1 := (vwd_iff.1 h).2.2
  exact Nat.le_trans (txs_len (klen ws) ws.length [] (stT ws) (stT_len ws)) (fct_le h1)
theorem TX_len (ws : List (List UInt8)) : (TX ws).length ≤ 40320 := by
  unfold TX
  split
  · next h => exact Nat.le_trans (dd_len _) (txs_few h)
  · simp
theorem TX_short {ws : List (List UInt8)} {y : List UInt8} (hy : y ∈ TX ws) : y.length ≤ 40 := vt_len (TX_winds hy).2.1

/-! ### told -/
theorem stT_idem (l : List (List UInt8)) : stT (stT l) = stT l := stT_of_sorted (stT_sorted l)
theorem winds_ok {s : List UInt8} {k : Nat} (hv : vt s = true) (h1 : 1 ≤ k) (h6 : k ≤ 6) : vwd (stT (winds s k)) = decide (k ≤ s.length ∧ s.length ≤ k + 7) := by
  have hlen : (stT (winds s k)).length = s.length + 1 - k := by rw [stT_len, winds_len]
  have hw : ∀ x ∈ stT (winds s k), vt x = true ∧ x.length = k := by
    intro x hx
    have hx := (stT_perm _).mem_iff.1 hx
    have hl := winds_memlen hx
    refine ⟨vt_mk (fun c hc => ?_) (by omega), hl⟩
    have h3 : hasL s x = true := winds_has.2 (by rw [hl]; exact hx)
    rw [hasL_iff] at h3
    exact vt_ok hv c (h3.subset hc)
  rw [Bool.eq_iff_iff, vwd_iff, decide_eq_true_iff, hlen]
  constructor
  · rintro ⟨_, h2, h3⟩
    omega
  · rintro ⟨h2, h3⟩
    have hne : stT (winds s k) ≠ [] := fun e => by rw [e] at hlen; simp at hlen; omega
    have hk := klen_of (fun x hx => (hw x hx).2) hne
    refine ⟨fun x hx => ?_, by omega, by omega⟩
    have := hw x hx
    rw [hk]
    exact ⟨this.1, by omega, by omega, this.2⟩
/-- Whether windows tell a text. -/
def IT (s : List UInt8) (k : Int) : Bool := vt s && inR k 1 6 && vwd (stT (winds s k.toNat)) && decide ((txl (stT (winds s k.toNat))).length = 1)
theorem WO_yes {s : List UInt8} {k : Nat} (hv : vt s = true) (h1 : 1 ≤ k) (h6 : k ≤ 6) : WO s (k : Int) = stT (winds s k) := by
  unfold WO
  rw [hv, inR_eq_true (by omega)]
  simp
/-- A text is among those of its windows. -/
theorem self_TX {s : List UInt8} {k : Nat} (hv : vt s = true) (h1 : 1 ≤ k) (h6 : k ≤ 6) (hl : k ≤ s.length) (hl2 : s.length ≤ k + 7) : s ∈ TX (stT (winds s k)) ∧ TX (stT (winds s k)) = txl (stT (winds s k)) := by
  have hok : vwd (stT (winds s k)) = true := by rw [winds_ok hv h1 h6]; exact decide_eq_true ⟨hl, hl2⟩
  have e : TX (stT (winds s k)) = txl (stT (winds s k)) := by unfold TX; rw [hok]; rfl
  refine ⟨?_, e⟩
  rw [e]
  have hne : stT (winds s k) ≠ [] := fun e => by
    have h2 := stT_len (winds s k)
    rw [e, winds_len] at h2
    simp at h2
    omega
  have hk : klen (stT (winds s k)) = k := klen_of (fun x hx => winds_memlen ((stT_perm _).mem_iff.1 hx)) hne
  unfold txl
  rw [dd_mem, hk, stT_idem, stT_len]
  exact self_txs h1 hl
/-- The least windows that tell a text: the rounds of LeastTold. -/
def ltoF (s : List UInt8) : Nat → Nat → Option Nat
  | 0, _ => none
  | f + 1, k => if IT s (k : Int) then some k else ltoF s f (k + 1)
def LTo (s : List UInt8) : Option Nat := ltoF s 6 1
theorem ltoF_law (s : List UInt8) : ∀ (f k m : Nat), ltoF s f k = some m → k ≤ m ∧ m < k + f ∧ IT s (m : Int) = true ∧ ∀ j : Nat, k ≤ j → j < m → IT s (j : Int) = false := by
  intro f
  induction f with
  | zero => intro k m h; cases h
  | succ f ih =>
    intro k m h
    rw [ltoF] at h
    split at h
    · next hc =>
      injection h with h
      subst h
      exact ⟨Nat.le_refl _, by omega, hc, fun j h1 h2 => by omega⟩
    · next hc =>
      obtain ⟨h1, h2, h3, h4⟩ := ih (k + 1) m h
      refine ⟨by omega, by omega, h3, fun j h5 h6 => ?_⟩
      rcases Nat.lt_or_ge k j with h7 | h7
      · exact h4 j h7 h6
      · obtain rfl : j = k := by omega
        simpa using hc
theorem LTo_law {s : List UInt8} {m : Nat} (h : LTo s = some m) : 1 ≤ m ∧ m ≤ 6 ∧ IT s (m : Int) = true ∧ ∀ j : Nat, 1 ≤ j → j < m → IT s (j : Int) = false := by
  obtain ⟨h1, h2, h3, h4⟩ := ltoF_law s 6 1 m h
  exact ⟨h1, by omega, h3, h4⟩
end Go.Proofs.Ytfbmcfdmffpfmaa
