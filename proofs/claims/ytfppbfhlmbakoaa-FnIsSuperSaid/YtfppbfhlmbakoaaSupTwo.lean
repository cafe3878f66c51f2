/-
  Plain laws of shortest texts and of the greedy way: all words are in them; which is longer.
-/
import Derived.Test.YtfppbfhlmbakoaaSupLaw
import Derived.Test.YtfppbfhlmbakoaaGreedy
namespace Go.Proofs.Ytfppbfhlmbakoaa
set_option linter.unusedVariables false
set_option linter.unusedSimpArgs false

theorem prs_pth (ws : List (List UInt8)) (l : List Nat) : ∀ a : Nat, prs ws (l ++ [a]) + ((wd ws a).length : Int) + (pth (sel ws (l ++ [a])) : Nat) = (ltr (sel ws (l ++ [a])) : Nat) := by
  induction l using rev_ind with
  | h0 => intro a; simp [prs, sel, pth, ltr]
  | h1 l x ih =>
    intro a
    have h1 := ih x
    have h2 := prs_snoc ws l x a
    have h3 := pth_snoc (sel ws l) (wd ws x) (wd ws a)
    have e1 : l ++ [x] ++ [a] = l ++ [x, a] := by simp
    have e2 : sel ws (l ++ [x, a]) = sel ws l ++ [wd ws x, wd ws a] := by simp [sel]
    have e3 : sel ws (l ++ [x]) = sel ws l ++ [wd ws x] := by simp [sel]
    rw [e1, h2, e2, h3]
    rw [e3] at h1
    have h4 : ltr (sel ws l ++ [wd ws x, wd ws a]) = ltr (sel ws l ++ [wd ws x]) + (wd ws a).length := by simp [ltr]; omega
    rw [h4]
    unfold stp
    omega
theorem red_ok {ws : List (List UInt8)} (hv : vw ws = true) : ∀ x ∈ red ws, wOk x = true := fun x hx => vw_all' hv x (red_sub hx)
theorem red_ne {ws : List (List UInt8)} (hv : vw ws = true) : ∀ x ∈ red ws, x ≠ [] := fun x hx => by
  have := (wOk_len (red_ok hv x hx)).1
  intro h
  rw [h] at this
  simp at this
theorem ltr_le6' {l : List (List UInt8)} (h : ∀ x ∈ l, x.length ≤ 6) : ltr l ≤ 6 * l.length := by
  induction l with
  | nil => simp [ltr]
  | cons a l ih =>
    have h1 := ih (fun x hx => h x (by simp [hx]))
    have := h a (by simp)
    rw [ltr_cons, List.length_cons]
    omega
theorem ltr36 {ws : List (List UInt8)} (hv : vw ws = true) : ltr (red ws) ≤ 36 := by
  have h1 := ltr_le6' (l := red ws) (fun x hx => (wOk_len (red_ok hv x hx)).2)
  have h2 := red_le ws
  have h3 := vw_len hv
  omega
/-- A text is right for words: valid, and all are in it. -/
def Fit (ws : List (List UInt8)) (t : List UInt8) : Prop := vt t = true ∧ ws.all (hasL t ·) = true
theorem fit_of {ws : List (List UInt8)} {t : List UInt8} (hv : vw ws = true) (h1 : ∀ x ∈ red ws, x <:+: t) (h2 : t.all okB = true) (h3 : t.length ≤ 36) : Fit ws t := by
  refine ⟨vt_mk (List.all_eq_true.1 h2) (by omega), ?_⟩
  rw [List.all_eq_true]
  intro x hx
  obtain ⟨r, hr, hxr⟩ := red_met' hx
  rw [hasL_iff]
  exact hxr.trans (h1 r hr)
theorem red_letters {ws : List (List UInt8)} (hv : vw ws = true) : ∀ x ∈ red ws, x.all okB = true := fun x hx => by
  rw [List.all_eq_true]
  exact vt_ok (wOk_vt (red_ok hv x hx))
theorem gst_gr {ws : List (List UInt8)} (hv : vw ws = true) (hne : red ws ≠ []) : Gr (red ws) (GST ws) := by
  unfold GST
  rw [hv]
  exact gr_txt hne
theorem gst_nil {ws : List (List UInt8)} (hv : vw ws = true) (hne : red ws = []) : GST ws = [] := by
  unfold GST
  rw [hv, hne]
  rfl
theorem gst_fit {ws : List (List UInt8)} (hv : vw ws = true) : Fit ws (GST ws) := by
  by_cases hne : red ws = []
  · rw [gst_nil hv hne]
    exact fit_of hv (fun x hx => by rw [hne] at hx; cases hx) rfl (by simp)
  · have hg := gst_gr hv hne
    have h1 := hg.half (red_ne hv)
    exact fit_of hv (hg.all (red_ne hv)) (hg.letters okB (red_letters hv)) (by have := ltr36 hv; omega)
theorem sst_row {ws : List (List UInt8)} (hv : vw ws = true) : ∃ o, o.Perm (List.range (red ws).length) ∧ SST ws = otx (red ws) o ∧ (SST ws).length + pth (sel (red ws) o) = ltr (red ws) := by
  obtain ⟨⟨o, ho, h1⟩, _⟩ := shT_least (red ws)
  have hp := (mem_orders _ o).1 ho
  have e : SST ws = otx (red ws) o := by unfold SST; rw [hv]; exact h1.symm
  refine ⟨o, hp, e, ?_⟩
  have hs := sel_perm hp
  have h2 := (txt_all (sel (red ws) o) (fun x hx => red_ne hv x (hs.mem_iff.1 hx))).2
  rw [e, ← ltr_perm hs]
  exact h2
theorem sst_fit {ws : List (List UInt8)} (hv : vw ws = true) : Fit ws (SST ws) := by
  obtain ⟨o, hp, e, h1⟩ := sst_row hv
  have hs := sel_perm hp
  have h2 := (txt_all (sel (red ws) o) (fun x hx => red_ne hv x (hs.mem_iff.1 hx))).1
  have h3 := txt_letters okB (sel (red ws) o) (fun x hx => red_letters hv x (hs.mem_iff.1 hx))
  have h4 := ltr36 hv
  refine fit_of hv (fun x hx => ?_) (by rw [e]; exact h3) (by omega)
  rw [e]
  exact h2 x (hs.mem_iff.2 hx)
theorem sst_le_gst {ws : List (List UInt8)} (hv : vw ws = true) : (SST ws).length ≤ (GST ws).length := by
  by_cases hne : red ws = []
  · obtain ⟨o, hp, e, h1⟩ := sst_row hv
    rw [hne] at h1
    have h0 : ltr ([] : List (List UInt8)) = 0 := rfl
    omega
  · have hg := gst_gr hv hne
    obtain ⟨L, hL, h1⟩ := shortest_row (S := red ws) (t := GST ws) (red_apart ws) (hg.all (red_ne hv))
    obtain ⟨o, ho, h2⟩ := sel_of_perm hL
    have h3 := (shT_least (red ws)).2 o ((mem_orders _ o).2 ho)
    rw [sLt_false] at h3
    have h4 := (txt_all L (fun x hx => red_ne hv x (hL.mem_iff.1 hx))).2
    rw [ltr_perm hL] at h4
    have e1 : otx (red ws) o = txt L := by unfold otx; rw [h2]
    have e2 : SST ws = shT (red ws) := by unfold SST; rw [hv]; rfl
    rw [e1] at h3
    rw [e2]
    omega
theorem ring_le_sst {ws : List (List UInt8)} (hv : vw ws = true) : WY ws bhR ≤ ((SST ws).length : Int) := by
  obtain ⟨o, hp, e, h1⟩ := sst_row hv
  have h2 := (WY_least bhR hv).2 o ((mem_orders _ o).2 hp)
  rcases List.eq_nil_or_concat o with rfl | ⟨l, a, rfl⟩
  · have h3 : way (red ws) bhR [] = 0 := rfl
    omega
  · rw [List.concat_eq_append] at *
    have h3 := wayR_prs (red ws) l a
    have h4 := prs_pth (red ws) l a
    have h5 := stp_le (red ws) a ((l ++ [a]).getD 0 0)
    rw [ltr_perm (sel_perm hp)] at h4
    omega
theorem gst_half {ws : List (List UInt8)} (hv : vw ws = true) : ((ltr (red ws) : Nat) : Int) - ((SST ws).length : Int) ≤ 2 * (((ltr (red ws) : Nat) : Int) - ((GST ws).length : Int)) := by
  obtain ⟨o, hp, e, h1⟩ := sst_row hv
  by_cases hne : red ws = []
  · rw [gst_nil hv hne]
    rw [hne] at h1 ⊢
    simp [ltr] at h1 ⊢
  · have hg := gst_gr hv hne
    have h2 := (hg.half (red_ne hv)).2 _ (sel_perm hp)
    omega
theorem gst_len {ws : List (List UInt8)} (hv : vw ws = true) : (GST ws).length ≤ 40 := vt_len (gst_fit hv).1
theorem sst_len {ws : List (List UInt8)} (hv : vw ws = true) : (SST ws).length ≤ 40 := vt_len (sst_fit hv).1
/-- What IsSuper tells. -/
def ISS (s : List UInt8) (ws : List (List UInt8)) : Bool := vt s && (vw ws && ws.all (hasL s ·))
theorem iss_fit {ws : List (List UInt8)} {t : List UInt8} (hv : vw ws = true) (h : Fit ws t) : ISS t ws = true := by
  unfold ISS
  rw [h.1, hv, h.2]
  rfl
theorem iss_red {ws : List (List UInt8)} (s : List UInt8) (hv : vw ws = true) : ISS s (red ws) = ISS s ws := by
  unfold ISS
  rw [hv, vw_red hv]
  congr 2
  rw [Bool.eq_iff_iff, List.all_eq_true, List.all_eq_true]
  constructor
  · intro h x hx
    obtain ⟨r, hr, hxr⟩ := red_met' hx
    rw [hasL_iff]
    exact hxr.trans (hasL_iff.1 (h r hr))
  · intro h x hx
    exact h x (red_sub hx)
theorem iss_take {ws : List (List UInt8)} {s : List UInt8} (k : Nat) (h : ISS s ws = true) : ISS s (ws.take k) = true := by
  unfold ISS at h ⊢
  simp only [Bool.and_eq_true] at h ⊢
  refine ⟨h.1, ?_, ?_⟩
  · have h2 := h.2.1
    unfold vw at h2 ⊢
    simp only [Bool.and_eq_true, List.all_eq_true, decide_eq_true_eq] at h2 ⊢
    exact ⟨fun x hx => h2.1 x (List.mem_of_mem_take hx), by rw [List.length_take]; omega⟩
  · have h2 := h.2.2
    rw [List.all_eq_true] at h2 ⊢
    exact fun x hx => h2 x (List.mem_of_mem_take hx)
end Go.Proofs.Ytfppbfhlmbakoaa
