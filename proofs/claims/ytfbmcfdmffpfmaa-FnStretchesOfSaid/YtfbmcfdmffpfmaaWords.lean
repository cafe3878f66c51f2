/-
  Contracts of the functions on lists of words: what words are valid; which are left (reduce).
-/
import Derived.Test.YtfbmcfdmffpfmaaFuncs
import Derived.Deep.QuietTactic
import Derived.BigQuiet
import Derived.WalkMore
namespace Go.Proofs.Ytfbmcfdmffpfmaa
open Go.RowKit
set_option linter.unusedVariables false
set_option linter.unusedSimpArgs false

/-! ### plain words -/
def wOk (x : List UInt8) : Bool := vt x && inR x.length 1 6
/-- Valid words. -/
def vw (ws : List (List UInt8)) : Bool := ws.all wOk && decide (ws.length ≤ 6)
theorem vw_no {ws : List (List UInt8)} {k : Nat} {x : List UInt8} (hx : ws[k]? = some x) (h : wOk x = false) : vw ws = false := by
  unfold vw
  rw [Bool.and_eq_false_iff]
  left
  rw [List.all_eq_false]
  exact ⟨x, List.mem_of_getElem? hx, by simp [h]⟩
theorem allw_succ {ws : List (List UInt8)} {k : Nat} {x : List UInt8} (p : List UInt8 → Bool) (hx : ws[k]? = some x) (h0 : (ws.take k).all p = true) (h : p x = true) : (ws.take (k + 1)).all p = true := by
  obtain ⟨hk, rfl⟩ := List.getElem?_eq_some_iff.1 hx
  rw [List.take_succ_eq_append_getElem hk, List.all_append, h0]; simp [h]
theorem vw_all {ws : List (List UInt8)} {n k : Nat} (hn : ws.length = n) (hk : ¬ k < n) (h0 : (ws.take k).all wOk = true) : vw ws = decide ((n : Int) ≤ 6) := by
  rw [List.take_of_length_le (by omega)] at h0
  unfold vw; rw [h0, hn]; simp; omega
def Len47 (ws : List (List UInt8)) : Prop := ∀ x ∈ ws, x.length ≤ 140737488351232
theorem Len47.at_ {ws : List (List UInt8)} (h : Len47 ws) {k : Nat} {x : List UInt8} (hx : ws[k]? = some x) : x.length ≤ 140737488351232 := h x (List.mem_of_getElem? hx)

theorem vw_eq (ws : List (List UInt8)) : vw ws = (decide (ws.length ≤ 6) && !ws.any (fun x => !wOk x)) := by
  unfold vw
  rw [Bool.and_comm]
  congr 1
  rw [List.all_eq_not_any_not]

/-! ### the words that are left -/
def hit (i : Nat) (x : List UInt8) (k : Nat) (v : List UInt8) : Bool := decide (k ≠ i) && hasL v x && (decide (v ≠ x) || decide (k < i))
def dropTo (ws : List (List UInt8)) (i : Nat) (x : List UInt8) : Nat → Bool
  | 0 => false
  | k + 1 => dropTo ws i x k || (match ws[k]? with | some v => hit i x k v | none => false)
def redTo (ws : List (List UInt8)) : Nat → List (List UInt8)
  | 0 => []
  | i + 1 => match ws[i]? with
    | some x => if dropTo ws i x ws.length then redTo ws i else redTo ws i ++ [x]
    | none => redTo ws i
/-- The words that are left. -/
def red (ws : List (List UInt8)) : List (List UInt8) := redTo ws ws.length
theorem dropTo_succ {ws : List (List UInt8)} {i k : Nat} {x v : List UInt8} (hv : ws[k]? = some v) : dropTo ws i x (k + 1) = (dropTo ws i x k || hit i x k v) := by
  rw [dropTo, hv]
theorem redTo_succ {ws : List (List UInt8)} {i : Nat} {x : List UInt8} (hx : ws[i]? = some x) : redTo ws (i + 1) = if dropTo ws i x ws.length then redTo ws i else redTo ws i ++ [x] := by
  rw [redTo, hx]
theorem redTo_le (ws : List (List UInt8)) (i : Nat) : (redTo ws i).length ≤ i := by
  induction i with
  | zero => simp [redTo]
  | succ i ih =>
    rw [redTo]
    split
    · split
      · omega
      · simp; omega
    · omega

theorem Try.infoS : (Try.prog.info? 9).map (fun i => (i.zero, i.size, i.bytes)) = some (some (.string ⟨#[]⟩), 1, 16) := by kernel_rfl
theorem dropTo_more {ws : List (List UInt8)} {i : Nat} {x : List UInt8} {k : Nat} (h : dropTo ws i x k = true) (m : Nat) : dropTo ws i x (k + m) = true := by
  induction m with
  | zero => exact h
  | succ m ih => rw [← Nat.add_assoc, dropTo, ih]; simp
theorem dropTo_hit {ws : List (List UInt8)} {i : Nat} {x v : List UInt8} {k n : Nat} (hv : ws[k]? = some v) (hh : hit i x k v = true) (hk : k < n) : dropTo ws i x n = true := by
  have h1 : dropTo ws i x (k + 1) = true := by rw [dropTo_succ hv, hh]; simp
  have := dropTo_more h1 (n - (k + 1))
  rwa [show k + 1 + (n - (k + 1)) = n by omega] at this

/-! ### ReduceWords -/
def RW (ws : List (List UInt8)) : List (List UInt8) := if vw ws then red ws else []
theorem vw_len {ws : List (List UInt8)} (h : vw ws = true) : ws.length ≤ 6 := by unfold vw at h; simp at h; exact h.2
theorem vw_all' {ws : List (List UInt8)} (h : vw ws = true) : ∀ x ∈ ws, wOk x = true := by unfold vw at h; simp at h; exact h.1
theorem wOk_len {x : List UInt8} (h : wOk x = true) : 1 ≤ x.length ∧ x.length ≤ 6 := by
  unfold wOk at h
  rw [Bool.and_eq_true] at h
  have := inR_true h.2
  omega
theorem wOk_vt {x : List UInt8} (h : wOk x = true) : vt x = true := by
  unfold wOk at h
  rw [Bool.and_eq_true] at h
  exact h.1
theorem retRow_nil (w : World) (t : TypeId) : RetRow w t [] (.returned (.slice none 0 0)) w := ⟨none, 0, 0, rfl, ⟨rfl, Nat.le_refl _, by unfold maxLen; omega, fun h => absurd h (by omega)⟩, Below.refl _ _⟩
theorem retRow_nil' {w w' : World} (t : TypeId) (hb : Below w.heap.size w w') : RetRow w t [] (.returned (.slice none 0 0)) w' := ⟨none, 0, 0, rfl, ⟨rfl, Nat.le_refl _, by unfold maxLen; omega, fun h => absurd h (by omega)⟩, hb⟩
theorem RetRow.from {w w1 : World} {t : TypeId} {xs : List Value} {e : Ending} {w' : World} (hb : Below w.heap.size w w1) (h : RetRow w1 t xs e w') : RetRow w t xs e w' := by
  obtain ⟨A, n, c, he, ho, hb'⟩ := h
  exact ⟨A, n, c, he, ho.more hb.size, hb.trans (hb'.mono hb.size)⟩
set_option maxHeartbeats 400000 in
theorem HasWord_any (s u : List UInt8) (w : World) (hs : s.length ≤ 140737488351232) (hu : u.length ≤ 140737488351232) (hvr : Vr w) :
    Calls Try.prog 50 #[.string ⟨s.toArray⟩, .string ⟨u.toArray⟩] w (RetVal w (.bool (vt s && vt u && hasL s u))) := by
  cases h1 : vt s with
  | false =>
    have H1 := Lib.hid h1
    clear h1
    go_enter Try.func50, Try.ntmps50
    go_wp2_with (go_at_call 31; refine (ValidText_any _ _ (by omega)).mono ?_; rintro e w' ⟨rfl, hb⟩; rw [H1.out])
    go_ret
    exact ⟨rfl, by assumption⟩
  | true =>
    have hsl := vt_len h1
    have H1 := Lib.hid h1
    clear h1
    cases h2 : vt u with
    | false =>
      have H2 := Lib.hid h2
      clear h2
      go_enter Try.func50, Try.ntmps50
      go_wp2_with fail
      refine (ValidText_any _ _ (by omega)).mono ?_
      rintro e w1 ⟨rfl, hb1⟩
      rw [H1.out]
      go_wp2_with fail
      refine (ValidText_any _ _ (by omega)).mono ?_
      rintro e w2 ⟨rfl, hb2⟩
      rw [H2.out]
      go_wp2_with fail
      go_ret
      exact ⟨rfl, hb1.trans (hb2.mono hb1.size)⟩
    | true =>
      have H2 := Lib.hid h2
      clear h2
      go_enter Try.func50, Try.ntmps50
      go_wp2_with fail
      refine (ValidText_any _ _ (by omega)).mono ?_
      rintro e w1 ⟨rfl, hb1⟩
      rw [H1.out]
      go_wp2_with fail
      refine (ValidText_any _ _ (by omega)).mono ?_
      rintro e w2 ⟨rfl, hb2⟩
      rw [H2.out]
      have hb : Below w.heap.size w w2 := hb1.trans (hb2.mono hb1.size)
      have hvr2 := hvr.keep hb
      go_wp2_with fail
      refine (Contains_any _ _ _ (by omega) hvr2).mono ?_
      rintro e w3 ⟨rfl, rfl⟩
      go_wp2_with fail
      go_ret
      exact ⟨rfl, hb⟩
end Go.Proofs.Ytfbmcfdmffpfmaa
