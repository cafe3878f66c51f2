/-
  Contracts of the small functions on numbers and texts: ranges, valid texts, a text in another one.
-/
import Derived.Test.YtopmifidhabobaaBase
import Derived.Test.YtopmifidhabobaaShelf
namespace Go.Proofs.Ytopmifidhabobaa
open Go.RowKit
set_option linter.unusedVariables false
set_option linter.unusedSimpArgs false

/-! ### plain words -/
def inR (n lo hi : Int) : Bool := decide (lo ≤ n ∧ n ≤ hi)
theorem inR_true {n lo hi : Int} (h : inR n lo hi = true) : lo ≤ n ∧ n ≤ hi := by unfold inR at h; simpa using h
theorem inR_false {n lo hi : Int} (h : inR n lo hi = false) : ¬ (lo ≤ n ∧ n ≤ hi) := by unfold inR at h; simpa using h
theorem inR_eq_true {n lo hi : Int} (h : lo ≤ n ∧ n ≤ hi) : inR n lo hi = true := by unfold inR; simpa using h
theorem inR_eq_false {n lo hi : Int} (h : ¬ (lo ≤ n ∧ n ≤ hi)) : inR n lo hi = false := by unfold inR; simpa using h
def okB (c : UInt8) : Bool := decide (97 ≤ c.toNat ∧ c.toNat ≤ 100)
/-- A valid text. -/
def vt (l : List UInt8) : Bool := l.all okB && decide (l.length ≤ 40)
theorem vt_no (l : List UInt8) (k : Nat) (hlt : k < l.length) (h : okB l[k] = false) : vt l = false := by
  unfold vt
  rw [Bool.and_eq_false_iff]
  left
  rw [List.all_eq_false]
  exact ⟨l[k], List.getElem_mem hlt, by simp [h]⟩
theorem all_take_succ (l : List UInt8) (k : Nat) (hlt : k < l.length) (h0 : (l.take k).all okB = true) (h : okB l[k] = true) : (l.take (k + 1)).all okB = true := by
  rw [List.take_succ_eq_append_getElem hlt, List.all_append, h0]; simp [h]
theorem vt_all (l : List UInt8) (k : Nat) (hk : ¬ k < l.length) (h0 : (l.take k).all okB = true) : vt l = decide ((l.length : Int) ≤ 40) := by
  rw [List.take_of_length_le (by omega)] at h0
  unfold vt; rw [h0]; simp; omega
theorem vt_len {l : List UInt8} (h : vt l = true) : l.length ≤ 40 := by unfold vt at h; simp at h; exact h.2
theorem vt_ok {l : List UInt8} (h : vt l = true) : ∀ c ∈ l, okB c = true := by unfold vt at h; simp at h; exact h.1
theorem vt_mk {l : List UInt8} (h1 : ∀ c ∈ l, okB c = true) (h2 : l.length ≤ 40) : vt l = true := by unfold vt; simp; exact ⟨h1, h2⟩
theorem okB_lt {c : UInt8} (h : okB c = true) : c.toNat < 128 := by unfold okB at h; simp at h; omega
/-- Whether u stands in s. -/
def hasL (s u : List UInt8) : Bool := decide (u <:+: s)
theorem hasL_iff {s u : List UInt8} : hasL s u = true ↔ u <:+: s := by unfold hasL; simp
theorem infix_iff {s u : List UInt8} : u <:+: s ↔ ∃ k, k + u.length ≤ s.length ∧ (s.drop k).take u.length = u := by
  constructor
  · rintro ⟨a, b, rfl⟩
    exact ⟨a.length, by simp, by simp⟩
  · rintro ⟨k, _, h⟩
    refine ⟨s.take k, s.drop (k + u.length), ?_⟩
    have e : u ++ s.drop (k + u.length) = s.drop k := by
      rw [← List.drop_drop]
      have := List.take_append_drop u.length (s.drop k)
      rw [h] at this
      exact this
    rw [List.append_assoc, e]
    exact List.take_append_drop _ _
theorem hasL_false_iff {s u : List UInt8} : hasL s u = false ↔ ∀ k, k + u.length ≤ s.length → (s.drop k).take u.length ≠ u := by
  rw [← Bool.not_eq_true, hasL_iff, infix_iff]
  exact ⟨fun h k hk he => h ⟨k, hk, he⟩, fun h ⟨k, hk, he⟩ => h k hk he⟩

/-! ### walks -/
theorem inRange_any (n lo hi : Int) (w : World) :
    Calls Try.prog 81 #[.int .i64 n, .int .i64 lo, .int .i64 hi] w fun e w' => e = .returned (.bool (inR n lo hi)) ∧ w = w' := by
  unfold inR
  by_cases h1 : lo ≤ n
  · by_cases h2 : n ≤ hi
    all_goals
      go_enter Try.func81, Try.ntmps81
      go_wp2
      go_ret
      exact ⟨ret_bool (by simp; omega), rfl⟩
  · go_enter Try.func81, Try.ntmps81
    go_wp2
    go_ret
    exact ⟨ret_bool (by simp; omega), rfl⟩
theorem within_any (n lo hi : Int) (w : World) :
    Calls Try.prog 53 #[.int .i64 n, .int .i64 lo, .int .i64 hi] w fun e w' => e = .returned (.bool (inR n lo hi)) ∧ w = w' := by
  unfold inR
  by_cases h1 : lo ≤ n
  · by_cases h2 : n ≤ hi
    all_goals
      go_enter Try.func53, Try.ntmps53
      go_wp2
      go_ret
      exact ⟨ret_bool (by simp; omega), rfl⟩
  · go_enter Try.func53, Try.ntmps53
    go_wp2
    go_ret
    exact ⟨ret_bool (by simp; omega), rfl⟩
theorem decode1 (l : List UInt8) (k : Nat) (hk : k < l.length) (h : l[k].toNat < 128) : (Utf8.decode ⟨l.toArray⟩ k).2 = 1 := by
  rw [decode_ascii ⟨l.toArray⟩ k hk h]
theorem decode1' (l : List UInt8) (k : Nat) (hk : k < l.length) (h : l[k].toNat < 128) : (Utf8.decode ⟨l.toArray⟩ k).1 = l[k].toNat := by
  rw [decode_ascii ⟨l.toArray⟩ k hk h]
  rfl
/-- A text at an index within, as an operation. -/
theorem run_ix (s : List UInt8) (x : Int) (k : Nat) (hx : x = (k : Int)) (hk : k < s.length) (w : World) :
    (Instr.index 9 (.string ⟨s.toArray⟩) (.int .i64 x)).run Try.prog w = .ok (.int .u8 ((s[k]'hk).toNat)) w := by
  subst hx
  rw [run_index_string (P := Try.prog) w 9 ⟨s.toArray⟩ .i64 (k : Int) Try.underlying9]
  have h : (0 : Int) ≤ (k : Int) ∧ (k : Int) < ((⟨s.toArray⟩ : ByteArray).size : Int) := by
    constructor
    · omega
    · show (k : Int) < (s.length : Int); omega
  rw [dif_pos h]
  rfl
end Go.Proofs.Ytopmifidhabobaa
