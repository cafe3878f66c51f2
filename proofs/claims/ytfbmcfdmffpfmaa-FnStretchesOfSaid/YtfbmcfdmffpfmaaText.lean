/-
  Contracts of the small functions on numbers and texts: ranges, valid texts, a text in another one.
-/
import Derived.Test.YtfbmcfdmffpfmaaBase
import Derived.Test.YtfbmcfdmffpfmaaShelf
namespace Go.Proofs.Ytfbmcfdmffpfmaa
open Go.RowKit
set_option linter.unusedVariables false
set_option linter.unusedSimpArgs false

/-! ### plain words -/
def inR (n lo hi : Int) : Bool := decide (lo ≤ n ∧ n ≤ hi)
theorem inR_true {n lo hi : Int} (h : inR n lo hi = true) : lo ≤ n ∧ n ≤ hi := by unfold inR at h; simpa using h
theorem inR_false {n lo hi : Int} (h : inR n lo hi = false) : ¬ (lo ≤ n ∧ n ≤ hi) := by unfold inR at h; simpa using h
theorem inR_eq_true {n lo hi : Int} (h : lo ≤ n ∧ n ≤ hi) : inR n lo hi = true := by unfold inR; simpa using h
theorem inR_eq_false {n lo hi : Int} (h : ¬ (lo ≤ n ∧ n ≤ hi)) : inR n lo hi = false := by unfold inR; simpa using h
def okB (c : UInt8) : Bool := decide (97 ≤ c.toNat ∧ c.toNat ≤ 100)
/-- A valid text. -/
def vt (l : List UInt8) : Bool := l.all okB && decide (l.length ≤ 40)
theorem vt_no (l : List UInt8) (k : Nat) (hlt : k < l.length) (h : okB l[k] = false) : vt l = false := by
  unfold vt
  rw [Bool.and_eq_false_iff]
  left
  rw [List.all_eq_false]
  exact ⟨l[k], List.getElem_mem hlt, by simp [h]⟩
theorem all_take_succ (l : List UInt8) (k : Nat) (hlt : k < l.length) (h0 : (l.take k).all okB = true) (h : okB l[k] = true) : (l.take (k + 1)).all okB = true := by
  rw [List.take_succ_eq_append_getElem hlt, List.all_append, h0]; simp [h]
theorem vt_all (l : List UInt8) (k : Nat) (hk : ¬ k < l.length) (h0 : (l.take k).all okB = true) : vt l = decide ((l.length : Int) ≤ 40) := by
  rw [List.take_of_length_le (by omega)] at h0
  unfold vt; rw [h0]; simp; omega
theorem vt_len {l : List UInt8} (h : vt l = true) : l.length ≤ 40 := by unfold vt at h; simp at h; exact h.2
theorem vt_ok {l : List UInt8} (h : vt l = true) : ∀ c ∈ l, okB c = true := by unfold vt at h; simp at h; exact h.1
theorem vt_mk {l : List UInt8} (h1 : ∀ c ∈ l, okB c = true) (h2 : l.length ≤ 40) : vt l = true := by unfold vt; simp; exact ⟨h1, h2⟩
theorem okB_lt {c : UInt8} (h : okB c = true) : c.toNat < 128 := by unfold okB at h; simp at h; omega
/-- Whether u stands in s. -/
def hasL (s u : List UInt8) : Bool := decide (u <:+: s)
theorem hasL_iff {s u : List UInt8} : hasL s u = true ↔ u <:+: s := by unfold hasL; simp
theorem infix_iff {s u : List UInt8} : u <:+: s ↔ ∃ k, k + u.length ≤ s.length ∧ (s.drop k).take u.length = u := by
  constructor
  · rintro ⟨a, b, rfl⟩
    exact ⟨a.length, by simp, by simp⟩
  · rintro ⟨k, _, h⟩
    refine ⟨s.take k, s.drop (k + u.length), ?_⟩
    have e : u ++ s.drop (k + u.length) = s.drop k := by
      rw [← List.drop_drop]
      have := List.take_append_drop u.length (s.drop k)
      rw [h] at this
      exact this
    rw [List.append_assoc, e]
    exact List.take_append_drop _ _
theorem hasL_false_iff {s u : List UInt8} : hasL s u = false ↔ ∀ k, k + u.length ≤ s.length → (s.drop k).take u.length ≠ u := by
  rw [← Bool.not_eq_true, hasL_iff, infix_iff]
  exact ⟨fun h k hk he => h ⟨k, hk, he⟩, fun h ⟨k, hk, he⟩ => h k hk he⟩

/-! ### walks -/
theorem inRange_any (n lo hi : Int) (w : World) :
    Calls Try.prog 66 #[.int .i64 n, .int .i64 lo, .int .i64 hi] w fun e w' => e = .returned (.bool (inR n lo hi)) ∧ w = w' := by
  unfold inR
  by_cases h1 : lo ≤ n
  · by_cases h2 : n ≤ hi
    all_goals
      go_enter Try.func66, Try.ntmps66
      go_wp2
      go_ret
      exact ⟨ret_bool (by simp; omega), rfl⟩
  · go_enter Try.func66, Try.ntmps66
    go_wp2
    go_ret
    exact ⟨ret_bool (by simp; omega), rfl⟩
theorem within_any (n lo hi : Int) (w : World) :
    Calls Try.prog 68 #[.int .i64 n, .int .i64 lo, .int .i64 hi] w fun e w' => e = .returned (.bool (inR n lo hi)) ∧ w = w' := by
  unfold inR
  by_cases h1 : lo ≤ n
  · by_cases h2 : n ≤ hi
    all_goals
      go_enter Try.func68, Try.ntmps68
      go_wp2
      go_ret
      exact ⟨ret_bool (by simp; omega), rfl⟩
  · go_enter Try.func68, Try.ntmps68
    go_wp2
    go_ret
    exact ⟨ret_bool (by simp; omega), rfl⟩
set_option maxHeartbeats 400000 in
theorem validText_any (l : List UInt8) (w : World) (hs : l.length ≤ 140737488351232) :
    Calls Try.prog 59 #[.string ⟨l.toArray⟩] w fun e w' => e = .returned (.bool (vt l)) ∧ w = w' := by
  go_enter Try.func59, Try.ntmps59
  go_wp2
  go_loop [3] (fun i => ∃ k : Nat, k ≤ l.length ∧ i = .int .i64 k ∧ (l.take k).all okB = true) (fun i => l.length - (intOf i).toNat)
  case atStart => exact ⟨0, Nat.zero_le _, rfl, by simp⟩
  case round =>
    obtain ⟨k, hk, rfl, hall⟩ := hrel
    by_cases hlt : k < l.length
    · by_cases hok : okB l[k] = true
      · have h2 : 97 ≤ (l[k].toNat : Int) ∧ (l[k].toNat : Int) ≤ 100 := by unfold okB at hok; simp at hok; omega
        obtain ⟨h2a, h2b⟩ := h2
        have hn := all_take_succ l k hlt hall hok
        go_wp2
        go_round
        case rel => exact ⟨k + 1, by omega, by go_num, hn⟩
        case measure => simp [intOf]; omega
      · have hv := vt_no l k hlt (by simpa using hok)
        have Hv := Lib.hid hv
        clear hv
        unfold okB at hok; simp at hok
        go_wp2
        all_goals go_ret
        all_goals exact ⟨ret_bool (Hv.out).symm, rfl⟩
    · have hv := vt_all l k hlt hall
      have Hv := Lib.hid hv
      clear hv
      go_wp2
      go_ret
      exact ⟨ret_bool (Hv.out).symm, rfl⟩
theorem decode1 (l : List UInt8) (k : Nat) (hk : k < l.length) (h : l[k].toNat < 128) : (Utf8.decode ⟨l.toArray⟩ k).2 = 1 := by
  rw [decode_ascii ⟨l.toArray⟩ k hk h]
theorem decode1' (l : List UInt8) (k : Nat) (hk : k < l.length) (h : l[k].toNat < 128) : (Utf8.decode ⟨l.toArray⟩ k).1 = l[k].toNat := by
  rw [decode_ascii ⟨l.toArray⟩ k hk h]
  rfl
set_option maxHeartbeats 400000 in
theorem ValidText_any (l : List UInt8) (w : World) (hs : l.length ≤ 140737488351232) :
    Calls Try.prog 31 #[.string ⟨l.toArray⟩] w fun e w' => e = .returned (.bool (vt l)) ∧ Below w.heap.size w w' := by
  go_enter Try.func31, Try.ntmps31
  go_wp2
  go_loopw [3] (fun _ wr => ∃ k : Nat, k ≤ l.length ∧ wr = w.iter ⟨l.toArray⟩ k ∧ (l.take k).all okB = true) (fun _ w' => l.length - w'.iterPos w.heap.size)
  case atStart => exact ⟨0, Nat.zero_le _, rfl, by simp⟩
  case round =>
    obtain ⟨k, hk, rfl, hall⟩ := hrel
    have hbi : Below w.heap.size w (w.iter ⟨l.toArray⟩ k) := bel_iter w (Below.refl _ _) (Nat.le_refl _) _ _
    by_cases hlt : k < l.length
    · have hnx : ∀ ty, (Instr.next (.pointer (some ⟨w.heap.size, 0, none⟩)) true ty).run Try.prog (w.iter ⟨l.toArray⟩ k) = _ := fun ty => run_next_any w ⟨l.toArray⟩ k ty hlt
      by_cases hok : okB l[k] = true
      · have h2 : 97 ≤ (l[k].toNat : Int) ∧ (l[k].toNat : Int) ≤ 100 := by unfold okB at hok; simp at hok; omega
        obtain ⟨h2a, h2b⟩ := h2
        have hn := all_take_succ l k hlt hall hok
        have hd := decode1 l k hlt (by omega)
        go_wp2
        go_roundw
        case rel => exact ⟨k + 1, by omega, rfl, hn⟩
        case measure => simp; omega
      · have hv := vt_no l k hlt (by simpa using hok)
        have Hv := Lib.hid hv
        clear hv
        unfold okB at hok; simp at hok
        go_wp2
        all_goals go_ret
        all_goals exact ⟨ret_bool (Hv.out).symm, bel_iter w (Below.refl _ _) (Nat.le_refl _) _ _⟩
    · have hnx : ∀ ty, (Instr.next (.pointer (some ⟨w.heap.size, 0, none⟩)) true ty).run Try.prog (w.iter ⟨l.toArray⟩ k) = _ := fun ty => run_next_end w ⟨l.toArray⟩ k ty hlt
      have hv := vt_all l k hlt hall
      have Hv := Lib.hid hv
      clear hv
      go_wp2
      go_ret
      exact ⟨ret_bool (Hv.out).symm, hbi⟩
set_option maxHeartbeats 400000 in
theorem has_any (s u : List UInt8) (w : World) (hs : s.length ≤ 140737488351232) (hu : u.length ≤ 140737488351232) :
    Calls Try.prog 106 #[.string ⟨s.toArray⟩, .string ⟨u.toArray⟩] w fun e w' => e = .returned (.bool (hasL s u)) ∧ w = w' := by
  go_enter Try.func106, Try.ntmps106
  go_wp2
  go_loop [5] (fun i => ∃ k : Nat, k ≤ s.length + 1 ∧ i = .int .i64 k ∧ ∀ j, j < k → (s.drop j).take u.length ≠ u) (fun i => s.length + 1 - (intOf i).toNat)
  case atStart => exact ⟨0, Nat.zero_le _, rfl, by simp⟩
  case round =>
    obtain ⟨k, hk, rfl, hno⟩ := hrel
    have Hno := Lib.hid hno
    clear hno
    by_cases hlt : k + u.length ≤ s.length
    · by_cases he : (s.drop k).take u.length = u
      · have hv := hasL_iff.2 (infix_iff.2 ⟨k, hlt, he⟩)
        have Hv := Lib.hid hv
        clear hv
        have he' : ((s.drop k).take u.length == u) = true := by simp [he]
        clear he
        go_wp2
        go_ret
        exact ⟨ret_bool (Hv.out).symm, rfl⟩
      · have he' : ((s.drop k).take u.length == u) = false := by simpa using he
        have He := Lib.hid he
        clear he
        go_wp2
        go_round
        case rel => exact ⟨k + 1, by omega, by go_num, fun j hj => by
          rcases Nat.lt_or_ge j k with h | h
          · exact Hno.out j h
          · obtain rfl : j = k := by omega
            exact He.out⟩
        case measure => simp [intOf]; omega
    · have hv : hasL s u = false := hasL_false_iff.2 fun j hj => Hno.out j (by omega)
      have Hv := Lib.hid hv
      clear hv
      go_wp2
      go_ret
      exact ⟨ret_bool (Hv.out).symm, rfl⟩
theorem contains_eq (s u : List UInt8) : Lib.contains s u = hasL s u := by
  unfold Lib.contains
  rcases Lib.index_spec s u with ⟨h, hn⟩ | ⟨i, h, hi, ho, _⟩
  · rw [h]
    symm
    rw [show decide ((0 : Int) ≤ -1) = false from rfl, hasL_false_iff]
    intro k hk he
    have h1 := hn k (by omega)
    unfold Lib.occAt at h1
    rw [← Bool.not_eq_true, List.isPrefixOf_iff_prefix] at h1
    exact h1 (he ▸ List.take_prefix _ _)
  · rw [h]
    symm
    rw [show decide ((0 : Int) ≤ (i : Int)) = true by simp, hasL_iff]
    unfold Lib.occAt at ho
    rw [List.isPrefixOf_iff_prefix] at ho
    exact ho.isInfix.trans (List.drop_suffix _ _).isInfix
/-- What the library's own variable holds: whatever number. -/
def Vr (w : World) : Prop := 0 < w.heap.size ∧ ∃ m, w.cell? ⟨0, 0, none⟩ = some (.int .i64 m)
theorem Vr.below {w w' : World} {B : Nat} (h : Vr w) (hb : Below B w w') (hB : 0 < B) : Vr w' := by
  obtain ⟨h0, m, hm⟩ := h
  exact ⟨Nat.lt_of_lt_of_le h0 hb.size, m, (hb.cell (p := ⟨0, 0, none⟩) hB).trans hm⟩
theorem Vr.keep {w w' : World} (h : Vr w) (hb : Below w.heap.size w w') : Vr w' := h.below hb h.1
theorem vr_of_shaped (w : World) (h : w.ShapedOpen Try.prog) : Vr w := by
  obtain ⟨m, hm⟩ := Try.laysM144.s1_3 w h
  exact ⟨World.block_lt_of_cell? w _ hm, m, hm⟩
theorem Vr.pos {w : World} (h : Vr w) : 0 < w.heap.size := h.1
theorem Contains_any (s u : List UInt8) (w : World) (hs : s.length < 4294967281) (hv : Vr w) :
    Calls Try.prog 92 #[.string ⟨s.toArray⟩, .string ⟨u.toArray⟩] w fun e w' => e = .returned (.bool (hasL s u)) ∧ w = w' := by
  obtain ⟨_, m, hm⟩ := hv
  refine (Try.strings_Contains ⟨s.toArray⟩ ⟨u.toArray⟩ m w hs hm).mono fun e w' ⟨h1, h2⟩ => ⟨?_, h2.symm⟩
  rw [h1]
  exact ret_bool (by simpa using contains_eq s u)
/-- A text at an index within, as an operation. -/
theorem run_ix (s : List UInt8) (x : Int) (k : Nat) (hx : x = (k : Int)) (hk : k < s.length) (w : World) :
    (Instr.index 9 (.string ⟨s.toArray⟩) (.int .i64 x)).run Try.prog w = .ok (.int .u8 ((s[k]'hk).toNat)) w := by
  subst hx
  rw [run_index_string (P := Try.prog) w 9 ⟨s.toArray⟩ .i64 (k : Int) Try.underlying9]
  have h : (0 : Int) ≤ (k : Int) ∧ (k : Int) < ((⟨s.toArray⟩ : ByteArray).size : Int) := by
    constructor
    · omega
    · show (k : Int) < (s.length : Int); omega
  rw [dif_pos h]
  rfl
end Go.Proofs.Ytfbmcfdmffpfmaa
