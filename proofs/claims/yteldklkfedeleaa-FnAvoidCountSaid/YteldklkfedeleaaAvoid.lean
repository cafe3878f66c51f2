/-
  Contracts of AvoidCount, of the program and of the reference: both count the texts that have none of the words.
-/
import Derived.Test.YteldklkfedeleaaWords
import Derived.Lib.OthersKept
import Derived.Laws.EntriesVeiled
import Derived.Outline
namespace Go.Proofs.Yteldklkfedeleaa
open Go.RowKit
set_option linter.unusedVariables false
set_option linter.unusedSimpArgs false

/-! ### plain words -/
def L4 : List UInt8 := [97, 98, 99, 100]
def clean (ws : List (List UInt8)) (s : List UInt8) : Bool := !ws.any (fun w => hasL s w)
def cnt (ws : List (List UInt8)) (k : Nat) : Nat → List UInt8 → Nat
  | 0, s => if clean ws s then 1 else 0
  | m + 1, s => if clean ws s then ((L4.take k).map fun c => cnt ws k m (s ++ [c])).sum else 0
theorem cnt_le (ws : List (List UInt8)) (k : Nat) (hk : k ≤ 4) (m : Nat) : ∀ s, cnt ws k m s ≤ k ^ m := by
  induction m with
  | zero => intro s; rw [cnt]; split <;> simp
  | succ m ih =>
    intro s
    rw [cnt]
    split
    · have h : ∀ l : List UInt8, (l.map fun c => cnt ws k m (s ++ [c])).sum ≤ l.length * k ^ m := by
        intro l
        induction l with
        | nil => simp
        | cons a l ihl =>
          rw [List.map_cons, List.sum_cons, List.length_cons, Nat.add_mul, Nat.one_mul]
          have := ih (s ++ [a])
          omega
      refine Nat.le_trans (h _) ?_
      rw [Nat.pow_succ, Nat.mul_comm]
      exact Nat.mul_le_mul_left _ (by simp [L4]; omega)
    · exact Nat.zero_le _
theorem pow_le {k m : Nat} (hk : k ≤ 4) (hm : m ≤ 6) : k ^ m ≤ 4096 := by
  refine Nat.le_trans (Nat.pow_le_pow_left hk m) ?_
  exact Nat.le_trans (Nat.pow_le_pow_right (by omega) hm) (by decide)
theorem cnt_small (ws : List (List UInt8)) {k m : Nat} (hk : k ≤ 4) (hm : m ≤ 6) (s : List UInt8) : cnt ws k m s ≤ 4096 := Nat.le_trans (cnt_le ws k hk m s) (pow_le hk hm)
def cntTo (ws : List (List UInt8)) (k m : Nat) (s : List UInt8) (j : Nat) : Nat := ((L4.take j).map fun c => cnt ws k m (s ++ [c])).sum
theorem cntTo_succ (ws : List (List UInt8)) (k m : Nat) (s : List UInt8) (j : Nat) (hj : j < 4) : cntTo ws k m s (j + 1) = cntTo ws k m s j + cnt ws k m (s ++ [L4[j]'hj]) := by
  unfold cntTo
  rw [List.take_succ_eq_append_getElem (by exact hj), List.map_append, List.sum_append]
  simp
theorem cntTo_small (ws : List (List UInt8)) {k m : Nat} (hk : k ≤ 4) (hm : m ≤ 6) (s : List UInt8) (j : Nat) : cntTo ws k m s j ≤ 16384 := by
  have h : ∀ l : List UInt8, (l.map fun c => cnt ws k m (s ++ [c])).sum ≤ l.length * 4096 := by
    intro l
    induction l with
    | nil => simp
    | cons a l ihl =>
      rw [List.map_cons, List.sum_cons, List.length_cons, Nat.add_mul, Nat.one_mul]
      have := cnt_small ws hk hm (s ++ [a])
      omega
  refine Nat.le_trans (h _) ?_
  have : (L4.take j).length ≤ 4 := by simp [L4]; omega
  omega
theorem L4_piece (j : Nat) (hj : j < 4) : (L4.drop j).take 1 = [L4[j]'hj] := by
  rw [List.drop_eq_getElem_cons (by exact hj)]; rfl
theorem clean_no {ws : List (List UInt8)} {s x : List UInt8} {k : Nat} (hx : ws[k]? = some x) (h : hasL s x = true) : clean ws s = false := by
  unfold clean
  rw [Bool.not_eq_false']
  exact List.any_eq_true.2 ⟨x, List.mem_of_getElem? hx, h⟩

/-! ### the reference -/
set_option maxHeartbeats 400000 in
theorem avoids_any (s : List UInt8) (A : Option Addr) (n c : Nat) (ws : List (List UInt8)) (w : World) (B : Nat) (hr : Rd w B A n c (ws.map S)) (hl : Len47 ws) (hs : s.length ≤ 140737488351232) :
    Calls Try.prog 38 #[.string ⟨s.toArray⟩, .slice A n c] w fun e w' => e = .returned (.bool (clean ws s)) ∧ w = w' := by
  have hm := hr.2.2.1
  have hnc := hr.2.1
  unfold maxLen at hm
  go_enter Try.func38, Try.ntmps38
  go_wp2
  go_loop [5] (fun i => ∃ k : Nat, k ≤ n ∧ i = .int .i64 k ∧ (ws.take k).any (fun x => hasL s x) = false) (fun i => n - (intOf i).toNat)
  case atStart => exact ⟨0, Nat.zero_le _, rfl, by simp⟩
  case round =>
    obtain ⟨k, hk, rfl, hall⟩ := hrel
    have Hall := Lib.hid hall
    clear hall
    by_cases hlt : k < n
    · obtain ⟨b, o, x, rfl, hb, hx, hc⟩ := hr.str hlt
      have hxl := hl.at_ hx
      have Hx := Lib.hid hx
      clear hx
      cases hh : hasL s x with
      | true =>
        have Hv := Lib.hid (clean_no Hx.out hh)
        have Hh := Lib.hid hh
        clear hh
        go_wp2_with (go_at_call 34; refine (has_any _ _ _ hs hxl).mono ?_; rintro e w' ⟨rfl, rfl⟩; rw [Hh.out])
        go_ret
        exact ⟨ret_bool (Hv.out).symm, rfl⟩
      | false =>
        have Hh := Lib.hid hh
        clear hh
        go_wp2_with (go_at_call 34; refine (has_any _ _ _ hs hxl).mono ?_; rintro e w' ⟨rfl, rfl⟩; rw [Hh.out])
        go_round
        case rel => exact ⟨k + 1, by omega, by go_num, any_take_succ Hx.out Hall.out Hh.out⟩
        case measure => simp [intOf]; omega
    · have Hv := Lib.hid (show clean ws s = true by unfold clean; rw [any_all hr.slen hlt Hall.out]; rfl)
      go_wp2
      go_ret
      exact ⟨ret_bool (Hv.out).symm, rfl⟩
set_option maxHeartbeats 800000 in
theorem avoidFrom_any (n k : Nat) (hn : n ≤ 6) (hk : k ≤ 4) (A : Option Addr) (nn c : Nat) (ws : List (List UInt8)) (B : Nat) (hl : Len47 ws) (m : Nat) :
    ∀ (s : List UInt8) (w : World), s.length + m = n → Rd w B A nn c (ws.map S) →
    Calls Try.prog 28 #[.string ⟨s.toArray⟩, .int .i64 n, .int .i64 k, .slice A nn c] w fun e w' => e = .returned (.int .i64 (cnt ws k m s : Nat)) ∧ w = w' := by
  induction m with
  | zero =>
    intro s w hs hr
    have h1 : ((s.length : Int) == (n : Int)) = true := by simp; omega
    have Hs := Lib.hid hs
    have hsl : s.length ≤ 6 := by omega
    clear hs
    cases hc : clean ws s with
    | true =>
      have Hc := Lib.hid hc
      clear hc
      have Hv := Lib.hid (show cnt ws k 0 s = 1 by rw [cnt, Hc.out]; rfl)
      go_enter Try.func28, Try.ntmps28
      go_wp2_with (go_at_call 38; refine (avoids_any s A nn c ws _ B hr hl (by omega)).mono ?_; rintro e w' ⟨rfl, rfl⟩; rw [Hc.out])
      go_ret
      exact ⟨ret_int (by rw [Hv.out]; rfl), rfl⟩
    | false =>
      have Hc := Lib.hid hc
      clear hc
      have Hv := Lib.hid (show cnt ws k 0 s = 0 by rw [cnt, Hc.out]; rfl)
      go_enter Try.func28, Try.ntmps28
      go_wp2_with (go_at_call 38; refine (avoids_any s A nn c ws _ B hr hl (by omega)).mono ?_; rintro e w' ⟨rfl, rfl⟩; rw [Hc.out])
      go_ret
      exact ⟨ret_int (by rw [Hv.out]; rfl), rfl⟩
  | succ m ih =>
    intro s w hs hr
    have h1 : ((s.length : Int) == (n : Int)) = false := by simp; omega
    have hsl : s.length ≤ 6 := by omega
    have hm6 : m ≤ 6 := by omega
    have Hs := Lib.hid hs
    clear hs
    cases hc : clean ws s with
    | true =>
      have Hc := Lib.hid hc
      clear hc
      have Hv := Lib.hid (show cnt ws k (m + 1) s = cntTo ws k m s k by rw [cnt, Hc.out]; rfl)
      have Ih := Lib.hid ih
      clear ih
      go_enter Try.func28, Try.ntmps28
      go_wp2_with (go_at_call 38; refine (avoids_any s A nn c ws _ B hr hl (by omega)).mono ?_; rintro e w' ⟨rfl, rfl⟩; rw [Hc.out])
      go_loop [9, 10] (fun t x => ∃ j : Nat, j ≤ k ∧ x = .int .i64 j ∧ t = .int .i64 (cntTo ws k m s j : Nat)) (fun _ x => k - (intOf x).toNat)
      case atStart => exact ⟨0, Nat.zero_le _, rfl, rfl⟩
      case round =>
        obtain ⟨j, hj, rfl, rfl⟩ := hrel
        have hct := cntTo_small ws hk hm6 s j
        by_cases hjk : j < k
        · have hj4 : j < 4 := by omega
          have hp : (L4.drop j).take 1 = [L4[j]'hj4] := L4_piece j hj4
          have hp' : List.take 1 (List.drop j [97, 98, 99, 100]) = [L4[j]'hj4] := hp
          have hcs := cnt_small ws hk hm6 (s ++ [L4[j]'hj4])
          have Hst := Lib.hid (cntTo_succ ws k m s j hj4)
          go_wp2_with (go_at_call 28; refine (Ih.out (s ++ [L4[j]'hj4]) _ (by simp; have := Hs.out; omega) hr).mono ?_; rintro e w' ⟨rfl, rfl⟩)
          go_round
          case rel => exact ⟨j + 1, by omega, by go_num, by rw [Hst.out]; go_num⟩
          case measure => simp [intOf]; omega
        · obtain rfl : j = k := by omega
          go_wp2_with fail
          go_ret
          exact ⟨ret_int (by rw [Hv.out]), rfl⟩
    | false =>
      have Hc := Lib.hid hc
      clear hc
      have Hv := Lib.hid (show cnt ws k (m + 1) s = 0 by rw [cnt, Hc.out]; rfl)
      go_enter Try.func28, Try.ntmps28
      go_wp2_with (go_at_call 38; refine (avoids_any s A nn c ws _ B hr hl (by omega)).mono ?_; rintro e w' ⟨rfl, rfl⟩; rw [Hc.out])
      go_ret
      exact ⟨ret_int (by rw [Hv.out]; rfl), rfl⟩

/-! ### the program -/
def sufL (s u : List UInt8) : Bool := u.isSuffixOf s
theorem HasSuffix_any (s u : List UInt8) (w : World) (hs : s.length ≤ 140737488351232) :
    Calls Try.prog 26 #[.string ⟨s.toArray⟩, .string ⟨u.toArray⟩] w fun e w' => e = .returned (.bool (sufL s u)) ∧ w = w' := by
  refine (Try.strings_HasSuffix ⟨s.toArray⟩ ⟨u.toArray⟩ w (by show s.length ≤ _; omega)).mono fun e w' ⟨h1, h2⟩ => ⟨?_, h2.symm⟩
  rw [h1]
  rfl
/-- All beginnings of s but s itself have none of the words. -/
def pclean (ws : List (List UInt8)) (s : List UInt8) : Prop := ∀ t c, s = t ++ [c] → clean ws t = true
theorem hasL_snoc (t : List UInt8) (c : UInt8) (u : List UInt8) (hu : u ≠ []) : hasL (t ++ [c]) u = (hasL t u || sufL (t ++ [c]) u) := by
  rw [Bool.eq_iff_iff, Bool.or_eq_true, hasL_iff, hasL_iff]
  unfold sufL
  rw [List.isSuffixOf_iff_suffix]
  constructor
  · rintro ⟨a, b, h⟩
    rcases List.eq_nil_or_concat b with rfl | ⟨b', x, rfl⟩
    · right
      exact ⟨a, by simpa using h⟩
    · left
      rw [List.concat_eq_append, ← List.append_assoc] at h
      have := List.append_inj' h rfl
      exact ⟨a, b', this.1⟩
  · rintro (⟨a, b, h⟩ | ⟨a, h⟩)
    · exact ⟨a, b ++ [c], by rw [← h]; simp⟩
    · exact ⟨a, [], by rw [← h]; simp⟩
theorem any_suf {ws : List (List UInt8)} {s : List UInt8} (hne : ∀ x ∈ ws, x ≠ []) (hp : pclean ws s) : ws.any (fun u => sufL s u) = !clean ws s := by
  rcases List.eq_nil_or_concat s with rfl | ⟨t, c, rfl⟩
  · unfold clean
    rw [Bool.not_not]
    rw [Bool.eq_iff_iff, List.any_eq_true, List.any_eq_true]
    have h1 : ∀ u : List UInt8, sufL [] u = true ↔ u = [] := by intro u; unfold sufL; rw [List.isSuffixOf_iff_suffix]; simp
    have h2 : ∀ u : List UInt8, hasL [] u = true ↔ u = [] := by intro u; rw [hasL_iff]; simp
    constructor
    · rintro ⟨u, hu, h⟩; exact absurd ((h1 u).1 h) (hne u hu)
    · rintro ⟨u, hu, h⟩; exact absurd ((h2 u).1 h) (hne u hu)
  · rw [List.concat_eq_append] at hp ⊢
    have hc := hp t c rfl
    unfold clean at hc ⊢
    rw [Bool.not_not]
    rw [Bool.not_eq_true'] at hc
    rw [List.any_eq_false] at hc
    rw [Bool.eq_iff_iff, List.any_eq_true, List.any_eq_true]
    constructor
    · rintro ⟨u, hu, h⟩
      exact ⟨u, hu, by rw [hasL_snoc t c u (hne u hu), h]; simp⟩
    · rintro ⟨u, hu, h⟩
      rw [hasL_snoc t c u (hne u hu)] at h
      have := hc u hu
      simp only [Bool.not_eq_true] at this
      rw [this, Bool.false_or] at h
      exact ⟨u, hu, h⟩
theorem pclean_snoc {ws : List (List UInt8)} {s : List UInt8} (h : clean ws s = true) (c : UInt8) : pclean ws (s ++ [c]) := by
  intro t d e
  have := List.append_inj' e rfl
  rw [← this.1]
  exact h
set_option maxHeartbeats 400000 in
theorem avoid11_any (s u : List UInt8) (b : Nat) (w : World) (hs : s.length ≤ 1000) (hc : w.cell? ⟨b, 0, none⟩ = some (.string ⟨s.toArray⟩)) :
    Calls Try.prog 25 #[.string ⟨u.toArray⟩, .pointer (some ⟨b, 0, none⟩)] w (RetVal w (.bool (sufL s u))) := by
  go_enter Try.func25, Try.ntmps25
  go_wp2_with (go_at_call 26; refine (HasSuffix_any _ _ _ (by omega)).mono ?_; rintro e w' ⟨rfl, rfl⟩)
  go_ret
  exact ⟨rfl, Below.refl _ _⟩
theorem encode1 (c : UInt8) (hc : c.toNat < 128) : Utf8.encode (c.toNat : Int) = ⟨[c].toArray⟩ := by
  unfold Utf8.encode
  have hv : Utf8.valid (c.toNat : Int) = true := by unfold Utf8.valid; simp; omega
  simp only [hv, if_true, Int.toNat_natCast, if_pos hc]
  simp
theorem next4 {P : Program} (wr : World) (b k j : Nat) (hj : j < 4) (hjk : j < k) (hit : wr.heap[b]? = some (.stringIter ⟨(List.take k [97, 98, 99, 100]).toArray⟩ j)) (ty : TypeId) :
    (Instr.next (.pointer (some ⟨b, 0, none⟩)) true ty).run P wr = .ok (.tuple #[.bool true, .int .i64 j, .int .i32 ((L4[j]'hj).toNat)]) (wr.iterAt b ⟨(List.take k [97, 98, 99, 100]).toArray⟩ (j + 1)) := by
  have hl : j < (⟨(List.take k L4).toArray⟩ : ByteArray).size := by show j < (List.take k L4).length; rw [List.length_take]; show j < min k 4; omega
  have hg : ((⟨(List.take k L4).toArray⟩ : ByteArray)[j]'hl) = L4[j]'hj := by
    show (List.take k L4)[j]'_ = _
    exact List.getElem_take
  have h128 : ((⟨(List.take k L4).toArray⟩ : ByteArray)[j]'hl).toNat < 128 := by
    rw [hg]
    rcases (show j = 0 ∨ j = 1 ∨ j = 2 ∨ j = 3 by omega) with rfl | rfl | rfl | rfl <;> simp [L4]
  have := Lib.run_next_ascii_at (P := P) wr b ⟨(List.take k L4).toArray⟩ j ty hit hl h128
  rw [hg] at this
  exact this
theorem L4_small (j : Nat) (hj : j < 4) : (L4[j]'hj).toNat < 128 := by
  rcases (show j = 0 ∨ j = 1 ∨ j = 2 ∨ j = 3 by omega) with rfl | rfl | rfl | rfl <;> simp [L4]
/-- What the counting function has captured: the list, n, k, and itself. -/
structure Capt (w : World) (b1 b2 b3 b4 : Nat) (A : Option Addr) (nn c : Nat) (ws : List (List UInt8)) (n k : Nat) : Prop where
  c1 : w.cell? ⟨b1, 0, none⟩ = some (.slice A nn c)
  c2 : w.cell? ⟨b2, 0, none⟩ = some (.int .i64 n)
  c3 : w.cell? ⟨b3, 0, none⟩ = some (.int .i64 k)
  c4 : w.cell? ⟨b4, 0, none⟩ = some (.func (.func 23) #[] #[.pointer (some ⟨b1, 0, none⟩), .pointer (some ⟨b2, 0, none⟩), .pointer (some ⟨b3, 0, none⟩), .pointer (some ⟨b4, 0, none⟩)])
  rd : Rd w w.heap.size A nn c (ws.map S)
theorem Capt.keep {w w' : World} {b1 b2 b3 b4 : Nat} {A : Option Addr} {nn c : Nat} {ws : List (List UInt8)} {n k : Nat} (h : Capt w b1 b2 b3 b4 A nn c ws n k) (hb : Below w.heap.size w w') : Capt w' b1 b2 b3 b4 A nn c ws n k :=
  ⟨(hb.cell (World.block_lt_of_cell? w _ h.c1)).trans h.c1, (hb.cell (World.block_lt_of_cell? w _ h.c2)).trans h.c2, (hb.cell (World.block_lt_of_cell? w _ h.c3)).trans h.c3, (hb.cell (World.block_lt_of_cell? w _ h.c4)).trans h.c4, (h.rd.below hb).more hb.size⟩
set_option maxHeartbeats 1000000 in
theorem avoid1_any (n k : Nat) (hn : n ≤ 6) (hk : k ≤ 4) (b1 b2 b3 b4 : Nat) (A : Option Addr) (nn c : Nat) (ws : List (List UInt8)) (hne : ∀ x ∈ ws, x ≠ []) (m : Nat) :
    ∀ (s : List UInt8) (w : World), s.length + m = n → Capt w b1 b2 b3 b4 A nn c ws n k → pclean ws s →
    Calls Try.prog 23 #[.string ⟨s.toArray⟩, .pointer (some ⟨b1, 0, none⟩), .pointer (some ⟨b2, 0, none⟩), .pointer (some ⟨b3, 0, none⟩), .pointer (some ⟨b4, 0, none⟩)] w (RetVal w (.int .i64 (cnt ws k m s : Nat))) := by
  induction m with
  | zero =>
    intro s w hs hC hp
    have h1 : ((s.length : Int) == (n : Int)) = true := by simp; omega
    have hsl : s.length ≤ 6 := by omega
    have Hs := Lib.hid hs
    have hC1 := hC.keep ((Below.refl _ w).alloc (Nat.le_refl _) (.cells #[.string ⟨s.toArray⟩] 9))
    have cs : (w.alloc (.cells #[.string ⟨s.toArray⟩] 9)).cell? ⟨w.heap.size, 0, none⟩ = some (.string ⟨s.toArray⟩) := by
      rw [cell_of_row _ w.heap.size 0 _ _ (0, 0) (heap_alloc_new w _)]; rfl
    have hCF := Lib.hid (ContainsFuncS_any 25 #[.pointer (some ⟨w.heap.size, 0, none⟩)] (enters_of Try.func25 (by kernel_rfl) rfl) (fun u => sufL s u) A nn c ws _ hC1.rd
      (fun x hx W hb => avoid11_any s x w.heap.size W (by omega) ((hb.cell (p := ⟨w.heap.size, 0, none⟩) (by simp)).trans cs)))
    have Hany := Lib.hid (any_suf hne hp)
    obtain ⟨c1, c2, c3, c4, rd⟩ := hC1
    clear hs
    cases hc : clean ws s with
    | true =>
      have Hc := Lib.hid hc
      clear hc
      have Hv := Lib.hid (show cnt ws k 0 s = 1 by rw [cnt, Hc.out]; rfl)
      go_enter Try.func23, Try.ntmps23
      go_wp2_with fail
      refine hCF.out.mono ?_
      rintro e w1 ⟨rfl, hb1⟩
      rw [Hany.out, Hc.out]
      have cs1 := (hb1.cell (p := ⟨w.heap.size, 0, none⟩) (by simp)).trans cs
      have d2 := (hb1.cell (World.block_lt_of_cell? _ _ c2)).trans c2
      have hb : Below w.heap.size w w1 := ((Below.refl _ w).alloc (Nat.le_refl _) _).trans (hb1.mono (by simp))
      clear c1 c2 c3 c4 cs hb1
      go_wp2_with fail
      go_ret
      exact ⟨ret_int (by rw [Hv.out]; rfl), hb⟩
    | false =>
      have Hc := Lib.hid hc
      clear hc
      have Hv := Lib.hid (show cnt ws k 0 s = 0 by rw [cnt, Hc.out]; rfl)
      go_enter Try.func23, Try.ntmps23
      go_wp2_with fail
      refine hCF.out.mono ?_
      rintro e w1 ⟨rfl, hb1⟩
      rw [Hany.out, Hc.out]
      have hb : Below w.heap.size w w1 := ((Below.refl _ w).alloc (Nat.le_refl _) _).trans (hb1.mono (by simp))
      clear c1 c2 c3 c4 cs hb1
      go_wp2_with fail
      go_ret
      exact ⟨ret_int (by rw [Hv.out]; rfl), hb⟩
  | succ m ih =>
    intro s w hs hC hp
    have h1 : ((s.length : Int) == (n : Int)) = false := by simp; omega
    have hm6 : m ≤ 6 := by omega
    have Ih := Lib.hid ih
    clear ih
    have hsl : s.length ≤ 6 := by omega
    have Hs := Lib.hid hs
    have hC1 := hC.keep ((Below.refl _ w).alloc (Nat.le_refl _) (.cells #[.string ⟨s.toArray⟩] 9))
    have cs : (w.alloc (.cells #[.string ⟨s.toArray⟩] 9)).cell? ⟨w.heap.size, 0, none⟩ = some (.string ⟨s.toArray⟩) := by
      rw [cell_of_row _ w.heap.size 0 _ _ (0, 0) (heap_alloc_new w _)]; rfl
    have hCF := Lib.hid (ContainsFuncS_any 25 #[.pointer (some ⟨w.heap.size, 0, none⟩)] (enters_of Try.func25 (by kernel_rfl) rfl) (fun u => sufL s u) A nn c ws _ hC1.rd
      (fun x hx W hb => avoid11_any s x w.heap.size W (by omega) ((hb.cell (p := ⟨w.heap.size, 0, none⟩) (by simp)).trans cs)))
    have Hany := Lib.hid (any_suf hne hp)
    obtain ⟨c1, c2, c3, c4, rd⟩ := hC1
    clear hs
    cases hc : clean ws s with
    | true =>
      have Hpc := Lib.hid (pclean_snoc hc)
      have Hc := Lib.hid hc
      clear hc
      have Hv := Lib.hid (show cnt ws k (m + 1) s = cntTo ws k m s k by rw [cnt, Hc.out]; rfl)
      go_enter Try.func23, Try.ntmps23
      go_wp2_with fail
      refine hCF.out.mono ?_
      rintro e w1 ⟨rfl, hb1⟩
      rw [Hany.out, Hc.out]
      have cs1 := (hb1.cell (p := ⟨w.heap.size, 0, none⟩) (by simp)).trans cs
      have d2 := (hb1.cell (World.block_lt_of_cell? _ _ c2)).trans c2
      have d3 := (hb1.cell (World.block_lt_of_cell? _ _ c3)).trans c3
      have hb : Below w.heap.size w w1 := ((Below.refl _ w).alloc (Nat.le_refl _) _).trans (hb1.mono (by simp))
      have hC2 := hC.keep hb
      have hw1 : w.heap.size < w1.heap.size := by have := hb1.size; simp at this; omega
      clear c1 c2 c3 c4 cs hb1
      go_wp2_with fail
      go_loopw [7, 9] (fun t _ wr => ∃ j : Nat, j ≤ k ∧ t = .int .i64 (cntTo ws k m s j : Nat) ∧ wr.heap[w1.heap.size]? = some (.stringIter ⟨(List.take k [97, 98, 99, 100]).toArray⟩ j) ∧ Below w1.heap.size w1 wr)
        (fun _ _ wr => k - wr.iterPos w1.heap.size)
      case atStart => exact ⟨0, Nat.zero_le _, rfl, World.iter_heap _ _ _, bel_iter w1 (Below.refl _ _) (Nat.le_refl _) _ _⟩
      case round =>
        obtain ⟨j, hj, rfl, hit, hbr⟩ := hrel
        have hit' := Lib.hid hit
        have hct := cntTo_small ws hk hm6 s j
        by_cases hjk : j < k
        · have hj4 : j < 4 := by omega
          obtain ⟨c0, hc0⟩ : ∃ c0, c0 = L4[j]'hj4 := ⟨_, rfl⟩
          have hnx : ∀ ty, (Instr.next (.pointer (some ⟨w1.heap.size, 0, none⟩)) true ty).run Try.prog wr = .ok (.tuple #[.bool true, .int .i64 j, .int .i32 (c0.toNat)]) (wr.iterAt w1.heap.size ⟨(List.take k [97, 98, 99, 100]).toArray⟩ (j + 1)) := fun ty => by rw [hc0]; exact next4 wr w1.heap.size k j hj4 hjk hit ty
          have hen : Utf8.encode (c0.toNat : Int) = ⟨[c0].toArray⟩ := encode1 c0 (by rw [hc0]; exact L4_small j hj4)
          have Hc0 := Lib.hid hc0
          clear hc0
          have hbr2 : Below w1.heap.size w1 (wr.iterAt w1.heap.size ⟨(List.take k [97, 98, 99, 100]).toArray⟩ (j + 1)) := Lib.below_iterAt hbr (Nat.le_refl _) _ _
          have hC3 := hC2.keep hbr2
          have hs3 : (wr.iterAt w1.heap.size ⟨(List.take k [97, 98, 99, 100]).toArray⟩ (j + 1)).cell? ⟨w.heap.size, 0, none⟩ = some (.string ⟨s.toArray⟩) := (hbr2.cell (p := ⟨w.heap.size, 0, none⟩) hw1).trans cs1
          have hI := Lib.hid (Ih.out (s ++ [c0]) _ (by simp; have := Hs.out; omega) hC3 (Hpc.out c0))
          have hcs := cnt_small ws hk hm6 (s ++ [c0])
          have Hst := Lib.hid (cntTo_succ ws k m s j hj4)
          have hit2 := Lib.hid (Lib.iterAt_heap wr w1.heap.size ⟨(List.take k [97, 98, 99, 100]).toArray⟩ j (j + 1) hit)
          have hlt2 : w1.heap.size < (wr.iterAt w1.heap.size ⟨(List.take k [97, 98, 99, 100]).toArray⟩ (j + 1)).heap.size := (Array.getElem?_eq_some_iff.1 hit2.out).1
          obtain ⟨e1, e2, e3, e4, erd⟩ := hC3
          clear hit d2 d3 cs1
          go_wp2_with fail
          refine hI.out.mono ?_
          rintro e w5 ⟨rfl, hb5⟩
          have hit5 := (hb5.block w1.heap.size hlt2).trans hit2.out
          have hbr5 : Below w1.heap.size w1 w5 := hbr2.trans (hb5.mono (by omega))
          have ip0 := iterPos_of hit'.out
          have ip5 := iterPos_of hit5
          have Hit5 := Lib.hid hit5
          have Ip0 := Lib.hid ip0
          have Ip5 := Lib.hid ip5
          clear hit5 ip0 ip5 e1 e2 e3 e4 hs3 hnx hen
          go_wp2_with fail
          go_roundw
          case rel => exact ⟨j + 1, by omega, by rw [Hst.out, ← Hc0.out]; go_num, Hit5.out, hbr5⟩
          case measure => rw [Ip0.out, Ip5.out]; omega
        · obtain rfl : j = k := by omega
          have hnx : ∀ ty, (Instr.next (.pointer (some ⟨w1.heap.size, 0, none⟩)) true ty).run Try.prog wr = _ := fun ty => Lib.run_next_end_at wr w1.heap.size _ j ty hit (by show ¬ j < (List.take j ([97, 98, 99, 100] : List UInt8)).length; rw [List.length_take]; omega)
          clear hit
          go_wp2_with fail
          go_ret
          exact ⟨ret_int (by rw [Hv.out]), hb.trans (hbr.mono (by omega))⟩
    | false =>
      have Hc := Lib.hid hc
      clear hc
      have Hv := Lib.hid (show cnt ws k (m + 1) s = 0 by rw [cnt, Hc.out]; rfl)
      go_enter Try.func23, Try.ntmps23
      go_wp2_with fail
      refine hCF.out.mono ?_
      rintro e w1 ⟨rfl, hb1⟩
      rw [Hany.out, Hc.out]
      have hb : Below w.heap.size w w1 := ((Below.refl _ w).alloc (Nat.le_refl _) _).trans (hb1.mono (by simp))
      clear c1 c2 c3 c4 cs hb1
      go_wp2_with fail
      go_ret
      exact ⟨ret_int (by rw [Hv.out]; rfl), hb⟩

/-! ### AvoidCount -/
def avc (n k : Int) (ws : List (List UInt8)) : Int := if inR n 0 6 && inR k 1 4 && vw ws then (cnt ws k.toNat n.toNat [] : Nat) else -1
theorem avc_no1 {n k : Int} {ws : List (List UInt8)} (h : inR n 0 6 = false) : avc n k ws = -1 := by unfold avc; rw [h]; rfl
theorem avc_no2 {n k : Int} {ws : List (List UInt8)} (h : inR k 1 4 = false) : avc n k ws = -1 := by unfold avc; rw [h]; simp
theorem avc_no3 {n k : Int} {ws : List (List UInt8)} (h : vw ws = false) : avc n k ws = -1 := by unfold avc; rw [h]; simp
theorem avc_yes {n k : Nat} {ws : List (List UInt8)} (h1 : n ≤ 6) (h2 : 1 ≤ k) (h3 : k ≤ 4) (h : vw ws = true) : avc n k ws = (cnt ws k n [] : Nat) := by
  unfold avc
  rw [inR_eq_true (n := n) (by omega), inR_eq_true (n := k) (by omega), h]
  simp
set_option maxHeartbeats 800000 in
theorem specAvoidCount_any (n k : Int) (A : Option Addr) (nn c : Nat) (ws : List (List UInt8)) (w : World) (hr : Rd w w.heap.size A nn c (ws.map S)) (hl : Len47 ws) :
    Calls Try.prog 12 #[.int .i64 n, .int .i64 k, .slice A nn c] w fun e w' => e = .returned (.int .i64 (avc n k ws)) ∧ w = w' := by
  cases h1 : inR n 0 6 with
  | false =>
    have Hv := Lib.hid (avc_no1 (k := k) (ws := ws) h1)
    have H1 := Lib.hid h1
    clear h1
    go_enter Try.func12, Try.ntmps12
    go_wp2_with fail
    refine (inRange_any _ _ _ _).mono ?_
    rintro e w' ⟨rfl, rfl⟩
    rw [H1.out]
    go_wp2_with fail
    go_ret
    exact ⟨ret_int (Hv.out).symm, rfl⟩
  | true =>
    have hb1 := inR_true h1
    obtain ⟨n, rfl⟩ := Int.eq_ofNat_of_zero_le hb1.1
    have hn6 : n ≤ 6 := by omega
    have H1 := Lib.hid h1
    clear h1
    cases h2 : inR k 1 4 with
    | false =>
      have Hv := Lib.hid (avc_no2 (n := n) (ws := ws) h2)
      have H2 := Lib.hid h2
      clear h2
      go_enter Try.func12, Try.ntmps12
      go_wp2_with fail
      refine (inRange_any _ _ _ _).mono ?_
      rintro e w' ⟨rfl, rfl⟩
      rw [H1.out]
      go_wp2_with fail
      refine (inRange_any _ _ _ _).mono ?_
      rintro e w' ⟨rfl, rfl⟩
      rw [H2.out]
      go_wp2_with fail
      go_ret
      exact ⟨ret_int (Hv.out).symm, rfl⟩
    | true =>
      have hb2 := inR_true h2
      obtain ⟨k, rfl⟩ := Int.eq_ofNat_of_zero_le (show 0 ≤ k by omega)
      have hk1 : 1 ≤ k := by omega
      have hk4 : k ≤ 4 := by omega
      have H2 := Lib.hid h2
      clear h2 hb1 hb2
      cases h3 : vw ws with
      | false =>
        have Hv := Lib.hid (avc_no3 (n := n) (k := k) h3)
        have H3 := Lib.hid h3
        clear h3
        go_enter Try.func12, Try.ntmps12
        go_wp2_with fail
        refine (inRange_any _ _ _ _).mono ?_
        rintro e w' ⟨rfl, rfl⟩
        rw [H1.out]
        go_wp2_with fail
        refine (inRange_any _ _ _ _).mono ?_
        rintro e w' ⟨rfl, rfl⟩
        rw [H2.out]
        go_wp2_with fail
        refine (validWords_any A nn c ws _ _ hr hl).mono ?_
        rintro e w' ⟨rfl, rfl⟩
        rw [H3.out]
        go_wp2_with fail
        go_ret
        exact ⟨ret_int (Hv.out).symm, rfl⟩
      | true =>
        have Hv := Lib.hid (avc_yes hn6 hk1 hk4 h3)
        have H3 := Lib.hid h3
        clear h3
        go_enter Try.func12, Try.ntmps12
        go_wp2_with fail
        refine (inRange_any _ _ _ _).mono ?_
        rintro e w' ⟨rfl, rfl⟩
        rw [H1.out]
        go_wp2_with fail
        refine (inRange_any _ _ _ _).mono ?_
        rintro e w' ⟨rfl, rfl⟩
        rw [H2.out]
        go_wp2_with fail
        refine (validWords_any A nn c ws _ _ hr hl).mono ?_
        rintro e w' ⟨rfl, rfl⟩
        rw [H3.out]
        go_wp2_with fail
        refine (avoidFrom_any n k hn6 hk4 A nn c ws _ hl n [] _ (by simp) hr).mono ?_
        rintro e w' ⟨rfl, rfl⟩
        go_wp2_with fail
        go_ret
        exact ⟨ret_int (Hv.out).symm, rfl⟩
set_option maxHeartbeats 800000 in
theorem AvoidCount_any (n k : Int) (A : Option Addr) (nn c : Nat) (ws : List (List UInt8)) (w : World) (hr : Rd w w.heap.size A nn c (ws.map S)) (hl : Len47 ws) :
    Calls Try.prog 11 #[.int .i64 n, .int .i64 k, .slice A nn c] w (RetVal w (.int .i64 (avc n k ws))) := by
  have hb3 : Below w.heap.size w (((w.alloc (.cells #[.int .i64 n] 3)).alloc (.cells #[.int .i64 k] 3)).alloc (.cells #[.slice A nn c] 23)) :=
    (((Below.refl _ w).alloc (Nat.le_refl _) _).alloc (by simp) _).alloc (by simp; omega) _
  cases h1 : inR n 0 6 with
  | false =>
    have Hv := Lib.hid (avc_no1 (k := k) (ws := ws) h1)
    have H1 := Lib.hid h1
    clear h1
    go_enter Try.func11, Try.ntmps11
    go_wp2_with fail
    refine (within_any _ _ _ _).mono ?_
    rintro e w' ⟨rfl, rfl⟩
    rw [H1.out]
    go_wp2_with fail
    go_ret
    exact ⟨ret_int (Hv.out).symm, hb3⟩
  | true =>
    have hb1 := inR_true h1
    obtain ⟨n, rfl⟩ := Int.eq_ofNat_of_zero_le hb1.1
    have hn6 : n ≤ 6 := by omega
    have H1 := Lib.hid h1
    clear h1
    cases h2 : inR k 1 4 with
    | false =>
      have Hv := Lib.hid (avc_no2 (n := n) (ws := ws) h2)
      have H2 := Lib.hid h2
      clear h2
      go_enter Try.func11, Try.ntmps11
      go_wp2_with fail
      refine (within_any _ _ _ _).mono ?_
      rintro e w' ⟨rfl, rfl⟩
      rw [H1.out]
      go_wp2_with fail
      refine (within_any _ _ _ _).mono ?_
      rintro e w' ⟨rfl, rfl⟩
      rw [H2.out]
      go_wp2_with fail
      go_ret
      exact ⟨ret_int (Hv.out).symm, hb3⟩
    | true =>
      have hb2 := inR_true h2
      obtain ⟨k, rfl⟩ := Int.eq_ofNat_of_zero_le (show 0 ≤ k by omega)
      have hk1 : 1 ≤ k := by omega
      have hk4 : k ≤ 4 := by omega
      have H2 := Lib.hid h2
      clear h2 hb1 hb2
      have hr3 := (hr.below hb3).more hb3.size
      cases h3 : vw ws with
      | false =>
        have Hv := Lib.hid (avc_no3 (n := n) (k := k) h3)
        have H3 := Lib.hid h3
        clear h3
        go_enter Try.func11, Try.ntmps11
        go_wp2_with fail
        refine (within_any _ _ _ _).mono ?_
        rintro e w' ⟨rfl, rfl⟩
        rw [H1.out]
        go_wp2_with fail
        refine (within_any _ _ _ _).mono ?_
        rintro e w' ⟨rfl, rfl⟩
        rw [H2.out]
        go_wp2_with fail
        refine (wordsOk_any A nn c ws _ hr3 hl).mono ?_
        rintro e w5 ⟨rfl, hb5⟩
        rw [H3.out]
        go_wp2_with fail
        go_ret
        exact ⟨ret_int (Hv.out).symm, hb3.trans (hb5.mono hb3.size)⟩
      | true =>
        have hne : ∀ x ∈ ws, x ≠ [] := fun x hx h => by
          have := wOk_len (vw_all' h3 x hx)
          rw [h] at this
          simp at this
        have Hv := Lib.hid (avc_yes hn6 hk1 hk4 h3)
        have H3 := Lib.hid h3
        clear h3
        go_enter Try.func11, Try.ntmps11
        go_wp2_with fail
        refine (within_any _ _ _ _).mono ?_
        rintro e w' ⟨rfl, rfl⟩
        rw [H1.out]
        go_wp2_with fail
        refine (within_any _ _ _ _).mono ?_
        rintro e w' ⟨rfl, rfl⟩
        rw [H2.out]
        go_wp2_with fail
        refine (wordsOk_any A nn c ws _ hr3 hl).mono ?_
        rintro e w5 ⟨rfl, hb5⟩
        rw [H3.out]
        have hs5 : w.heap.size + 1 + 1 < w5.heap.size := by have := hb5.size; simp at this; omega
        have k1 : w5.cell? ⟨w.heap.size + 1 + 1, 0, none⟩ = some (.slice A nn c) := (hb5.cell (p := ⟨w.heap.size + 1 + 1, 0, none⟩) (by simp)).trans (by
          rw [show w.heap.size + 1 + 1 = ((w.alloc (.cells #[.int .i64 n] 3)).alloc (.cells #[.int .i64 k] 3)).heap.size by simp, cell_of_row _ _ 0 _ _ (0, 0) (heap_alloc_new _ _)]; rfl)
        have k2 : w5.cell? ⟨w.heap.size, 0, none⟩ = some (.int .i64 n) := (hb5.cell (p := ⟨w.heap.size, 0, none⟩) (by simp; omega)).trans (by
          rw [World.cell?_alloc_lt _ _ _ (by simp; omega), World.cell?_alloc_lt _ _ _ (by simp), cell_of_row _ _ 0 _ _ (0, 0) (heap_alloc_new _ _)]; rfl)
        have k3 : w5.cell? ⟨w.heap.size + 1, 0, none⟩ = some (.int .i64 k) := (hb5.cell (p := ⟨w.heap.size + 1, 0, none⟩) (by simp)).trans (by
          rw [World.cell?_alloc_lt _ _ _ (by simp), show w.heap.size + 1 = (w.alloc (.cells #[.int .i64 n] 3)).heap.size by simp, cell_of_row _ _ 0 _ _ (0, 0) (heap_alloc_new _ _)]; rfl)
        have hb35 := hb3.trans (hb5.mono hb3.size)
        go_wp2_with fail
        refine (avoid1_any n k hn6 hk4 (w.heap.size + 1 + 1) w.heap.size (w.heap.size + 1) w5.heap.size A nn c ws hne n [] _ (by simp) ⟨?_, ?_, ?_, ?_, ?_⟩ ?_).mono ?_
        · exact (World.cell?_alloc_lt _ _ _ (by exact hs5)).trans k1
        · exact (World.cell?_alloc_lt _ _ _ (by show w.heap.size < _; omega)).trans k2
        · exact (World.cell?_alloc_lt _ _ _ (by show w.heap.size + 1 < _; omega)).trans k3
        · rw [cell_of_row _ _ 0 _ _ (0, 0) (heap_alloc_new _ _)]; rfl
        · exact ((hr.below hb35).alloc hb35.size _).more (by simp; omega)
        · intro t d e
          simp at e
        · rintro e w6 ⟨rfl, hb6⟩
          go_wp2_with fail
          go_ret
          exact ⟨ret_int (Hv.out).symm, (hb35.alloc hb35.size _).trans (hb6.mono (by simp; omega))⟩

/-! ### plain laws -/
theorem cnt_step (ws : List (List UInt8)) (k : Nat) (hk : k ≤ 4) (m : Nat) : ∀ s, cnt ws k (m + 1) s ≤ k * cnt ws k m s := by
  induction m with
  | zero =>
    intro s
    rw [cnt, cnt]
    split
    · have h : ∀ l : List UInt8, (l.map fun c => cnt ws k 0 (s ++ [c])).sum ≤ l.length := by
        intro l
        induction l with
        | nil => simp
        | cons a l ihl =>
          rw [List.map_cons, List.sum_cons, List.length_cons]
          have : cnt ws k 0 (s ++ [a]) ≤ 1 := by rw [cnt]; split <;> omega
          omega
      refine Nat.le_trans (h _) ?_
      simp [L4]
      omega
    · omega
  | succ m ih =>
    intro s
    rw [cnt]
    split
    · next hc =>
      have h : ∀ l : List UInt8, (l.map fun c => cnt ws k (m + 1) (s ++ [c])).sum ≤ k * (l.map fun c => cnt ws k m (s ++ [c])).sum := by
        intro l
        induction l with
        | nil => simp
        | cons a l ihl =>
          rw [List.map_cons, List.sum_cons, List.map_cons, List.sum_cons, Nat.mul_add]
          have := ih (s ++ [a])
          omega
      refine Nat.le_trans (h _) ?_
      rw [cnt, if_pos hc]
      exact Nat.le_refl _
    · exact Nat.zero_le _
theorem cnt_none (k : Nat) (hk : k ≤ 4) (m : Nat) : ∀ s, cnt [] k m s = k ^ m := by
  induction m with
  | zero => intro s; simp [cnt, clean]
  | succ m ih =>
    intro s
    rw [cnt]
    have hc : clean [] s = true := by simp [clean]
    rw [if_pos hc]
    have h : ∀ l : List UInt8, (l.map fun c => cnt [] k m (s ++ [c])).sum = l.length * k ^ m := by
      intro l
      induction l with
      | nil => simp
      | cons a l ihl =>
        rw [List.map_cons, List.sum_cons, List.length_cons, Nat.add_mul, Nat.one_mul, ihl, ih]
        omega
    rw [h, Nat.pow_succ, Nat.mul_comm]
    congr 1
    simp [L4]
    omega
theorem cnt_fewer {ws vs : List (List UInt8)} (hsub : ∀ x ∈ vs, x ∈ ws) (k m : Nat) : ∀ s, cnt ws k m s ≤ cnt vs k m s := by
  have hcl : ∀ s, clean ws s = true → clean vs s = true := by
    intro s h
    unfold clean at h ⊢
    rw [Bool.not_eq_true'] at h ⊢
    rw [List.any_eq_false] at h ⊢
    exact fun x hx => h x (hsub x hx)
  induction m with
  | zero =>
    intro s
    rw [cnt, cnt]
    split
    · next h => rw [if_pos (hcl s h)]; exact Nat.le_refl _
    · exact Nat.zero_le _
  | succ m ih =>
    intro s
    rw [cnt, cnt]
    split
    · next h =>
      rw [if_pos (hcl s h)]
      have hh : ∀ l : List UInt8, (l.map fun c => cnt ws k m (s ++ [c])).sum ≤ (l.map fun c => cnt vs k m (s ++ [c])).sum := by
        intro l
        induction l with
        | nil => simp
        | cons a l ihl =>
          rw [List.map_cons, List.sum_cons, List.map_cons, List.sum_cons]
          have := ih (s ++ [a])
          omega
      exact hh _
    · exact Nat.zero_le _
end Go.Proofs.Yteldklkfedeleaa
