/-
  The program's places, OnceFrom, PlacesOf.
-/
import Derived.Test.YtfbmcfdmffpfmaaFacI
import Derived.Test.YtfbmcfdmffpfmaaOnceS
import Derived.Lib.OthersKept
namespace Go.Proofs.Ytfbmcfdmffpfmaa
open Go.RowKit
set_option linter.unusedVariables false
set_option linter.unusedSimpArgs false

/-! ### plain words -/
def plTo (s u : List UInt8) (j : Nat) : List Int := ((List.range j).filter fun i => u.isPrefixOf (s.drop i)).map fun i : Nat => (i : Int)
theorem plTo_succ (s u : List UInt8) (j : Nat) : plTo s u (j + 1) = plTo s u j ++ (if u.isPrefixOf (s.drop j) = true then [(j : Int)] else []) := by
  unfold plTo
  rw [List.range_succ, List.filter_append, List.map_append]
  congr 1
  simp only [List.filter_cons, List.filter_nil]
  split <;> simp
theorem plTo_len (s u : List UInt8) (j : Nat) : (plTo s u j).length ≤ j := by
  unfold plTo
  rw [List.length_map]
  refine Nat.le_trans (List.length_filter_le _ _) ?_
  rw [List.length_range]
  exact Nat.le_refl _
theorem pre_win {s u : List UInt8} {i : Nat} : u.isPrefixOf (s.drop i) = true ↔ i + u.length ≤ s.length ∧ win s u.length i = u ∨ (u = [] ∧ s.length < i) := by
  rw [List.isPrefixOf_iff_prefix, List.prefix_iff_eq_take]
  unfold win
  constructor
  · intro h
    by_cases hu : u = []
    · subst hu
      by_cases hi : i ≤ s.length
      · left; simpa using hi
      · right; exact ⟨rfl, by omega⟩
    · left
      have hl := congrArg List.length h
      rw [List.length_take, List.length_drop] at hl
      have := List.length_pos_iff.2 hu
      exact ⟨by omega, h.symm⟩
  · rintro (⟨_, h⟩ | ⟨h, _⟩)
    · exact h.symm
    · subst h; rfl
/-- A word that is not empty begins as often as it is a window. -/
theorem plTo_count {s u : List UInt8} (hu : u ≠ []) : (plTo s u s.length).length = cntW s u := by
  have hpos := List.length_pos_iff.2 hu
  have h1 : ∀ j, (plTo s u j).length = (List.range j).countP fun i => u.isPrefixOf (s.drop i) := fun j => by
    unfold plTo
    rw [List.length_map, List.countP_eq_length_filter]
  have h2 : cntW s u = (List.range (s.length + 1 - u.length)).countP fun i => u.isPrefixOf (s.drop i) := by
    unfold cntW winds windsTo
    rw [List.count, List.countP_map]
    refine List.countP_congr fun i hi => ?_
    rw [List.mem_range] at hi
    rw [pre_win]
    simp only [Function.comp_apply, beq_iff_eq]
    constructor
    · intro h; exact .inl ⟨by omega, h⟩
    · rintro (⟨_, h⟩ | ⟨h, _⟩)
      · exact h
      · exact absurd h hu
  have h3 : ∀ d, (List.range (s.length + 1 - u.length + d)).countP (fun i => u.isPrefixOf (s.drop i)) = (List.range (s.length + 1 - u.length)).countP fun i => u.isPrefixOf (s.drop i) := by
    intro d
    induction d with
    | zero => rfl
    | succ d ih =>
      rw [← Nat.add_assoc, List.range_succ, List.countP_append, ih]
      have : u.isPrefixOf (s.drop (s.length + 1 - u.length + d)) = false := by
        rw [← Bool.not_eq_true, pre_win]
        rintro (⟨h, _⟩ | ⟨h, _⟩)
        · omega
        · exact hu h
      simp [this]
  rw [h1, h2]
  by_cases hl : u.length ≤ s.length + 1
  · have := h3 (u.length - 1)
    rw [show s.length + 1 - u.length + (u.length - 1) = s.length by omega] at this
    exact this
  · have e : s.length + 1 - u.length = 0 := by omega
    have := h3 s.length
    rw [e, Nat.zero_add] at this
    rw [e]
    exact this
def PO (s u : List UInt8) : List Int := if vt s && vt u && decide (u ≠ []) then plTo s u s.length else []
theorem HasPrefix_any (s u : List UInt8) (w : World) :
    Calls Try.prog 99 #[.string ⟨s.toArray⟩, .string ⟨u.toArray⟩] w fun e w' => e = .returned (.bool (u.isPrefixOf s)) ∧ w = w' := by
  refine (Try.strings_HasPrefix ⟨s.toArray⟩ ⟨u.toArray⟩ w).mono fun e w' ⟨h1, h2⟩ => ⟨?_, h2.symm⟩
  rw [h1]
  rfl
theorem ClipI_any_ (A : Option Addr) (n c : Nat) (hnc : n ≤ c) (w : World) :
    Calls Try.prog 100 #[.slice A n c] w fun e w' => e = .returned (.slice A n n) ∧ w = w' := by
  have h1 : (n : Int) ≤ (c : Int) := by omega
  go_enter Try.func100, Try.ntmps100
  go_wp2
  go_ret
  exact ⟨rfl, rfl⟩
set_option maxRecDepth 8000 in
set_option maxHeartbeats 1600000 in
theorem places_any (s u : List UInt8) (w : World) (hv : vt s = true) (hu : u.length ≤ 1000) :
    Calls Try.prog 76 #[.string ⟨s.toArray⟩, .string ⟨u.toArray⟩] w (RetRow w 3 ((plTo s u s.length).map I)) := by
  have hs := vt_len hv
  have Hok := Lib.hid (fun (j : Nat) (h : j < s.length) => okB_lt (vt_ok hv s[j] (List.getElem_mem h)))
  obtain ⟨i0, hi, hz0, hz1, hz2⟩ := info_parts Try.infoI
  clear hv
  go_enter Try.func76, Try.ntmps76
  go_wp2_with fail
  have hM0 : Row ((w.alloc (.cells #[] 3)).iter ⟨s.toArray⟩ 0) w.heap.size 3 (some ⟨w.heap.size, 0, none⟩) 0 0 [] := by
    unfold World.iter
    exact (Row.nil_ w 3).alloc _
  have hit0 : ((w.alloc (.cells #[] 3)).iter ⟨s.toArray⟩ 0).heap[w.heap.size + 1]? = some (.stringIter ⟨s.toArray⟩ 0) := by
    have := World.iter_heap (w.alloc (.cells #[] 3)) ⟨s.toArray⟩ 0
    simpa using this
  have hb0 : Below w.heap.size w ((w.alloc (.cells #[] 3)).iter ⟨s.toArray⟩ 0) := bel_iter _ ((Below.refl _ w).alloc (Nat.le_refl _) _) (by simp) _ _
  obtain ⟨wl, hwl⟩ : ∃ wl, wl = ((w.alloc (.cells #[] 3)).iter ⟨s.toArray⟩ 0) := ⟨_, rfl⟩
  rw [← hwl] at hM0 hit0 hb0 ⊢
  clear hwl
  go_loopw [5] (fun v wr => ∃ (A' : Option Addr) (n' c' j : Nat), j ≤ s.length ∧ v = .slice A' n' c' ∧ n' ≤ j ∧ Row wr w.heap.size 3 A' n' c' ((plTo s u j).map I) ∧ Away A' n' c' (w.heap.size + 1) (w.heap.size + 2) ∧ wr.heap[w.heap.size + 1]? = some (.stringIter ⟨s.toArray⟩ j) ∧ Below w.heap.size w wr) (fun _ wr => s.length - wr.iterPos (w.heap.size + 1))
  case atStart => exact ⟨_, 0, 0, 0, Nat.zero_le _, rfl, Nat.le_refl _, hM0, fun b hb => by simp [Value.ownBlock] at hb; omega, hit0, hb0⟩
  case round =>
    obtain ⟨A', n', c', j, hj, rfl, hnj, hrow, haw, hit, hbw⟩ := hrel
    clear hM0 hit0 hb0
    have hsz := hbw.size
    have Ip0 := Lib.hid (iterPos_of hit)
    have hbl := (Array.getElem?_eq_some_iff.1 hit).1
    by_cases hjs : j < s.length
    · have hnx : ∀ ty, (Instr.next (.pointer (some ⟨w.heap.size + 1, 0, none⟩)) true ty).run Try.prog wr = .ok (.tuple #[.bool true, .int .i64 j, .int .i32 ((s[j]'hjs).toNat)]) (wr.iterAt (w.heap.size + 1) ⟨s.toArray⟩ (j + 1)) := fun ty => Lib.run_next_ascii_at wr (w.heap.size + 1) ⟨s.toArray⟩ j ty hit hjs (Hok.out j hjs)
      obtain ⟨w2, hw2⟩ : ∃ w2, w2 = wr.iterAt (w.heap.size + 1) ⟨s.toArray⟩ (j + 1) := ⟨_, rfl⟩
      rw [← hw2] at hnx
      have hit2 : w2.heap[w.heap.size + 1]? = some (.stringIter ⟨s.toArray⟩ (j + 1)) := by rw [hw2]; exact Lib.iterAt_heap wr _ _ _ _ hit
      have hb2 : Below w.heap.size w w2 := by rw [hw2]; exact Lib.below_iterAt hbw (by omega) _ _
      have hg2 : wr.grownBy w2 (some (w.heap.size + 1)) := by rw [hw2]; exact ⟨rfl, rfl, rfl, by rw [Lib.iterAt_size]; exact Nat.le_refl _, fun i hi hne => Lib.iterAt_other wr (w.heap.size + 1) i _ _ (fun e => hne (by rw [e]))⟩
      have hrow2 : Row w2 w.heap.size 3 A' n' c' ((plTo s u j).map I) := World.ownsRow.kept hrow hg2 (.inr (fun e => by have := haw _ e; omega))
      have hs2 := hb2.size
      have hbl2 := (Array.getElem?_eq_some_iff.1 hit2).1
      have Ip2 := Lib.hid (iterPos_of hit2)
      have Hst := Lib.hid (plTo_succ s u j)
      have Hit2 := Lib.hid hit2
      obtain ⟨c0, hc0⟩ : ∃ c0, c0 = (s[j]'hjs) := ⟨_, rfl⟩
      rw [← hc0] at hnx
      have htd : List.take (s.length - j) (List.drop j s) = s.drop j := List.take_of_length_le (by rw [List.length_drop]; omega)
      have Htd := Lib.hid htd
      clear hw2 hg2 hit hrow hbw hit2 hc0 htd
      cases hp : u.isPrefixOf (s.drop j) with
      | false =>
        have Hp := Lib.hid hp
        have Hs2 := Lib.hid (show plTo s u (j + 1) = plTo s u j by rw [Hst.out, hp]; simp)
        clear hp
        go_wp2_with fail
        try rw [Htd.out]
        refine (HasPrefix_any _ _ _).mono ?_
        rintro e w' ⟨rfl, rfl⟩
        rw [Hp.out]
        clear hnx
        go_wp2_with fail
        go_roundw
        case rel => exact ⟨A', n', c', j + 1, by omega, rfl, by omega, by rw [Hs2.out]; exact hrow2, haw, Hit2.out, hb2⟩
        case measure => rw [Ip0.out, Ip2.out]; omega
      | true =>
        have Hp := Lib.hid hp
        have Hs2 := Lib.hid (show plTo s u (j + 1) = plTo s u j ++ [(j : Int)] by rw [Hst.out, hp]; simp)
        clear hp
        go_wp2_with fail
        try rw [Htd.out]
        refine (HasPrefix_any _ _ _).mono ?_
        rintro e w' ⟨rfl, rfl⟩
        rw [Hp.out]
        clear hnx
        go_wp2_with (at_builtin; refine wpList_appN _ rfl _ _ 35 rfl w.heap.size 3 i0 (.int .i64 0) 8 Try.underlying35 hi hz0 hz1 hz2 rfl _ _ _ _ rfl (hrow2.alloc _) ⟨w2.heap.size, 0, none⟩ 1 1 [.int .i64 j] rfl rfl (cell_one_new _ _ _) (oneIs [(j : Int)]) (n' + 1) rfl (by omega) (by omega) (by simp; omega) ?_; intro A6 c6 w6 hrow6 hgrow6 hdis6)
        have hA6 := haw.app (wr := w2) (by omega) hdis6
        have hb6 : Below w.heap.size w w6 := (hrow2.alloc _).grown (hb2.alloc hs2 _) hgrow6 (Nat.le_refl _) (by simp; omega)
        have hit6 : w6.heap[w.heap.size + 1]? = some (.stringIter ⟨s.toArray⟩ (j + 1)) :=
          (hgrow6.block (w.heap.size + 1) (by simp; omega) (fun e => by have := haw _ e.symm; omega)).trans ((Below.heap_alloc w2 _ _ hbl2).trans Hit2.out)
        have Ip6 := Lib.hid (iterPos_of hit6)
        have Hit6 := Lib.hid hit6
        clear hgrow6 hdis6 hrow2 hit6
        go_wp2_with fail
        go_roundw
        case rel => exact ⟨A6, n' + 1, c6, j + 1, by omega, rfl, by omega, by rw [Hs2.out, List.map_append]; exact hrow6, hA6, Hit6.out, hb6⟩
        case measure => rw [Ip0.out, Ip6.out]; omega
    · obtain rfl : j = s.length := by omega
      have hnx : ∀ ty, (Instr.next (.pointer (some ⟨w.heap.size + 1, 0, none⟩)) true ty).run Try.prog wr = _ := fun ty => Lib.run_next_end_at wr (w.heap.size + 1) _ s.length ty hit (by show ¬ s.length < s.length; omega)
      have hnc := hrow.own.2.1
      clear hit
      go_wp2_with fail
      refine (ClipI_any_ _ _ _ hnc _).mono ?_
      rintro e w' ⟨rfl, rfl⟩
      go_wp2_with fail
      go_ret
      exact ⟨A', n', n', rfl, hrow.own.clip, hbw⟩
end Go.Proofs.Ytfbmcfdmffpfmaa
