/-
  The reference's words and windows of a text.
-/
import Derived.Test.YtfbmcfdmffpfmaaSortS
import Derived.Test.YtfbmcfdmffpfmaaFuncs
import Derived.Test.YtfbmcfdmffpfmaaFacL
namespace Go.Proofs.Ytfbmcfdmffpfmaa
open Go.RowKit
set_option linter.unusedVariables false
set_option linter.unusedSimpArgs false

theorem slice_win (s : List UInt8) (k j : Nat) : List.take k (List.drop j s) = win s k j := rfl
set_option maxHeartbeats 800000 in
theorem factors_any (s : List UInt8) (k : Nat) (w : World) (hs : s.length ≤ 1048576) (hk : k ≤ 1048576) :
    Calls Try.prog 60 #[.string ⟨s.toArray⟩, .int .i64 k] w (RetRow w 9 ((fac s k).map S)) := by
  go_enter Try.func60, Try.ntmps60
  go_wp2_with fail
  go_loopw [5, 6] (fun v i wr => ∃ (j g n' c' : Nat), j ≤ s.length + 1 - k ∧ i = .int .i64 j ∧ v = .slice (some ⟨g, 0, none⟩) n' c' ∧ Row wr w.heap.size 9 (some ⟨g, 0, none⟩) n' c' ((dd (windsTo s k j)).map S) ∧ Below w.heap.size w wr) (fun _ i _ => s.length + 1 - (intOf i).toNat)
  case atStart => exact ⟨0, w.heap.size, 0, 0, Nat.zero_le _, rfl, rfl, Row.nil_ w 9, (Below.refl _ _).alloc (Nat.le_refl _) _⟩
  case round =>
    obtain ⟨j, g, n', c', hj, rfl, rfl, hown, hbw⟩ := hrel
    have hsz := hbw.size
    have hl := hown.len
    have hd := dd_len (windsTo s k j)
    rw [windsTo_len] at hd
    rw [List.length_map] at hl
    by_cases hlt : j + k ≤ s.length
    · have hI := Lib.hid (insertText_any g n' c' (dd (windsTo s k j)) (win s k j) wr w.heap.size hown (by omega) hsz)
      clear hown hl hd
      go_wp2_with fail
      rw [slice_win]
      refine hI.out.mono ?_
      rintro e w2 ⟨g2, n2, c2, rfl, hrow2, hb2⟩
      have hb := hbw.trans (hb2.mono hsz)
      go_wp2_with fail
      go_roundw
      case rel => exact ⟨j + 1, g2, n2, c2, by omega, by go_num, rfl, by rw [windsTo_succ, dd_snoc]; exact hrow2, hb⟩
      case measure => simp [intOf]; omega
    · obtain rfl : j = s.length + 1 - k := by omega
      clear hl hd
      go_wp2_with fail
      go_ret
      exact ⟨_, _, _, rfl, hown.own, hbw⟩
set_option maxHeartbeats 800000 in
theorem specFactorsOf_any (s : List UInt8) (k : Int) (w : World) (hs : s.length ≤ 1048576) :
    Calls Try.prog 27 #[.string ⟨s.toArray⟩, .int .i64 k] w (RetRow w 9 ((FO s k).map S)) := by
  cases h1 : vt s with
  | false =>
    have Hv := Lib.hid (show FO s k = [] by unfold FO; rw [h1]; rfl)
    have H1 := Lib.hid h1
    clear h1
    go_enter Try.func27, Try.ntmps27
    go_wp2_with fail
    refine (validText_any _ _ (by omega)).mono ?_
    rintro e w' ⟨rfl, rfl⟩
    rw [H1.out]
    go_wp2_with fail
    go_ret
    rw [Hv.out]
    exact retRow_nil _ _
  | true =>
    have H1 := Lib.hid h1
    clear h1
    cases h2 : inR k 0 40 with
    | false =>
      have Hv := Lib.hid (show FO s k = [] by unfold FO; rw [h2]; simp)
      have H2 := Lib.hid h2
      clear h2
      go_enter Try.func27, Try.ntmps27
      go_wp2_with fail
      refine (validText_any _ _ (by omega)).mono ?_
      rintro e w' ⟨rfl, rfl⟩
      rw [H1.out]
      go_wp2_with fail
      refine (inRange_any _ _ _ _).mono ?_
      rintro e w' ⟨rfl, rfl⟩
      rw [H2.out]
      go_wp2_with fail
      go_ret
      rw [Hv.out]
      exact retRow_nil _ _
    | true =>
      obtain ⟨h3, h4⟩ := inR_true h2
      obtain ⟨k, rfl⟩ := Int.eq_ofNat_of_zero_le h3
      have Hv := Lib.hid (show FO s (k : Int) = fac s k by unfold FO; rw [H1.out, h2]; simp)
      have H2 := Lib.hid h2
      have hF := Lib.hid (factors_any s k w hs (by omega))
      clear h2
      go_enter Try.func27, Try.ntmps27
      go_wp2_with fail
      refine (validText_any _ _ (by omega)).mono ?_
      rintro e w' ⟨rfl, rfl⟩
      rw [H1.out]
      go_wp2_with fail
      refine (inRange_any _ _ _ _).mono ?_
      rintro e w' ⟨rfl, rfl⟩
      rw [H2.out]
      go_wp2_with fail
      refine hF.out.mono ?_
      rintro e w' ⟨A1, n1, c1, rfl, ho, hb⟩
      go_wp2_with fail
      go_ret
      exact ⟨_, _, _, rfl, by rw [Hv.out]; exact ho, hb⟩
set_option maxHeartbeats 800000 in
theorem distinct_any (A : Option Addr) (n c : Nat) (ws : List (List UInt8)) (w : World) (hr : Rd w w.heap.size A n c (ws.map S)) (hn20 : n ≤ 1048576) :
    Calls Try.prog 86 #[.slice A n c] w (RetRow w 9 ((dd ws).map S)) := by
  have hm := hr.2.2.1
  have hnc := hr.2.1
  have Hn := Lib.hid hr.slen
  unfold maxLen at hm
  go_enter Try.func86, Try.ntmps86
  go_wp2_with fail
  go_loopw [3, 4] (fun v i wr => ∃ (j g n' c' : Nat), j ≤ n ∧ i = .int .i64 j ∧ v = .slice (some ⟨g, 0, none⟩) n' c' ∧ Row wr w.heap.size 9 (some ⟨g, 0, none⟩) n' c' ((dd (ws.take j)).map S) ∧ Below w.heap.size w wr) (fun _ i _ => n - (intOf i).toNat)
  case atStart => exact ⟨0, w.heap.size, 0, 0, Nat.zero_le _, rfl, rfl, Row.nil_ w 9, (Below.refl _ _).alloc (Nat.le_refl _) _⟩
  case round =>
    obtain ⟨j, g, n', c', hj, rfl, rfl, hown, hbw⟩ := hrel
    have hsz := hbw.size
    by_cases hlt : j < n
    · obtain ⟨b, o, x, rfl, hb, hx, hc⟩ := (hr.below hbw).str hlt
      have hl := hown.len
      have hd := dd_len (ws.take j)
      rw [List.length_take] at hd
      rw [List.length_map] at hl
      have hI := Lib.hid (insertText_any g n' c' (dd (ws.take j)) x wr w.heap.size hown (by omega) hsz)
      have Hs := Lib.hid (show dd (ws.take (j + 1)) = insT (dd (ws.take j)) x by
        obtain ⟨h1, rfl⟩ := List.getElem?_eq_some_iff.1 hx
        rw [List.take_succ_eq_append_getElem h1, dd_snoc])
      clear hown hl hd hx
      go_wp2_with fail
      refine hI.out.mono ?_
      rintro e w2 ⟨g2, n2, c2, rfl, hrow2, hb2⟩
      have hb := hbw.trans (hb2.mono hsz)
      go_wp2_with fail
      go_roundw
      case rel => exact ⟨j + 1, g2, n2, c2, by omega, by go_num, rfl, by rw [Hs.out]; exact hrow2, hb⟩
      case measure => simp [intOf]; omega
    · obtain rfl : j = n := by omega
      go_wp2_with fail
      go_ret
      rw [List.take_of_length_le (by rw [Hn.out]; exact Nat.le_refl _)] at hown
      exact ⟨_, _, _, rfl, hown.own, hbw⟩
set_option maxRecDepth 8000 in
set_option maxHeartbeats 1600000 in
theorem specWindows_any (s : List UInt8) (k : Nat) (w : World) (hs : s.length ≤ 1000) (hk : k ≤ 1000) :
    Calls Try.prog 67 #[.string ⟨s.toArray⟩, .int .i64 k] w (RetRow w 9 ((stT (winds s k)).map S)) := by
  obtain ⟨i0, hi, hz0, hz1, hz2⟩ := info_parts Try.infoXs
  go_enter Try.func67, Try.ntmps67
  go_wp2_with fail
  go_loopw [5, 6] (fun v i wr => ∃ (j g c' : Nat), j ≤ s.length + 1 - k ∧ i = .int .i64 j ∧ v = .slice (some ⟨g, 0, none⟩) j c' ∧ Row wr w.heap.size 9 (some ⟨g, 0, none⟩) j c' ((windsTo s k j).map S) ∧ Below w.heap.size w wr) (fun _ i _ => s.length + 1 - (intOf i).toNat)
  case atStart => exact ⟨0, w.heap.size, 0, Nat.zero_le _, rfl, rfl, Row.nil_ w 9, (Below.refl _ _).alloc (Nat.le_refl _) _⟩
  case round =>
    obtain ⟨j, g, c', hj, rfl, rfl, hown, hbw⟩ := hrel
    have hsz := hbw.size
    by_cases hlt : j + k ≤ s.length
    · go_wp2_with (at_builtin; refine wpList_app1 _ rfl _ _ 24 rfl w.heap.size 9 i0 (.string ⟨#[]⟩) 16 Try.underlying24 hi hz0 hz1 hz2 rfl _ _ _ _ rfl (hown.alloc _) _ (.string ⟨(List.take k (List.drop j s)).toArray⟩) rfl (cell_one_new _ _ _) rfl (by omega) (by omega) (by simp; omega) ?_; intro A2 c2 w2 hown2 hgrow2)
      have hbe : Below w.heap.size w w2 := (hown.alloc _).grown (hbw.alloc hsz _) hgrow2 (Nat.le_refl _) (by simp; omega)
      obtain ⟨g2, cap2, he2, _, _⟩ := World.ownsRow.form hown2 (by omega)
      injection he2 with ha2 _ _
      subst ha2
      clear hgrow2 hown
      go_wp2_with fail
      go_roundw
      case rel => exact ⟨j + 1, g2, c2, by omega, by go_num, rfl, by rw [windsTo_succ, List.map_append]; exact hown2, hbe⟩
      case measure => simp [intOf]; omega
    · obtain rfl : j = s.length + 1 - k := by omega
      have hS := Lib.hid (sortTexts_any (some ⟨g, 0, none⟩) (s.length + 1 - k) c' (windsTo s k (s.length + 1 - k)) wr hown.rd (by omega))
      clear hown
      go_wp2_with fail
      refine hS.out.mono ?_
      rintro e w2 ⟨A2, n2, c2, rfl, ho2, hb2⟩
      go_wp2_with fail
      go_ret
      exact ⟨_, _, _, rfl, ho2.more hsz, hbw.trans (hb2.mono hsz)⟩
set_option maxHeartbeats 800000 in
theorem specWindowsOf_any (s : List UInt8) (k : Int) (w : World) (hs : s.length ≤ 1048576) :
    Calls Try.prog 22 #[.string ⟨s.toArray⟩, .int .i64 k] w (RetRow w 9 ((WO s k).map S)) := by
  cases h1 : vt s with
  | false =>
    have Hv := Lib.hid (show WO s k = [] by unfold WO; rw [h1]; rfl)
    have H1 := Lib.hid h1
    clear h1
    go_enter Try.func22, Try.ntmps22
    go_wp2_with fail
    refine (validText_any _ _ (by omega)).mono ?_
    rintro e w' ⟨rfl, rfl⟩
    rw [H1.out]
    go_wp2_with fail
    go_ret
    rw [Hv.out]
    exact retRow_nil _ _
  | true =>
    have H1 := Lib.hid h1
    clear h1
    cases h2 : inR k 1 6 with
    | false =>
      have Hv := Lib.hid (show WO s k = [] by unfold WO; rw [h2]; simp)
      have H2 := Lib.hid h2
      clear h2
      go_enter Try.func22, Try.ntmps22
      go_wp2_with fail
      refine (validText_any _ _ (by omega)).mono ?_
      rintro e w' ⟨rfl, rfl⟩
      rw [H1.out]
      go_wp2_with fail
      refine (inRange_any _ _ _ _).mono ?_
      rintro e w' ⟨rfl, rfl⟩
      rw [H2.out]
      go_wp2_with fail
      go_ret
      rw [Hv.out]
      exact retRow_nil _ _
    | true =>
      obtain ⟨h3, h4⟩ := inR_true h2
      obtain ⟨k, rfl⟩ := Int.eq_ofNat_of_zero_le (show 0 ≤ k by omega)
      have Hv := Lib.hid (show WO s (k : Int) = stT (winds s k) by unfold WO; rw [H1.out, h2]; simp)
      have H2 := Lib.hid h2
      have hF := Lib.hid (specWindows_any s k w (by have := vt_len H1.out; omega) (by omega))
      clear h2
      go_enter Try.func22, Try.ntmps22
      go_wp2_with fail
      refine (validText_any _ _ (by omega)).mono ?_
      rintro e w' ⟨rfl, rfl⟩
      rw [H1.out]
      go_wp2_with fail
      refine (inRange_any _ _ _ _).mono ?_
      rintro e w' ⟨rfl, rfl⟩
      rw [H2.out]
      go_wp2_with fail
      refine hF.out.mono ?_
      rintro e w' ⟨A1, n1, c1, rfl, ho, hb⟩
      go_wp2_with fail
      go_ret
      exact ⟨_, _, _, rfl, by rw [Hv.out]; exact ho, hb⟩
end Go.Proofs.Ytfbmcfdmffpfmaa
