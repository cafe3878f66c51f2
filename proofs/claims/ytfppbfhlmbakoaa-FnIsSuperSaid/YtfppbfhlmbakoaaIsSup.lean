/-
  IsSuper, of the program and of the reference.
-/
import Derived.Test.YtfppbfhlmbakoaaSupTwo
namespace Go.Proofs.Ytfppbfhlmbakoaa
open Go.RowKit
set_option linter.unusedVariables false
set_option linter.unusedSimpArgs false

theorem isSuper1_any (g : Nat) (s x : List UInt8) (W : World) (hc : W.cell? ⟨g, 0, none⟩ = some (.string ⟨s.toArray⟩)) (hs : s.length < 4294967281) (hx : x.length ≤ 140737488351232) (hvr : Vr W) :
    Calls Try.prog 56 #[.string ⟨x.toArray⟩, .pointer (some ⟨g, 0, none⟩)] W fun e W' => e = .returned (.bool (!hasL s x)) ∧ Below W.heap.size W W' := by
  go_enter Try.func56, Try.ntmps56
  go_wp2_with fail
  refine (Contains_any _ _ _ hs hvr).mono ?_
  rintro e w' ⟨rfl, rfl⟩
  go_wp2_with fail
  go_ret
  exact ⟨rfl, Below.refl _ _⟩
theorem any_not {ws : List (List UInt8)} (s : List UInt8) : (!ws.any (fun x => !hasL s x)) = ws.all (hasL s ·) := by
  rw [List.all_eq_not_any_not]
set_option maxHeartbeats 800000 in
theorem IsSuper_any (s : List UInt8) (A : Option Addr) (n c : Nat) (ws : List (List UInt8)) (w : World) (hr : Rd w w.heap.size A n c (ws.map S)) (hl : Len47 ws) (hs : s.length ≤ 100000) (hvr : Vr w) :
    Calls Try.prog 28 #[.string ⟨s.toArray⟩, .slice A n c] w (RetVal w (.bool (ISS s ws))) := by
  have hb0 : Below w.heap.size w (w.alloc (.cells #[.string ⟨s.toArray⟩] 9)) := (Below.refl _ w).alloc (Nat.le_refl _) _
  have Hany := Lib.hid (any_not (ws := ws) s)
  have Hiss := Lib.hid (show ISS s ws = (vt s && (vw ws && ws.all (hasL s ·))) from rfl)
  obtain ⟨i, hi⟩ : ∃ i, i = ISS s ws := ⟨_, rfl⟩
  rw [← hi] at Hiss ⊢
  clear hi
  cases h1 : vt s with
  | false =>
    have H1 := Lib.hid h1
    clear h1
    go_enter Try.func28, Try.ntmps28
    go_wp2_with (go_at_call 30; refine (ValidText_any _ _ (by omega)).mono ?_; rintro e w' ⟨rfl, hb⟩; rw [H1.out])
    go_ret
    exact ⟨ret_bool (by rw [Hiss.out, H1.out]; rfl), hb0.trans (hb.mono hb0.size)⟩
  | true =>
    have H1 := Lib.hid h1
    clear h1
    cases h2 : vw ws with
    | false =>
      have H2 := Lib.hid h2
      clear h2
      go_enter Try.func28, Try.ntmps28
      go_wp2_with fail
      refine (ValidText_any _ _ (by omega)).mono ?_
      rintro e w1 ⟨rfl, hb⟩
      rw [H1.out]
      have B1 := hb0.trans (hb.mono hb0.size)
      have hr1 := (hr.below B1).more B1.size
      go_wp2_with fail
      refine (wordsOk_any A n c ws _ hr1 hl).mono ?_
      rintro e w2 ⟨rfl, hb2⟩
      rw [H2.out]
      go_wp2_with fail
      go_ret
      exact ⟨ret_bool (by rw [Hiss.out, H1.out, H2.out]; rfl), B1.trans (hb2.mono B1.size)⟩
    | true =>
      have H2 := Lib.hid h2
      clear h2
      go_enter Try.func28, Try.ntmps28
      go_wp2_with fail
      refine (ValidText_any _ _ (by omega)).mono ?_
      rintro e w1 ⟨rfl, hb⟩
      rw [H1.out]
      have B1 := hb0.trans (hb.mono hb0.size)
      have hr1 := (hr.below B1).more B1.size
      go_wp2_with fail
      refine (wordsOk_any A n c ws _ hr1 hl).mono ?_
      rintro e w2 ⟨rfl, hb2⟩
      rw [H2.out]
      have B2 := B1.trans (hb2.mono B1.size)
      have hr2 := (hr1.below hb2).more hb2.size
      have hvr2 := hvr.keep B2
      have hc2 : w2.cell? ⟨w.heap.size, 0, none⟩ = some (.string ⟨s.toArray⟩) := by
        have h0 : (w.alloc (.cells #[.string ⟨s.toArray⟩] 9)).cell? ⟨w.heap.size, 0, none⟩ = some (.string ⟨s.toArray⟩) := by rw [cell_of_row _ _ 0 #[.string ⟨s.toArray⟩] _ (0, 0) (heap_al0 _ _)]; rfl
        have hlt : w.heap.size < (w.alloc (.cells #[.string ⟨s.toArray⟩] 9)).heap.size := by simp
        have h1 := hb.cell (p := ⟨w.heap.size, 0, none⟩) hlt
        have h2 := hb2.cell (p := ⟨w.heap.size, 0, none⟩) (Nat.lt_of_lt_of_le hlt hb.size)
        rw [h2, h1, h0]
      have hlt2 : w.heap.size < w2.heap.size := by
        have : w.heap.size < (w.alloc (.cells #[.string ⟨s.toArray⟩] 9)).heap.size := by simp
        have := hb.size
        have := hb2.size
        omega
      have hC := ContainsFuncS_any 56 #[.pointer (some ⟨w.heap.size, 0, none⟩)] (enters_of Try.func56 (by kernel_rfl) rfl) (fun x => !hasL s x) A n c ws w2 hr2 (fun x hx W hW => isSuper1_any w.heap.size s x W ((hW.cell (p := ⟨w.heap.size, 0, none⟩) hlt2).trans hc2) (by omega) (hl x hx) (hvr2.keep hW))
      clear hc2 hlt2
      go_wp2_with fail
      refine hC.mono ?_
      rintro e w3 ⟨rfl, hb3⟩
      have B3 := B2.trans (hb3.mono B2.size)
      go_wp2_with fail
      go_ret
      exact ⟨ret_bool (by rw [Hiss.out, H1.out, H2.out, ← Hany.out]; simp), B3⟩
theorem all_take_no {ws : List (List UInt8)} {s x : List UInt8} {k : Nat} (hx : ws[k]? = some x) (h : hasL s x = false) : ws.all (hasL s ·) = false := by
  rw [List.all_eq_false]
  exact ⟨x, List.mem_of_getElem? hx, by simp [h]⟩
theorem all_take_yes {ws : List (List UInt8)} {s x : List UInt8} {k : Nat} (hx : ws[k]? = some x) (h0 : (ws.take k).all (hasL s ·) = true) (h : hasL s x = true) : (ws.take (k + 1)).all (hasL s ·) = true := by
  obtain ⟨hk, rfl⟩ := List.getElem?_eq_some_iff.1 hx
  rw [List.take_succ_eq_append_getElem hk, List.all_append, h0]
  simp [h]
set_option maxHeartbeats 800000 in
theorem allIn_any (s : List UInt8) (A : Option Addr) (n c : Nat) (ws : List (List UInt8)) (w : World) (hr : Rd w w.heap.size A n c (ws.map S)) (hl : Len47 ws) (hs : s.length ≤ 100000) :
    Calls Try.prog 59 #[.string ⟨s.toArray⟩, .slice A n c] w fun e w' => e = .returned (.bool (ws.all (hasL s ·))) ∧ Quiet w w' := by
  have hm := hr.2.2.1
  have hnc := hr.2.1
  have Hn := Lib.hid hr.slen
  unfold maxLen at hm
  go_enter Try.func59, Try.ntmps59
  go_wp2
  go_loopw [5] (fun i wr => ∃ k : Nat, k ≤ n ∧ i = .int .i64 k ∧ (ws.take k).all (hasL s ·) = true ∧ Quiet w wr) (fun i _ => n - (intOf i).toNat)
  case atStart => exact ⟨0, Nat.zero_le _, rfl, by simp, Quiet.refl _⟩
  case round =>
    obtain ⟨k, hk, rfl, hall, hq⟩ := hrel
    have Hall := Lib.hid hall
    clear hall
    by_cases hlt : k < n
    · obtain ⟨b, o, x, rfl, hb, hx, hc⟩ := (hq.rd hr).str hlt
      have hlt' : (k : Int) < (n : Int) := by omega
      have k0 : (0 : Int) ≤ (k : Int) := by omega
      have hxl := hl x (List.mem_of_getElem? hx)
      cases h1 : hasL s x with
      | false =>
        have H1 := Lib.hid h1
        have Hf := Lib.hid (all_take_no hx h1)
        clear h1 hx
        go_wp2_with fail
        refine (has_q (by omega) hxl H1.out).mono ?_
        rintro e w' ⟨rfl, rfl⟩
        go_wp2_with fail
        go_ret
        exact ⟨ret_bool Hf.out.symm, hq⟩
      | true =>
        have H1 := Lib.hid h1
        have Hf := Lib.hid (all_take_yes hx Hall.out h1)
        clear h1 hx
        go_wp2_with fail
        refine (has_q (by omega) hxl H1.out).mono ?_
        rintro e w' ⟨rfl, rfl⟩
        go_wp2_with fail
        go_roundw
        case rel => exact ⟨k + 1, by omega, by go_num, Hf.out, hq⟩
        case measure => simp [intOf]; omega
    · obtain rfl : k = n := by omega
      have hlt' : ¬ (k : Int) < (k : Int) := by omega
      have Hf := Lib.hid (show ws.all (hasL s ·) = true by
        have h := Hall.out
        rwa [List.take_of_length_le (by have := Hn.out; omega)] at h)
      go_wp2_with fail
      go_ret
      exact ⟨ret_bool Hf.out.symm, hq⟩
set_option maxHeartbeats 800000 in
theorem specIsSuper_any (s : List UInt8) (A : Option Addr) (n c : Nat) (ws : List (List UInt8)) (w : World) (hr : Rd w w.heap.size A n c (ws.map S)) (hl : Len47 ws) (hs : s.length ≤ 100000) :
    Calls Try.prog 29 #[.string ⟨s.toArray⟩, .slice A n c] w (RetVal w (.bool (ISS s ws))) := by
  have Hiss := Lib.hid (show ISS s ws = (vt s && (vw ws && ws.all (hasL s ·))) from rfl)
  obtain ⟨i, hi⟩ : ∃ i, i = ISS s ws := ⟨_, rfl⟩
  rw [← hi] at Hiss ⊢
  clear hi
  cases h1 : vt s with
  | false =>
    have H1 := Lib.hid h1
    clear h1
    go_enter Try.func29, Try.ntmps29
    go_wp2_with fail
    refine (validText_any s w (by omega)).mono ?_
    rintro e w1 ⟨rfl, rfl⟩
    rw [H1.out]
    go_wp2_with fail
    go_ret
    exact ⟨ret_bool (by rw [Hiss.out, H1.out]; rfl), Below.refl _ _⟩
  | true =>
    have H1 := Lib.hid h1
    clear h1
    cases h2 : vw ws with
    | false =>
      have H2 := Lib.hid h2
      clear h2
      go_enter Try.func29, Try.ntmps29
      go_wp2_with fail
      refine (validText_any s w (by omega)).mono ?_
      rintro e w1 ⟨rfl, rfl⟩
      rw [H1.out]
      go_wp2_with fail
      refine (validWords_any A n c ws _ _ hr hl).mono ?_
      rintro e w2 ⟨rfl, rfl⟩
      rw [H2.out]
      go_wp2_with fail
      go_ret
      exact ⟨ret_bool (by rw [Hiss.out, H1.out, H2.out]; rfl), Below.refl _ _⟩
    | true =>
      have H2 := Lib.hid h2
      clear h2
      go_enter Try.func29, Try.ntmps29
      go_wp2_with fail
      refine (validText_any s w (by omega)).mono ?_
      rintro e w1 ⟨rfl, rfl⟩
      rw [H1.out]
      go_wp2_with fail
      refine (validWords_any A n c ws _ _ hr hl).mono ?_
      rintro e w2 ⟨rfl, rfl⟩
      rw [H2.out]
      go_wp2_with fail
      refine (allIn_any s A n c ws _ hr hl hs).mono ?_
      rintro e w3 ⟨rfl, hq⟩
      go_wp2_with fail
      go_ret
      exact ⟨ret_bool (by rw [Hiss.out, H1.out, H2.out]; rfl), hq.bel _⟩
end Go.Proofs.Ytfppbfhlmbakoaa
