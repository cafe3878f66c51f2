/-
  The program's windowsOk, TextsOf, told, IsTold, LeastTold.
-/
import Derived.Test.YtfbmcfdmffpfmaaTxtP
namespace Go.Proofs.Ytfbmcfdmffpfmaa
open Go.RowKit
set_option linter.unusedVariables false
set_option linter.unusedSimpArgs false

/-- What a word must not be: of another length than the first one, or no text. -/
def badW (K : Nat) (x : List UInt8) : Bool := decide (x.length ≠ K) || !vt x
theorem vwd_imp (ws : List (List UInt8)) : vwd ws = (inR (ws.length : Int) 1 8 && inR (klen ws : Int) 1 6 && !ws.any (badW (klen ws))) := by
  rw [Bool.eq_iff_iff, vwd_iff, Bool.and_eq_true, Bool.and_eq_true, Bool.not_eq_true']
  constructor
  · rintro ⟨h1, h2, h3⟩
    have hk : 1 ≤ klen ws ∧ klen ws ≤ 6 := by
      cases ws with
      | nil => simp at h2
      | cons a r =>
        have := h1 a (by simp)
        omega
    refine ⟨⟨by unfold inR; simp; omega, by unfold inR; simp; omega⟩, ?_⟩
    rw [List.any_eq_false]
    intro x hx
    have := h1 x hx
    unfold badW
    simp [this.1, this.2.2.2]
  · rintro ⟨⟨h1, h2⟩, h3⟩
    obtain ⟨h4, h5⟩ := inR_true h1
    obtain ⟨h6, h7⟩ := inR_true h2
    rw [List.any_eq_false] at h3
    refine ⟨fun x hx => ?_, by omega, by omega⟩
    have := h3 x hx
    unfold badW at this
    simp at this
    exact ⟨this.2, by omega, by omega, this.1⟩
theorem badW_any (x : List UInt8) (ws : List (List UInt8)) (B b : Nat) (A : Option Addr) (n c : Nat) (W : World) (hx : x.length ≤ 140737488351232) (hc : W.cell? ⟨b, 0, none⟩ = some (.slice A n c)) (hr : Rd W B A n c (ws.map S)) (h0 : 0 < n) (hl : Len47 ws) :
    Calls Try.prog 102 #[.string ⟨x.toArray⟩, .pointer (some ⟨b, 0, none⟩)] W fun e W' => e = .returned (.bool (badW (klen ws) x)) ∧ Below W.heap.size W W' := by
  obtain ⟨b', o, y, rfl, hb, hy, hcy⟩ := hr.str h0
  rw [Nat.add_zero] at hcy
  have hyl := hl.at_ hy
  have hk := Lib.hid (klen_at hy)
  have hm := hr.2.2.1
  have hnc := hr.2.1
  unfold maxLen at hm
  have n0 : (0 : Int) < (n : Int) := by omega
  clear hy
  by_cases he : x.length = y.length
  · have e0 : ((x.length : Int) != (y.length : Int)) = false := by simp [he]
    have Hv := Lib.hid (show badW (klen ws) x = !vt x by unfold badW; rw [hk.out]; simp [he])
    have Hq := Lib.hid (ValidText_any x W (by omega))
    clear he
    go_enter Try.func102, Try.ntmps102
    go_wp2_with fail
    refine Hq.out.mono ?_
    rintro e w' ⟨rfl, hb'⟩
    go_wp2_with fail
    go_ret
    exact ⟨ret_bool (by rw [Hv.out]), hb'⟩
  · have e0 : ((x.length : Int) != (y.length : Int)) = true := by simp; omega
    have Hv := Lib.hid (show badW (klen ws) x = true by unfold badW; rw [hk.out]; simp [he])
    clear he
    go_enter Try.func102, Try.ntmps102
    go_wp2_with fail
    go_ret
    exact ⟨ret_bool (by rw [Hv.out]), Below.refl _ _⟩
set_option maxHeartbeats 1600000 in
theorem windowsOk_any (A : Option Addr) (n c : Nat) (ws : List (List UInt8)) (w : World) (hr : Rd w w.heap.size A n c (ws.map S)) (hl : Len47 ws) :
    Calls Try.prog 81 #[.slice A n c] w fun e w' => e = .returned (.bool (vwd ws)) ∧ Below w.heap.size w w' := by
  have hm := hr.2.2.1
  have hnc := hr.2.1
  unfold maxLen at hm
  have Hn := Lib.hid hr.slen
  have cs : (w.alloc (.cells #[.slice A n c] 24)).cell? ⟨w.heap.size, 0, none⟩ = some (.slice A n c) := by
    rw [cell_of_row _ w.heap.size 0 _ _ (0, 0) (heap_alloc_new w _)]; rfl
  have hB : Below w.heap.size w (w.alloc (.cells #[.slice A n c] 24)) := (Below.refl _ w).alloc (Nat.le_refl _) _
  have hr2 := (hr.below hB).more hB.size
  cases h1 : inR (n : Int) 1 8 with
  | false =>
    have Hv := Lib.hid (show vwd ws = false by rw [vwd_imp, Hn.out, h1]; rfl)
    have H1 := Lib.hid h1
    clear h1
    go_enter Try.func81, Try.ntmps81
    go_wp2_with fail
    refine (within_any _ _ _ _).mono ?_
    rintro e w' ⟨rfl, rfl⟩
    rw [H1.out]
    go_wp2_with fail
    go_ret
    exact ⟨ret_bool (Hv.out).symm, hB⟩
  | true =>
    obtain ⟨h11, h12⟩ := inR_true h1
    have h0 : 0 < n := by omega
    have H1 := Lib.hid h1
    clear h1
    obtain ⟨b', o, y, rfl, hb, hy, hcy⟩ := hr2.str h0
    rw [Nat.add_zero] at hcy
    have hyl := hl.at_ hy
    have hk := Lib.hid (klen_at hy)
    have n0 : (0 : Int) < (n : Int) := by omega
    clear hy
    cases h2 : inR (y.length : Int) 1 6 with
    | false =>
      have Hv := Lib.hid (show vwd ws = false by rw [vwd_imp, hk.out, h2]; simp)
      have H2 := Lib.hid h2
      clear h2
      go_enter Try.func81, Try.ntmps81
      go_wp2_with fail
      refine (within_any _ _ _ _).mono ?_
      rintro e w' ⟨rfl, rfl⟩
      rw [H1.out]
      go_wp2_with fail
      refine (within_any _ _ _ _).mono ?_
      rintro e w' ⟨rfl, rfl⟩
      rw [H2.out]
      go_wp2_with fail
      go_ret
      exact ⟨ret_bool (Hv.out).symm, hB⟩
    | true =>
      have Hv := Lib.hid (show vwd ws = !ws.any (badW (klen ws)) by rw [vwd_imp, Hn.out, H1.out, hk.out, h2]; rfl)
      have H2 := Lib.hid h2
      have hCF := Lib.hid (ContainsFuncS_any 102 #[.pointer (some ⟨w.heap.size, 0, none⟩)] (enters_of Try.func102 (by kernel_rfl) rfl) (badW (klen ws)) _ n c ws _ hr2
        (fun x hx W hb => badW_any x ws _ w.heap.size _ n c W (hl x hx) ((hb.cell (p := ⟨w.heap.size, 0, none⟩) (by simp)).trans cs) (hr2.below hb) h0 hl))
      clear h2
      go_enter Try.func81, Try.ntmps81
      go_wp2_with fail
      refine (within_any _ _ _ _).mono ?_
      rintro e w' ⟨rfl, rfl⟩
      rw [H1.out]
      go_wp2_with fail
      refine (within_any _ _ _ _).mono ?_
      rintro e w' ⟨rfl, rfl⟩
      rw [H2.out]
      go_wp2_with fail
      refine hCF.out.mono ?_
      rintro e w1 ⟨rfl, hb1⟩
      have B1 := hB.trans (hb1.mono hB.size)
      go_wp2_with fail
      go_ret
      exact ⟨ret_bool (Hv.out).symm, B1⟩
set_option maxHeartbeats 1600000 in
theorem TextsOf_any (A : Option Addr) (n c : Nat) (ws : List (List UInt8)) (w : World) (hr : Rd w w.heap.size A n c (ws.map S)) (hl : Len47 ws) :
    Calls Try.prog 44 #[.slice A n c] w (RetRow w 9 ((TX ws).map S)) := by
  have hV := Lib.hid (windowsOk_any A n c ws w hr hl)
  cases h1 : vwd ws with
  | false =>
    have Hv := Lib.hid (show TX ws = [] by unfold TX; rw [h1]; rfl)
    have H1 := Lib.hid h1
    clear h1
    go_enter Try.func44, Try.ntmps44
    go_wp2_with fail
    refine hV.out.mono ?_
    rintro e w1 ⟨rfl, hb1⟩
    rw [H1.out]
    go_wp2_with fail
    go_ret
    rw [Hv.out]
    exact retRow_nil' _ hb1
  | true =>
    have Hv := Lib.hid (show TX ws = txl ws by unfold TX; rw [h1]; rfl)
    have H1 := Lib.hid h1
    clear h1
    go_enter Try.func44, Try.ntmps44
    go_wp2_with fail
    refine hV.out.mono ?_
    rintro e w1 ⟨rfl, hb1⟩
    rw [H1.out]
    have s1 := hb1.size
    have hT := Lib.hid (texts_any A n c ws w1 ((hr.below hb1).more s1) H1.out)
    go_wp2_with fail
    refine hT.out.mono ?_
    rintro e w2 ⟨A2, n2, c2, rfl, ho2, hb2⟩
    go_wp2_with fail
    go_ret
    exact ⟨_, _, _, rfl, by rw [Hv.out]; exact ho2.more s1, hb1.trans (hb2.mono s1)⟩
theorem inR_dec {n lo hi : Int} : inR n lo hi = decide (lo ≤ n ∧ n ≤ hi) := by
  unfold inR
  rfl
set_option maxHeartbeats 1600000 in
theorem told_any (s : List UInt8) (k : Nat) (w : World) (hv : vt s = true) (h1 : 1 ≤ k) (h6 : k ≤ 6) :
    Calls Try.prog 79 #[.string ⟨s.toArray⟩, .int .i64 k] w fun e w' => e = .returned (.bool (IT s (k : Int))) ∧ Below w.heap.size w w' := by
  have hs := vt_len hv
  have Hi := Lib.hid (show inR (k : Int) 1 6 = true by rw [inR_dec]; simp; omega)
  have Hin := Lib.hid (show inR (s.length : Int) (k : Int) ((k : Int) + 7) = vwd (stT (winds s k)) by
    rw [winds_ok hv h1 h6, inR_dec, Bool.eq_iff_iff]
    simp
    omega)
  have ew : IntKind.i64.wrap (8 + (k : Int)) = (k : Int) + 8 := by rw [IntKind.wrap_i64]; omega
  have ew2 : IntKind.i64.wrap ((k : Int) + 8 - 1) = (k : Int) + 7 := by rw [IntKind.wrap_i64]; omega
  have ew3 : IntKind.i64.wrap (8 + (k : Int) - 1) = (k : Int) + 7 := by rw [IntKind.wrap_i64]; omega
  have ew4 : IntKind.i64.wrap ((k : Int) + 7) = (k : Int) + 7 := by rw [IntKind.wrap_i64]; omega
  have ew5 : 8 + (k : Int) - 1 = (k : Int) + 7 := by omega
  have Hv := Lib.hid hv
  clear hv
  cases h2 : vwd (stT (winds s k)) with
  | false =>
    have Hno := Lib.hid (IT_no3 h2)
    have H2 := Lib.hid h2
    clear h2
    go_enter Try.func79, Try.ntmps79
    go_wp2_with fail
    refine (within_any _ _ _ _).mono ?_
    rintro e w' ⟨rfl, rfl⟩
    rw [Hin.out, H2.out]
    go_wp2_with fail
    go_ret
    exact ⟨ret_bool (Hno.out).symm, Below.refl _ _⟩
  | true =>
    have Hy := Lib.hid (IT_yes Hv.out Hi.out h2)
    have H2 := Lib.hid h2
    have hW := Lib.hid (windows_any s k w (by omega) h1 (by omega))
    clear h2
    go_enter Try.func79, Try.ntmps79
    go_wp2_with fail
    refine (within_any _ _ _ _).mono ?_
    rintro e w' ⟨rfl, rfl⟩
    rw [Hin.out, H2.out]
    go_wp2_with fail
    refine hW.out.mono ?_
    rintro e w1 ⟨A1, n1, c1, rfl, ho1, hb1⟩
    have hT := Lib.hid (texts_any A1 n1 c1 (stT (winds s k)) w1 ho1.rd H2.out)
    have s1 := hb1.size
    clear ho1
    go_wp2_with fail
    refine hT.out.mono ?_
    rintro e w2 ⟨A2, n2, c2, rfl, ho2, hb2⟩
    have hl2 := Lib.hid (show n2 = (txl (stT (winds s k))).length by have := ho2.rd.slen; exact this.symm)
    clear ho2
    go_wp2_with fail
    go_ret
    exact ⟨ret_bool (by rw [Hy.out, ← hl2.out, Bool.eq_iff_iff]; simp; omega), hb1.trans (hb2.mono s1)⟩
set_option maxHeartbeats 1600000 in
theorem IsTold_any (s : List UInt8) (k : Int) (w : World) (hs : s.length ≤ 1048576) :
    Calls Try.prog 38 #[.string ⟨s.toArray⟩, .int .i64 k] w fun e w' => e = .returned (.bool (IT s k)) ∧ Below w.heap.size w w' := by
  cases h1 : vt s with
  | false =>
    have Hv := Lib.hid (IT_no1 (k := k) h1)
    have H1 := Lib.hid h1
    clear h1
    go_enter Try.func38, Try.ntmps38
    go_wp2_with fail
    refine (ValidText_any _ _ (by omega)).mono ?_
    rintro e w' ⟨rfl, hb⟩
    rw [H1.out]
    go_wp2_with fail
    go_ret
    exact ⟨ret_bool (Hv.out).symm, hb⟩
  | true =>
    have H1 := Lib.hid h1
    clear h1
    cases h2 : inR k 1 6 with
    | false =>
      have Hv := Lib.hid (IT_no2 (s := s) h2)
      have H2 := Lib.hid h2
      clear h2
      go_enter Try.func38, Try.ntmps38
      go_wp2_with fail
      refine (ValidText_any _ _ (by omega)).mono ?_
      rintro e w' ⟨rfl, hb⟩
      rw [H1.out]
      go_wp2_with fail
      refine (within_any _ _ _ _).mono ?_
      rintro e w' ⟨rfl, rfl⟩
      rw [H2.out]
      go_wp2_with fail
      go_ret
      exact ⟨ret_bool (Hv.out).symm, hb⟩
    | true =>
      obtain ⟨h3, h4⟩ := inR_true h2
      obtain ⟨k, rfl⟩ := Int.eq_ofNat_of_zero_le (show 0 ≤ k by omega)
      have H2 := Lib.hid h2
      have hT := Lib.hid (fun W => told_any s k W H1.out (by omega) (by omega))
      clear h2
      go_enter Try.func38, Try.ntmps38
      go_wp2_with fail
      refine (ValidText_any _ _ (by omega)).mono ?_
      rintro e w1 ⟨rfl, hb1⟩
      rw [H1.out]
      go_wp2_with fail
      refine (within_any _ _ _ _).mono ?_
      rintro e w' ⟨rfl, rfl⟩
      rw [H2.out]
      go_wp2_with fail
      refine (hT.out _).mono ?_
      rintro e w2 ⟨rfl, hb2⟩
      go_wp2_with fail
      go_ret
      exact ⟨rfl, hb1.trans (hb2.mono hb1.size)⟩
theorem LTo_no {s : List UInt8} (h : vt s = false) : LTo s = none := by
  unfold LTo
  simp [ltoF, IT_no1 h]
set_option maxHeartbeats 1600000 in
theorem LeastTold_any (s : List UInt8) (w : World) (hs : s.length ≤ 1048576) :
    Calls Try.prog 40 #[.string ⟨s.toArray⟩] w (RetOpt w (LTo s)) := by
  cases h1 : vt s with
  | false =>
    have Hv := Lib.hid (LTo_no h1)
    have H1 := Lib.hid h1
    clear h1
    go_enter Try.func40, Try.ntmps40
    go_wp2_with fail
    refine (ValidText_any _ _ (by omega)).mono ?_
    rintro e w' ⟨rfl, hb⟩
    rw [H1.out]
    go_wp2_with fail
    go_ret2
    exact ⟨ret_two (a := 0) (c := false) (by rw [Hv.out]; rfl) (by rw [Hv.out]; rfl), hb⟩
  | true =>
    have H1 := Lib.hid h1
    clear h1
    have hI := Lib.hid (fun (k : Nat) (h1 : 1 ≤ k) (h6 : k ≤ 6) W => told_any s k W H1.out h1 h6)
    go_enter Try.func40, Try.ntmps40
    go_wp2_with fail
    refine (ValidText_any _ _ (by omega)).mono ?_
    rintro e w1 ⟨rfl, hb1⟩
    rw [H1.out]
    go_wp2_with fail
    go_loopw [4] (fun t wr => ∃ k : Nat, 1 ≤ k ∧ k ≤ 7 ∧ t = .int .i64 k ∧ LTo s = ltoF s (7 - k) k ∧ Below w.heap.size w wr) (fun t _ => 7 - (intOf t).toNat)
    case atStart => exact ⟨1, Nat.le_refl _, by omega, rfl, rfl, hb1⟩
    case round =>
      obtain ⟨k, hk1, hk7, rfl, hlt, hbw⟩ := hrel
      have Hlt := Lib.hid hlt
      have hsz := hbw.size
      clear hlt hb1
      by_cases h6 : k ≤ 6
      · have h6' : (k : Int) ≤ 6 := by omega
        have He := Lib.hid (show 7 - k = (6 - k) + 1 by omega)
        go_wp2_with fail
        refine (hI.out k hk1 h6 wr).mono ?_
        rintro e w2 ⟨rfl, hb2⟩
        have B2 := hbw.trans (hb2.mono hsz)
        cases h : IT s (k : Int) with
        | true =>
          have Hfin := Lib.hid (show LTo s = some k by rw [Hlt.out, He.out, ltoF_yes h])
          clear h
          go_wp2_with fail
          go_ret2
          exact ⟨ret_two (by rw [Hfin.out]; rfl) (by rw [Hfin.out]; rfl), B2⟩
        | false =>
          have Hn := Lib.hid (show LTo s = ltoF s (7 - (k + 1)) (k + 1) by rw [Hlt.out, He.out, ltoF_no h, show 7 - (k + 1) = 6 - k by omega])
          clear h
          go_wp2_with fail
          go_roundw
          case rel => exact ⟨k + 1, by omega, by omega, by go_num, Hn.out, B2⟩
          case measure => simp [intOf]; omega
      · obtain rfl : k = 7 := by omega
        have Hfin := Lib.hid (show LTo s = none by rw [Hlt.out]; rfl)
        go_wp2_with fail
        go_ret2
        exact ⟨ret_two (a := 0) (c := false) (by rw [Hfin.out]; rfl) (by rw [Hfin.out]; rfl), hbw⟩
end Go.Proofs.Ytfbmcfdmffpfmaa
