/-
  The reference's TextsOf, IsTold, LeastTold.
-/
import Derived.Test.YtfbmcfdmffpfmaaTxtF
import Derived.Test.YtfbmcfdmffpfmaaOnceS
namespace Go.Proofs.Ytfbmcfdmffpfmaa
open Go.RowKit
set_option linter.unusedVariables false
set_option linter.unusedSimpArgs false

theorem RetRow.front {w w' : World} {t : TypeId} {xs : List Value} {A : Option Addr} {n c : Nat} (h : Own w' w.heap.size t A n c xs) : Front A n := Own.front h
theorem vwd_k {ws : List (List UInt8)} (h : vwd ws = true) : 1 ≤ klen ws ∧ klen ws ≤ 6 ∧ (∀ x ∈ stT ws, x.length = klen ws) ∧ ws.length ≤ 8 ∧ 1 ≤ ws.length := by
  obtain ⟨h1, h2, h3⟩ := vwd_iff.1 h
  have hk : 1 ≤ klen ws ∧ klen ws ≤ 6 := by
    cases ws with
    | nil => simp at h2
    | cons a r =>
      have := h1 a (by simp)
      omega
  exact ⟨hk.1, hk.2, fun x hx => (h1 x ((stT_perm ws).mem_iff.1 hx)).2.2.2, h3, h2⟩
/-- All texts of windows, from the empty text on. -/
theorem textsTop_any (ws : List (List UInt8)) (h : vwd ws = true) (A : Option Addr) (n c g : Nat) (w : World) (hr : Rd w w.heap.size A n c ((stT ws).map S)) (hA : Front A n) (B : Nat) (hrow : Row w B 9 (some ⟨g, 0, none⟩) 0 0 []) (hB : B ≤ w.heap.size) :
    Calls Try.prog 78 #[.string ⟨#[]⟩, .slice A n c, .slice (some ⟨g, 0, none⟩) 0 0] w (RetOwn w B ((txl ws).map S)) := by
  obtain ⟨h1, h2, h3, h4, h5⟩ := vwd_k h
  have h6 := txs_few h
  exact textsFrom_any (klen ws) h1 h2 ws.length h4 [] A n c (stT ws) g 0 0 [] B w hr hA hrow hB (stT_len ws) h3 (fun h => absurd rfl h) (by simp; omega) (by simp; omega)
set_option maxHeartbeats 1600000 in
theorem specTextsOf_any (A : Option Addr) (n c : Nat) (ws : List (List UInt8)) (w : World) (hr : Rd w w.heap.size A n c (ws.map S)) (hl : Len47 ws) :
    Calls Try.prog 42 #[.slice A n c] w (RetRow w 9 ((TX ws).map S)) := by
  have hV := Lib.hid (validWindows_any A n c ws w _ hr hl)
  cases h1 : vwd ws with
  | false =>
    have Hv := Lib.hid (show TX ws = [] by unfold TX; rw [h1]; rfl)
    have H1 := Lib.hid h1
    clear h1
    go_enter Try.func42, Try.ntmps42
    go_wp2_with fail
    refine hV.out.mono ?_
    rintro e w1 ⟨rfl, hq1⟩
    rw [H1.out]
    go_wp2_with fail
    go_ret
    rw [Hv.out]
    exact retRow_nil' _ (hq1.bel _)
  | true =>
    have Hv := Lib.hid (show TX ws = txl ws by unfold TX; rw [h1]; rfl)
    have H1 := Lib.hid h1
    have hn8 : n ≤ 8 := by have := (vwd_k h1).2.2.2.1; have := hr.slen; omega
    clear h1
    go_enter Try.func42, Try.ntmps42
    go_wp2_with fail
    refine hV.out.mono ?_
    rintro e w1 ⟨rfl, hq1⟩
    rw [H1.out]
    have hb1 := hq1.bel w.heap.size
    have s1 := hb1.size
    have hS := Lib.hid (sortTexts_any A n c ws w1 ((hr.below hb1).more s1) (by omega))
    clear hq1
    go_wp2_with fail
    refine hS.out.mono ?_
    rintro e w2 ⟨A2, n2, c2, rfl, ho2, hb2⟩
    have s2 := hb2.size
    have hT := Lib.hid (textsTop_any ws H1.out A2 n2 c2 w2.heap.size (w2.alloc (.cells #[] 9)) ((ho2.rd.alloc (Nat.le_refl _) _).more (by simp)) (Own.front ho2) w2.heap.size (Row.nil_ w2 9) (by simp))
    have B2 := hb1.trans (hb2.mono s1)
    clear ho2 hS hb2
    go_wp2_with fail
    refine hT.out.mono ?_
    rintro e w3 ⟨g3, n3, c3, rfl, hrow3, hb3⟩
    go_wp2_with fail
    go_ret
    exact ⟨_, _, _, rfl, by rw [Hv.out]; exact (hrow3.more (by omega)).own, (B2.alloc (by omega) _).trans (hb3.mono (by simp; omega))⟩
theorem IT_no1 {s : List UInt8} {k : Int} (h : vt s = false) : IT s k = false := by unfold IT; rw [h]; rfl
theorem IT_no2 {s : List UInt8} {k : Int} (h : inR k 1 6 = false) : IT s k = false := by unfold IT; rw [h]; simp
theorem IT_no3 {s : List UInt8} {k : Nat} (h : vwd (stT (winds s k)) = false) : IT s (k : Int) = false := by
  unfold IT
  rw [Int.toNat_natCast, h]
  simp
theorem IT_yes {s : List UInt8} {k : Nat} (h1 : vt s = true) (h2 : inR (k : Int) 1 6 = true) (h3 : vwd (stT (winds s k)) = true) : IT s (k : Int) = decide ((txl (stT (winds s k))).length = 1) := by
  unfold IT
  rw [h1, h2, Int.toNat_natCast, h3]
  rfl
theorem winds_47 {s : List UInt8} (k : Nat) (h : s.length ≤ 1000) : Len47 (stT (winds s k)) := by
  intro x hx
  have h1 := (stT_perm _).mem_iff.1 hx
  obtain ⟨i, hi, e⟩ := (winds_mem s k x).1 h1
  have := win_len hi
  rw [e] at this
  omega
set_option maxHeartbeats 3200000 in
theorem specIsTold_any (s : List UInt8) (k : Int) (w : World) (hs : s.length ≤ 1048576) :
    Calls Try.prog 37 #[.string ⟨s.toArray⟩, .int .i64 k] w (RetVal w (.bool (IT s k))) := by
  cases h1 : vt s with
  | false =>
    have Hv := Lib.hid (IT_no1 (k := k) h1)
    have H1 := Lib.hid h1
    clear h1
    go_enter Try.func37, Try.ntmps37
    go_wp2_with fail
    refine (validText_any _ _ (by omega)).mono ?_
    rintro e w' ⟨rfl, rfl⟩
    rw [H1.out]
    go_wp2_with fail
    go_ret
    exact ⟨ret_bool (Hv.out).symm, Below.refl _ _⟩
  | true =>
    have hl40 := vt_len h1
    have H1 := Lib.hid h1
    clear h1
    cases h2 : inR k 1 6 with
    | false =>
      have Hv := Lib.hid (IT_no2 (s := s) h2)
      have H2 := Lib.hid h2
      clear h2
      go_enter Try.func37, Try.ntmps37
      go_wp2_with fail
      refine (validText_any _ _ (by omega)).mono ?_
      rintro e w' ⟨rfl, rfl⟩
      rw [H1.out]
      go_wp2_with fail
      refine (inRange_any _ _ _ _).mono ?_
      rintro e w' ⟨rfl, rfl⟩
      rw [H2.out]
      go_wp2_with fail
      go_ret
      exact ⟨ret_bool (Hv.out).symm, Below.refl _ _⟩
    | true =>
      obtain ⟨h3, h4⟩ := inR_true h2
      obtain ⟨k, rfl⟩ := Int.eq_ofNat_of_zero_le (show 0 ≤ k by omega)
      have H2 := Lib.hid h2
      have hW := Lib.hid (fun W => specWindows_any s k W (by omega) (by omega))
      clear h2
      cases h5 : vwd (stT (winds s k)) with
      | false =>
        have Hv := Lib.hid (IT_no3 h5)
        have H5 := Lib.hid h5
        clear h5
        go_enter Try.func37, Try.ntmps37
        go_wp2_with fail
        refine (validText_any _ _ (by omega)).mono ?_
        rintro e w' ⟨rfl, rfl⟩
        rw [H1.out]
        go_wp2_with fail
        refine (inRange_any _ _ _ _).mono ?_
        rintro e w' ⟨rfl, rfl⟩
        rw [H2.out]
        go_wp2_with fail
        refine (hW.out _).mono ?_
        rintro e w1 ⟨A1, n1, c1, rfl, ho1, hb1⟩
        have hV := Lib.hid (validWindows_any A1 n1 c1 _ w1 _ ho1.rd (winds_47 k (by omega)))
        clear ho1
        go_wp2_with fail
        refine hV.out.mono ?_
        rintro e w2 ⟨rfl, hq2⟩
        rw [H5.out]
        have B2 := hb1.trans ((hq2.bel w1.heap.size).mono hb1.size)
        clear hq2
        go_wp2_with fail
        go_ret
        exact ⟨ret_bool (Hv.out).symm, B2⟩
      | true =>
        have Hv := Lib.hid (IT_yes H1.out H2.out h5)
        have H5 := Lib.hid h5
        clear h5
        go_enter Try.func37, Try.ntmps37
        go_wp2_with fail
        refine (validText_any _ _ (by omega)).mono ?_
        rintro e w' ⟨rfl, rfl⟩
        rw [H1.out]
        go_wp2_with fail
        refine (inRange_any _ _ _ _).mono ?_
        rintro e w' ⟨rfl, rfl⟩
        rw [H2.out]
        go_wp2_with fail
        refine (hW.out _).mono ?_
        rintro e w1 ⟨A1, n1, c1, rfl, ho1, hb1⟩
        have hV := Lib.hid (validWindows_any A1 n1 c1 _ w1 _ ho1.rd (winds_47 k (by omega)))
        clear ho1
        go_wp2_with fail
        refine hV.out.mono ?_
        rintro e w2 ⟨rfl, hq2⟩
        rw [H5.out]
        have B2 := hb1.trans ((hq2.bel w1.heap.size).mono hb1.size)
        clear hq2 hb1 hV
        go_wp2_with fail
        refine (hW.out _).mono ?_
        rintro e w3 ⟨A3, n3, c3, rfl, ho3, hb3⟩
        have s3 := hb3.size
        have B3 := B2.trans (hb3.mono B2.size)
        have hT := Lib.hid (textsTop_any (stT (winds s k)) H5.out A3 n3 c3 w3.heap.size (w3.alloc (.cells #[] 9)) (by rw [stT_idem]; exact (ho3.rd.alloc (Nat.le_refl _) _).more (by simp)) (Own.front ho3) w3.heap.size (Row.nil_ w3 9) (by simp))
        have S3 := B3.size
        clear ho3 hb3 B2
        go_wp2_with fail
        refine hT.out.mono ?_
        rintro e w4 ⟨g4, n4, c4, rfl, hrow4, hb4⟩
        have hl4 := Lib.hid (show n4 = (txl (stT (winds s k))).length by have := hrow4.len; rw [List.length_map] at this; exact this.symm)
        clear hrow4
        go_wp2_with fail
        go_ret
        exact ⟨ret_bool (by rw [Hv.out, ← hl4.out, Bool.eq_iff_iff]; simp; omega), (B3.alloc S3 _).trans (hb4.mono (by simp; omega))⟩
theorem ltoF_yes {s : List UInt8} {f k : Nat} (h : IT s (k : Int) = true) : ltoF s (f + 1) k = some k := by rw [ltoF, h]; rfl
theorem ltoF_no {s : List UInt8} {f k : Nat} (h : IT s (k : Int) = false) : ltoF s (f + 1) k = ltoF s f (k + 1) := by rw [ltoF, h]; rfl
set_option maxHeartbeats 1600000 in
theorem specLeastTold_any (s : List UInt8) (w : World) (hs : s.length ≤ 1048576) :
    Calls Try.prog 39 #[.string ⟨s.toArray⟩] w (RetOpt w (LTo s)) := by
  have hI := Lib.hid (fun (k : Nat) W => specIsTold_any s (k : Int) W hs)
  go_enter Try.func39, Try.ntmps39
  go_wp2_with fail
  go_loopw [4] (fun t wr => ∃ k : Nat, 1 ≤ k ∧ k ≤ 7 ∧ t = .int .i64 k ∧ LTo s = ltoF s (7 - k) k ∧ Below w.heap.size w wr) (fun t _ => 7 - (intOf t).toNat)
  case atStart => exact ⟨1, Nat.le_refl _, by omega, rfl, rfl, Below.refl _ _⟩
  case round =>
    obtain ⟨k, hk1, hk7, rfl, hlt, hbw⟩ := hrel
    have Hlt := Lib.hid hlt
    have hsz := hbw.size
    clear hlt
    by_cases h6 : k ≤ 6
    · have h6' : (k : Int) ≤ 6 := by omega
      have He := Lib.hid (show 7 - k = (6 - k) + 1 by omega)
      go_wp2_with fail
      refine (hI.out k wr).mono ?_
      rintro e w2 ⟨rfl, hb2⟩
      have B2 := hbw.trans (hb2.mono hsz)
      cases h : IT s (k : Int) with
      | true =>
        have Hfin := Lib.hid (show LTo s = some k by rw [Hlt.out, He.out, ltoF_yes h])
        clear h
        go_wp2_with fail
        go_ret2
        exact ⟨ret_two (by rw [Hfin.out]; rfl) (by rw [Hfin.out]; rfl), B2⟩
      | false =>
        have Hn := Lib.hid (show LTo s = ltoF s (7 - (k + 1)) (k + 1) by rw [Hlt.out, He.out, ltoF_no h, show 7 - (k + 1) = 6 - k by omega])
        clear h
        go_wp2_with fail
        go_roundw
        case rel => exact ⟨k + 1, by omega, by omega, by go_num, Hn.out, B2⟩
        case measure => simp [intOf]; omega
    · obtain rfl : k = 7 := by omega
      have Hfin := Lib.hid (show LTo s = none by rw [Hlt.out]; rfl)
      go_wp2_with fail
      go_ret2
      exact ⟨ret_two (a := 0) (c := false) (by rw [Hfin.out]; rfl) (by rw [Hfin.out]; rfl), hbw⟩
end Go.Proofs.Ytfbmcfdmffpfmaa
