/-
  Cuts: the reference's cutBoth and CutBoth.
-/
import Derived.Test.YtopmifidhabobaaCut2
import Derived.Maps.AppendAt
namespace Go.Proofs.Ytopmifidhabobaa
open Go.RowKit
set_option linter.unusedVariables false
set_option linter.unusedSimpArgs false

set_option maxRecDepth 8000 in
set_option maxHeartbeats 3200000 in
theorem specCutBoth0_any (A : Option Addr) (n c : Nat) (us : List Int) (A2 : Option Addr) (n2 c2 : Nat) (bs : List Int) (w : World) (hr : Rd w w.heap.size A n c (us.map I)) (hr2 : Rd w w.heap.size A2 n2 c2 (bs.map I)) (hok : okP us bs = true) :
    Calls Try.prog 74 #[.slice A n c, .slice A2 n2 c2] w (RetRow w 3 ((CB us bs).map I)) := by
  obtain ⟨ha, hb, hsum⟩ := okP_iff.1 hok
  have hs1 := pk_S100 ha
  have hs2 := pk_S100 hb
  obtain ⟨⟨a1, a5⟩, _, t1, t300⟩ := pk_bounds ha
  obtain ⟨⟨b1, b5⟩, _, _, _⟩ := pk_bounds hb
  have hn := hr.ilen
  have hn2 := hr2.ilen
  rw [hn] at a1 a5
  rw [hn2] at b1 b5
  obtain ⟨i0, hi, hz0, hz1, hz2⟩ := info_parts Try.infoI
  obtain ⟨L, hL⟩ : ∃ L, L = enS us ++ enS bs := ⟨_, rfl⟩
  have hLl : L.length = (n - 1) + (n2 - 1) := by rw [hL, List.length_append]; unfold enS; rw [upto_length, upto_length, hn, hn2]
  have hLb : ∀ x ∈ L, 0 ≤ x ∧ x ≤ 500 := fun x hx => by
    rw [hL, List.mem_append] at hx
    rcases hx with hx | hx
    · obtain ⟨k, hk, rfl⟩ := mem_upto.1 hx
      have := hs1.sum (k + 1)
      omega
    · obtain ⟨k, hk, rfl⟩ := mem_upto.1 hx
      have := hs2.sum (k + 1)
      omega
  obtain ⟨t, ht⟩ : ∃ t, t = us.sum := ⟨_, rfl⟩
  have Href := Lib.hid (show 0 :: srt (mkS t L L.length) = mks us bs by rw [ht, hL]; exact mks_ref ha hb hsum)
  have HL := Lib.hid hL
  have HT := Lib.hid ht
  rw [← ht] at t1 t300
  clear hL ht hsum ha hb hn hn2
  go_enter Try.func74, Try.ntmps74
  go_wp2_with fail
  refine (total_any A n c us w _ hr hs1 (by omega)).mono ?_
  rintro e w' ⟨rfl, rfl⟩
  rw [← HT.out]
  have hrow0 : Row (w'.alloc (.cells #[.int .i64 t] 3)) w'.heap.size 3 (some ⟨w'.heap.size, 0, none⟩) 1 1 [.int .i64 t] := Row.of_block #[.int .i64 t] 1 (heap_al0 w' _) (Nat.le_refl _) rfl (by omega)
  have hb0 : Below w'.heap.size w' (w'.alloc (.cells #[.int .i64 t] 3)) := (Below.refl _ _).alloc (Nat.le_refl _) _
  go_wp2_with fail
  obtain ⟨w0, hw0⟩ : ∃ w0, w0 = w'.alloc (.cells #[.int .i64 t] 3) := ⟨_, rfl⟩
  have hsz0 : w0.heap.size = w'.heap.size + 1 := by rw [hw0]; simp
  rw [← hw0] at hrow0 hb0 ⊢
  clear hw0
  refine (ends_any A n c us w0 ((hr.below hb0).more hb0.size) hs1 a1 (by omega)).mono ?_
  rintro e w1 ⟨g1, c1, rfl, hrow1, hb1⟩
  have B1 := hb0.trans (hb1.mono hb0.size)
  have s1 := hb1.size
  go_wp2_with fail
  refine (ends_any A2 n2 c2 bs w1 ((hr2.below B1).more B1.size) hs2 b1 (by omega)).mono ?_
  rintro e w2 ⟨g2, c2', rfl, hrow2, hb2⟩
  have B2 := B1.trans (hb2.mono B1.size)
  have hrow1 := hrow1.kept hb2
  have s2 := hb2.size
  have HL2 := Lib.hid (show (enS us).map I ++ (enS bs).map I = L.map I by rw [HL.out, List.map_append])
  have Hl2 := Lib.hid (show (enS bs).map I = (enS bs).map I from rfl)
  have hl2 : ((enS bs).map I).length = n2 - 1 := hrow2.len
  go_wp2_with (at_builtin; refine wpList_appN _ rfl _ _ 22 rfl w0.heap.size 3 i0 (.int .i64 0) 8 Try.underlying22 hi hz0 hz1 hz2 rfl _ _ _ _ rfl hrow1 ⟨g2, 0, none⟩ (n2 - 1) c2' ((enS bs).map I) rfl hl2 (rd_news hrow2.rd) (oneIs _) ((n - 1) + (n2 - 1)) rfl (by omega) (by omega) (by omega) ?_; intro AL cL w3 hownL hgrow3 hfresh3)
  have hb3 : Below w0.heap.size w0 w3 := kp_grown (hb1.trans (hb2.mono s1)) (Nat.le_refl _) hgrow3 (row_ge hrow1)
  have hrow0 := hrow0.kept hb3
  rw [HL2.out] at hownL
  obtain ⟨nL, hnL⟩ : ∃ nL, nL = (n - 1) + (n2 - 1) := ⟨_, rfl⟩
  rw [← hnL] at hownL hLl ⊢
  have hnL8 : nL ≤ 8 := by omega
  have hrdL := hownL.rd
  have hgeL : ∀ b o, AL = some ⟨b, o, none⟩ → w0.heap.size ≤ b := fun b o e => row_ge hownL b (by rw [e]; rfl)
  have B3 : Below w'.heap.size w' w3 := hb0.trans (hb3.mono hb0.size)
  have s3 := hb3.size
  clear hrow1 hrow2 hownL hgrow3 hfresh3 hb1 hb2 hb3 B1 B2 HL2 Hl2 hl2 hnL a5 b5 hr hr2 hs1 hs2 HL HT
  go_loopw [5, 7] (fun v i wr => ∃ (k : Nat) (A' : Option Addr) (m c' : Nat), k ≤ nL ∧ i = .int .i64 k ∧ v = .slice A' m c' ∧ m ≤ k + 1 ∧ 1 ≤ m ∧ Row wr w'.heap.size 3 A' m c' ((mkS t L k).map I) ∧ Below w'.heap.size w' wr ∧ Rd wr w3.heap.size AL nL cL (L.map I) ∧ w3.heap.size ≤ wr.heap.size ∧ (∀ b o, AL = some ⟨b, o, none⟩ → (Value.slice A' m c').ownBlock ≠ some b)) (fun _ i _ => nL - (intOf i).toNat)
  case atStart =>
    refine ⟨0, _, 1, 1, Nat.zero_le _, rfl, rfl, by omega, by omega, hrow0, B3, hrdL, Nat.le_refl _, fun b o e he => ?_⟩
    have h1 := hgeL b o e
    have h2 : w'.heap.size = b := by simpa [Value.ownBlock] using he
    omega
  case round =>
    obtain ⟨k, A', m, c', hk, rfl, rfl, hmk, hm1, hrow, hbw, hrd, hsz3, hneL⟩ := hrel
    have hsz := hbw.size
    by_cases hlt : k < nL
    · obtain ⟨b, o, y, rfl, hb, hy, hc⟩ := hrd.int hlt
      have hlt' : (k : Int) < (nL : Int) := by omega
      have hyD := getD_at hy
      have hstep : mkS t L (k + 1) = if y ∈ mkS t L k then mkS t L k else mkS t L k ++ [y] := by rw [mkS, hyD]
      clear hy hyD
      by_cases hin : y ∈ mkS t L k
      · have Hst := Lib.hid (show mkS t L (k + 1) = mkS t L k by rw [hstep, if_pos hin])
        have hd : decide (y ∈ mkS t L k) = true := decide_eq_true hin
        clear hstep hin
        go_wp2_with fail
        refine (hasInt_any A' m c' (mkS t L k) y wr _ hrow.rd).mono ?_
        rintro e w4 ⟨rfl, rfl⟩
        rw [hd]
        go_wp2_with fail
        go_roundw
        case rel => exact ⟨k + 1, A', m, c', by omega, by go_num, rfl, by omega, hm1, by rw [Hst.out]; exact hrow, hbw, hrd, hsz3, hneL⟩
        case measure => simp [intOf]; omega
      · have Hst := Lib.hid (show (mkS t L (k + 1)).map I = (mkS t L k).map I ++ [.int .i64 y] by rw [hstep, if_neg hin, map_snocI])
        have hd : decide (y ∈ mkS t L k) = false := decide_eq_false hin
        clear hstep hin
        go_wp2_with fail
        refine (hasInt_any A' m c' (mkS t L k) y wr _ hrow.rd).mono ?_
        rintro e w4 ⟨rfl, rfl⟩
        rw [hd]
        go_wp2_with (at_builtin; refine wpList_appN _ rfl _ _ 22 rfl w'.heap.size 3 i0 (.int .i64 0) 8 Try.underlying22 hi hz0 hz1 hz2 rfl _ _ _ _ rfl (hrow.alloc _) _ 1 1 [.int .i64 y] rfl rfl (cell_one_new _ _ _) (oneIs [y]) (m + 1) rfl (by omega) (by omega) (by simp; omega) ?_; intro A2' c2 w5 hrow5 hgrow5 hfresh5)
        have hbw5 : Below w'.heap.size w' w5 := kp_grown (kp_alloc _ hbw (Nat.le_refl _)) (Nat.le_refl _) hgrow5 (row_ge hrow)
        have hrd5 := (hrd.alloc hsz3 (.cells #[.int .i64 y] 3)).aside hgrow5 (by simp; omega) (fun _ b' o' e => hneL b' o' e)
        have hne5 : ∀ b' o', some (⟨b, o, none⟩ : Addr) = some ⟨b', o', none⟩ → (Value.slice A2' (m + 1) c2).ownBlock ≠ some b' := fun b' o' e he => by
          rcases hfresh5 with h | h
          · exact hneL b' o' e (h.symm.trans he)
          · have h2 := h.symm.trans he
            injection e with e
            injection e with e1 e2
            injection h2 with h2
            simp at h2
            omega
        have hs5 := hgrow5.size
        clear hgrow5 hfresh5
        go_wp2_with fail
        go_roundw
        case rel => exact ⟨k + 1, A2', m + 1, c2, by omega, by go_num, rfl, by omega, by omega, by rw [Hst.out]; exact hrow5, hbw5, hrd5, by simp at hs5; omega, hne5⟩
        case measure => simp [intOf]; omega
    · obtain rfl : k = nL := by omega
      have hlt' : ¬ (k : Int) < (k : Int) := by omega
      have Href2 := Lib.hid (show 0 :: srt (mkS t L k) = mks us bs by rw [← Href.out, hLl])
      clear hneL hrd hrdL hgeL
      go_wp2_with fail
      refine (sortInts_any A' m c' (mkS t L k) wr hrow.rd (by omega)).mono ?_
      rintro e w5 h5
      obtain ⟨A5, n5, c5, rfl, ho5, hb5⟩ := h5
      have B5 := hbw.trans (hb5.mono hbw.size)
      obtain ⟨M, hM⟩ : ∃ M, M = srt (mkS t L k) := ⟨_, rfl⟩
      rw [← hM] at ho5
      have hMb : ∀ x ∈ M, 0 ≤ x ∧ x ≤ 500 := fun x hx => by
        rw [hM, (srt_perm _).mem_iff] at hx
        rcases ((mkS_spec t L k (by omega)).2 x).1 hx with rfl | hx
        · omega
        · exact hLb x (List.mem_of_mem_take hx)
      have hn5 := ho5.rd.ilen
      have hn5' : n5 ≤ 9 := by
        have := mkS_len t L k
        rw [← hn5, hM, srt_len]
        omega
      have Hend := Lib.hid (show CB us bs = srt (dfTo (0 :: M) n5) by
        unfold CB dfs
        rw [← Href2.out, ← hM]
        congr 2)
      have hr5 := ho5.rd
      clear hM ho5 hrow Href Href2 hLb hLl
      have s5 := B5.size
      go_wp2_with fail
      go_loopw [8, 9, 10] (fun v l i wr => ∃ (j : Nat) (A' : Option Addr) (c' : Nat), j ≤ n5 ∧ i = .int .i64 j ∧ v = .slice A' j c' ∧ l = .int .i64 ((0 :: M).getD j 0) ∧ Row wr w5.heap.size 3 A' j c' ((dfTo (0 :: M) j).map I) ∧ Below w5.heap.size w5 wr) (fun _ _ i _ => n5 - (intOf i).toNat)
      case atStart => exact ⟨0, _, 0, Nat.zero_le _, rfl, rfl, rfl, Row.nil_ w5 3, (Below.refl _ _).alloc (Nat.le_refl _) _⟩
      case round =>
        obtain ⟨j, A', c', hj, rfl, rfl, rfl, hrow, hbw⟩ := hrel
        have hg : 0 ≤ (0 :: M).getD j 0 ∧ (0 :: M).getD j 0 ≤ 500 := by
          cases j with
          | zero => simp
          | succ j =>
            rw [List.getD_cons_succ, getD_of_lt (by omega)]
            exact hMb _ (List.getElem_mem _)
        obtain ⟨l, hl⟩ : ∃ l, l = (0 :: M).getD j 0 := ⟨_, rfl⟩
        rw [← hl] at hg ⊢
        have hsz := hbw.size
        by_cases hlt : j < n5
        · obtain ⟨b, o, y, rfl, hb, hy, hc⟩ := (hr5.below hbw).int hlt
          have hlt' : (j : Int) < (n5 : Int) := by omega
          have hy500 := hMb y (List.mem_of_getElem? hy)
          have HyD := Lib.hid (show (0 :: M).getD (j + 1) 0 = y by rw [List.getD_cons_succ]; exact getD_at hy)
          have Hst := Lib.hid (show (dfTo (0 :: M) (j + 1)).map I = (dfTo (0 :: M) j).map I ++ [.int .i64 (y - l)] by rw [dfTo_succ, HyD.out, ← hl, map_snocI])
          have e1 : IntKind.i64.wrap (y - l) = y - l := by rw [IntKind.wrap_i64]; omega
          clear hy hl
          go_wp2_with (at_builtin; refine wpList_app1 _ rfl _ _ 22 rfl w5.heap.size 3 i0 (.int .i64 0) 8 Try.underlying22 hi hz0 hz1 hz2 rfl _ _ _ _ rfl (hrow.alloc _) _ (.int .i64 (y - l)) rfl (cell_one_new _ _ _) rfl (by omega) (by omega) (by simp; omega) ?_; intro A2' c2 w6 hown6 hgrow6; have hbw6 : Below w5.heap.size w5 w6 := kp_grown (kp_alloc _ hbw (Nat.le_refl _)) (Nat.le_refl _) hgrow6 (row_ge hrow); have hc6 := ((hbw6.cell (p := ⟨b, o + j, none⟩) hb).trans (hbw.cell (p := ⟨b, o + j, none⟩) hb).symm).trans hc)
          clear hgrow6
          go_roundw
          case rel => exact ⟨j + 1, A2', c2, by omega, by go_num, rfl, by rw [HyD.out], by rw [Hst.out]; exact hown6, hbw6⟩
          case measure => simp [intOf]; omega
        · obtain rfl : j = n5 := by omega
          have hlt' : ¬ (j : Int) < (j : Int) := by omega
          clear hl
          go_wp2_with fail
          refine (sortInts_any A' j c' (dfTo (0 :: M) j) wr hrow.rd (by omega)).mono ?_
          rintro e w7 h7
          obtain ⟨A7, n7, c7, rfl, ho7, hb7⟩ := retRow_from (B5.trans (hbw.mono s5)) h7
          go_wp2_with fail
          go_ret
          rw [Hend.out]
          exact ⟨_, _, _, rfl, ho7, hb7⟩
end Go.Proofs.Ytopmifidhabobaa
