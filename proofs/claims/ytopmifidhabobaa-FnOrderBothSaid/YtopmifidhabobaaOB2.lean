/-
  OrderBoth: the reference's.
-/
import Derived.Test.YtopmifidhabobaaOB
namespace Go.Proofs.Ytopmifidhabobaa
open Go.RowKit
set_option linter.unusedVariables false
set_option linter.unusedSimpArgs false

set_option maxRecDepth 8000 in
set_option maxHeartbeats 3200000 in
theorem specOrderBoth_any (A : Option Addr) (n c : Nat) (us : List Int) (A2 : Option Addr) (n2 c2 : Nat) (bs : List Int) (A3 : Option Addr) (n3 c3 : Nat) (L : List Int) (w : World) (hr : Rd w w.heap.size A n c (us.map I)) (hr2 : Rd w w.heap.size A2 n2 c2 (bs.map I)) (hr3 : Rd w w.heap.size A3 n3 c3 (L.map I)) :
    Calls Try.prog 44 #[.slice A n c, .slice A2 n2 c2, .slice A3 n3 c3] w (RetTwoI w (OB us bs L).1 (OB us bs L).2.1 (OB us bs L).2.2) := by
  cases ha : pk us with
  | false =>
    have Ha := Lib.hid ha
    have Hv := Lib.hid (show OB us bs L = ([], [], false) by unfold OB okP; rw [ha]; rfl)
    clear ha
    go_enter Try.func44, Try.ntmps44
    go_wp2_with fail
    refine (validCuts_any A n c us w _ hr).mono ?_
    rintro e w1 ⟨rfl, rfl⟩
    rw [Ha.out]
    go_wp2_with fail
    go_ret3
    rw [Hv.out]
    exact retTwoI_nil (Below.refl _ _)
  | true =>
  cases hb : pk bs with
  | false =>
    have Ha := Lib.hid ha
    have Hb := Lib.hid hb
    have Hv := Lib.hid (show OB us bs L = ([], [], false) by unfold OB okP; rw [ha, hb]; rfl)
    clear ha hb
    go_enter Try.func44, Try.ntmps44
    go_wp2_with fail
    refine (validCuts_any A n c us w _ hr).mono ?_
    rintro e w1 ⟨rfl, rfl⟩
    rw [Ha.out]
    go_wp2_with fail
    refine (validCuts_any A2 n2 c2 bs w1 _ hr2).mono ?_
    rintro e w2 ⟨rfl, rfl⟩
    rw [Hb.out]
    go_wp2_with fail
    go_ret3
    rw [Hv.out]
    exact retTwoI_nil (Below.refl _ _)
  | true =>
  have Ha := Lib.hid ha
  have Hb := Lib.hid hb
  have hs1 := pk_S100 ha
  have hs2 := pk_S100 hb
  have hl1 := (pk_bounds ha).1
  have hl2 := (pk_bounds hb).1
  rw [hr.ilen] at hl1
  rw [hr2.ilen] at hl2
  obtain ⟨s, hs⟩ : ∃ s, s = us.sum := ⟨_, rfl⟩
  obtain ⟨t, ht⟩ : ∃ t, t = bs.sum := ⟨_, rfl⟩
  have Hs := Lib.hid hs
  have Ht := Lib.hid ht
  by_cases hst : s = t
  · have Hok := Lib.hid (okP_iff.2 ⟨ha, hb, by rw [← hs, ← ht, hst]⟩)
    have hne : (s != t) = false := by simp [hst]
    have Hlu := Lib.hid hr.ilen
    have Hlb := Lib.hid hr2.ilen
    clear ha hb hs ht hst
    go_enter Try.func44, Try.ntmps44
    go_wp2_with fail
    refine (validCuts_any A n c us w _ hr).mono ?_
    rintro e w1 ⟨rfl, rfl⟩
    rw [Ha.out]
    go_wp2_with fail
    refine (validCuts_any A2 n2 c2 bs w1 _ hr2).mono ?_
    rintro e w2 ⟨rfl, rfl⟩
    rw [Hb.out]
    go_wp2_with fail
    refine (total_any A n c us w2 _ hr hs1 (by omega)).mono ?_
    rintro e w3 ⟨rfl, rfl⟩
    rw [← Hs.out]
    go_wp2_with fail
    refine (total_any A2 n2 c2 bs w3 _ hr2 hs2 (by omega)).mono ?_
    rintro e w0 ⟨rfl, rfl⟩
    rw [← Ht.out]
    go_wp2_with fail
    refine (sortInts_any A n c us w0 hr (by omega)).mono ?_
    rintro e w1 ⟨AS, nS, cS, rfl, hoS, hb1⟩
    obtain rfl : n = nS := by have h := hoS.rd.ilen; rw [srt_len, Hlu.out] at h; exact h
    have B1 := hb1
    have hemp : ∀ w : World, Rd (w.alloc (.cells #[] 3)) (w.alloc (.cells #[] 3)).heap.size (some ⟨w.heap.size, 0, none⟩) 0 0 (([] : List Int).map I) := fun w => ⟨rfl, Nat.le_refl _, by unfold maxLen; omega, fun h => absurd h (by omega)⟩
    go_wp2_with fail
    refine (ordersOf_any n AS n cS (srt us) ⟨w1.heap.size, 0, none⟩ 0 0 [] _ ((hoS.rd.alloc (Nat.le_refl _) _).more (by simp)) (hemp w1) rfl (by omega)).mono ?_
    rintro e w2 ⟨AX, nX, cX, X, rfl, hrowX, hinX, hPX, hb2⟩
    have hb2' : Below w1.heap.size w1 w2 := ((Below.refl w1.heap.size w1).alloc (Nat.le_refl _) _).trans (hb2.mono (by simp))
    have B2 := B1.trans (hb2'.mono B1.size)
    have hrowX := hrowX.more (B' := w1.heap.size) (by simp)
    have hinX := hinX.more (lo' := w1.heap.size) (by simp)
    clear hb2 hoS hb1
    go_wp2_with fail
    refine (sortInts_any A2 n2 c2 bs w2 ((hr2.below B2).more B2.size) (by omega)).mono ?_
    rintro e w3 ⟨AT, nT, cT, rfl, hoT, hb3⟩
    obtain rfl : n2 = nT := by have h := hoT.rd.ilen; rw [srt_len, Hlb.out] at h; exact h
    have B3 := B2.trans (hb3.mono B2.size)
    have hinX2 := hinX
    have hrowX := hrowX.kept hb3
    have hinX := hinX.below hb3
    go_wp2_with fail
    refine (ordersOf_any n2 AT n2 cT (srt bs) ⟨w3.heap.size, 0, none⟩ 0 0 [] _ ((hoT.rd.alloc (Nat.le_refl _) _).more (by simp)) (hemp w3) rfl (by omega)).mono ?_
    rintro e w4 ⟨AY, nY, cY, Y, rfl, hrowY, hinY, hPY, hb4⟩
    have hb4' : Below w3.heap.size w3 w4 := ((Below.refl w3.heap.size w3).alloc (Nat.le_refl _) _).trans (hb4.mono (by simp))
    have B4 := B3.trans (hb4'.mono B3.size)
    have hrowY := hrowY.more (B' := w3.heap.size) (by simp)
    have hinY := hinY.more (lo' := w3.heap.size) (by simp)
    have hrowX := hrowX.kept hb4'
    have hinX := hinX.below hb4'
    have hb24 : Below w2.heap.size w2 w4 := hb3.trans (hb4'.mono hb3.size)
    have hs01 := B1.size
    have hs12 := hb2'.size
    have hs23 := hb3.size
    have hs34 := hb4'.size
    have hnX : nX ≤ 4000 := by
      have h1 := hrowX.len
      have h2 := congrArg List.length hPX
      have h3 := oS_len n (srt us) [] (by rw [srt_len, Hlu.out]; omega)
      have h4 : 5 ^ n ≤ 5 ^ 5 := Nat.pow_le_pow_right (by omega) (by omega)
      rw [List.length_map] at h1 h2
      omega
    have hnY : nY ≤ 4000 := by
      have h1 := hrowY.len
      have h2 := congrArg List.length hPY
      have h3 := oS_len n2 (srt bs) [] (by rw [srt_len, Hlb.out]; omega)
      have h4 : 5 ^ n2 ≤ 5 ^ 5 := Nat.pow_le_pow_right (by omega) (by omega)
      rw [List.length_map] at h1 h2
      omega
    have HlX := Lib.hid (show X.length = nX by have := hrowX.len; simpa using this)
    have HlY := Lib.hid (show Y.length = nY by have := hrowY.len; simpa using this)
    have Hxy := Lib.hid (show OBf (X.map Prod.snd) (Y.map Prod.snd) L = OBf (oS us.length (srt us) []) (oS bs.length (srt bs) []) L by rw [hPX, hPY, Hlu.out, Hlb.out])
    have Hpx := Lib.hid (show ∀ p ∈ X, p.2.Perm us from fun p hp => by
      have h : p.2 ∈ oS (srt us).length (srt us) [] := by rw [srt_len, Hlu.out, ← hPX]; exact List.mem_map_of_mem hp
      exact (oS_perm h).trans (srt_perm us))
    have Hpy := Lib.hid (show ∀ p ∈ Y, p.2.Perm bs from fun p hp => by
      have h : p.2 ∈ oS (srt bs).length (srt bs) [] := by rw [srt_len, Hlb.out, ← hPY]; exact List.mem_map_of_mem hp
      exact (oS_perm h).trans (srt_perm bs))
    clear hPX hPY hoT hb2' hb4 hb3 hemp B1 B2 B3 hs1 hs2
    go_wp2_with fail
    go_loopw [11] (fun i wr => ∃ k : Nat, k ≤ nX ∧ i = .int .i64 k ∧ (∀ p ∈ X.take k, ((Y.map Prod.snd).find? fun y => decide (CB p.2 y = L)) = none) ∧ Below w4.heap.size w4 wr) (fun i _ => nX - (intOf i).toNat)
    case atStart => exact ⟨0, Nat.zero_le _, rfl, (fun p hp => by simp at hp), Below.refl _ _⟩
    case round =>
      obtain ⟨k, hk, rfl, hno, hbw⟩ := hrel
      have Hno := Lib.hid hno
      clear hno
      by_cases hlt : k < nX
      · obtain ⟨p, hp⟩ : ∃ p, X[k]? = some p := ⟨_, List.getElem?_eq_getElem (by have := HlX.out; omega)⟩
        obtain ⟨gX, curX, rfl, _, hgX, _⟩ := hrowX.blk (g := 0) (show 0 < nX by omega)
        obtain ⟨hcp, _⟩ := hrowX.cells (map_at hp)
        have hltX : gX < w4.heap.size := (Array.getElem?_eq_some_iff.1 hgX).1
        have Hp := Lib.hid hp
        obtain ⟨⟨pa, pn, pc⟩, pl⟩ := p
        dsimp only at hcp
        have hlt' : (k : Int) < (nX : Int) := by omega
        have k0 : (0 : Int) ≤ (k : Int) := by omega
        have e5 : IntKind.i64.wrap ((k : Int) + 1) = (k : Int) + 1 := by rw [IntKind.wrap_i64]; omega
        clear hp hgX
        go_wp2_with fail
        obtain ⟨wo, hwo⟩ : ∃ wo : World, wo = wr := ⟨_, rfl⟩
        rw [← hwo] at hbw
        go_loopw [12] (fun i wr => ∃ j : Nat, j ≤ nY ∧ i = .int .i64 j ∧ (∀ q ∈ Y.take j, decide (CB pl q.2 = L) = false) ∧ Below w4.heap.size w4 wr) (fun i _ => nY - (intOf i).toNat)
        case atStart => exact ⟨0, Nat.zero_le _, rfl, (fun p hp => by simp at hp), by rw [← hwo]; exact hbw⟩
        case round =>
          obtain ⟨j, hj, rfl, hnoj, hbj⟩ := hrel
          have Hnoj := Lib.hid hnoj
          clear hnoj
          by_cases hltj : j < nY
          · obtain ⟨q, hq⟩ : ∃ q, Y[j]? = some q := ⟨_, List.getElem?_eq_getElem (by have := HlY.out; omega)⟩
            obtain ⟨gY, curY, rfl, _, hgY, _⟩ := hrowY.blk (g := 0) (show 0 < nY by omega)
            obtain ⟨hcq, _⟩ := hrowY.cells (map_at hq)
            have hltY : gY < w4.heap.size := (Array.getElem?_eq_some_iff.1 hgY).1
            have Hq := Lib.hid hq
            obtain ⟨⟨qa, qn, qc⟩, ql⟩ := q
            dsimp only at hcq
            have hltj' : (j : Int) < (nY : Int) := by omega
            have j0 : (0 : Int) ≤ (j : Int) := by omega
            have e6 : IntKind.i64.wrap ((j : Int) + 1) = (j : Int) + 1 := by rw [IntKind.wrap_i64]; omega
            have hop : Own w4 w1.heap.size 3 pa pn pc (pl.map I) := hinX _ (List.mem_of_getElem? Hp.out)
            have hoq : Own w4 w3.heap.size 3 qa qn qc (ql.map I) := hinY _ (List.mem_of_getElem? Hq.out)
            have hokj : okP pl ql = true := okP_perm (Hpx.out _ (List.mem_of_getElem? Hp.out)) (Hpy.out _ (List.mem_of_getElem? Hq.out)) Hok.out
            have hbd : Below w4.heap.size w4 wr.drew := hbj.drew
            have hC := specCutBoth0_any pa pn pc pl qa qn qc ql wr.drew ((hop.rd.below hbd).more hbd.size) ((hoq.rd.below hbd).more hbd.size) hokj
            have hS := fun (A5 : Option Addr) (n5 c5 : Nat) (w' : World) (h5 : Rd w' w'.heap.size A5 n5 c5 ((CB pl ql).map I)) (hb5 : Below w4.heap.size w4 w') => sameInts_any A5 n5 c5 (CB pl ql) A3 n3 c3 L w' _ _ h5 (hr3.below (B4.trans (hb5.mono B4.size)))
            have hcX := hcp
            clear hq hokj hgY
            obtain ⟨d, hd⟩ : ∃ d, d = decide (CB pl ql = L) := ⟨_, rfl⟩
            have Hd := Lib.hid hd
            rw [← hd] at hS
            clear hd
            go_wp2_with fail
            go_region_held3 (fun w' => w'.cell? ⟨gX, k, none⟩ = some (.slice pa pn pc) ∧ w'.cell? ⟨gY, j, none⟩ = some (.slice qa qn qc) ∧ Below w4.heap.size w4 w')
              ((refine kp_two hcp hltX hcq hltY ?_; focus (repeat (first | assumption | exact hbd | refine bel_call hb7 ?_ (Nat.le_refl _) | refine bel_call hb6 ?_ (Nat.le_refl _) | apply Below.drew))))
              (first
              | (go_at_call 74
                 with_reducible refine hC.mono ?_
                 rintro e w6 ⟨A6, n6, c6, rfl, ho6, hb6⟩)
              | (go_at_call 67
                 with_reducible refine (hS _ _ _ _ ho6.rd (bel_call hb6 hbd (Nat.le_refl _))).mono ?_
                 rintro e w7 ⟨rfl, hq7⟩
                 have hb7 := hq7.bel w6.heap.size))
            all_goals
              have hb47 : Below w4.heap.size w4 w7 := bel_call hb7 (bel_call hb6 hbd (Nat.le_refl _)) (Nat.le_refl _)
              have hc1 := (hb47.cell (p := ⟨gX, k, none⟩) hltX).trans hcp
              have hc2 := (hb47.cell (p := ⟨gY, j, none⟩) hltY).trans hcq
              clear hC hS hb6 hb7 hbd hq7 ho6 hcX hcp hcq hbw hbj
              cases d with
              | true =>
                have Hv := Lib.hid (show OB us bs L = (pl, ql, true) by
                  have heq : CB pl ql = L := of_decide_eq_true Hd.out.symm
                  have e1 : (Y.map Prod.snd).find? (fun y => decide (CB pl y = L)) = some ql := find_at (k := j) (fun y hy => by
                    rw [← List.map_take] at hy
                    obtain ⟨q, hq, rfl⟩ := List.mem_map.1 hy
                    exact Hnoj.out q hq) (by rw [List.getElem?_map, Hq.out]; rfl) (by simpa using heq)
                  have e2 : (X.map Prod.snd).find? (fun x => ((Y.map Prod.snd).find? fun y => decide (CB x y = L)).isSome) = some pl := find_at (k := k) (fun x hx => by
                    rw [← List.map_take] at hx
                    obtain ⟨p, hp, rfl⟩ := List.mem_map.1 hx
                    rw [Hno.out p hp]
                    rfl) (by rw [List.getElem?_map, Hp.out]; rfl) (by rw [e1]; rfl)
                  unfold OB
                  rw [Hok.out, if_pos rfl, ← Hxy.out]
                  unfold OBf
                  rw [e2]
                  simp only [Option.bind_some, e1, Option.map_some])
                go_wp2_with fail
                go_quiet (fail)
                go_wp2_with fail
                go_ret3
                rw [Hv.out]
                have hb48 := bel_drewN hb47 nq
                have hs48 := hb48.size
                exact ⟨pa, pn, pc, qa, qn, qc, w1.heap.size, w2.heap.size, w3.heap.size, w4.heap.size, rfl, Own.hi (hinX2 _ (List.mem_of_getElem? Hp.out)) (hb24.trans (hb48.mono (by omega))), hoq.hi hb48, ⟨by omega, by omega, by omega, by omega, .inl (by omega)⟩, B4.trans (hb48.mono B4.size)⟩
              | false =>
                go_wp2_with fail
                go_roundw
                case rel =>
                  refine ⟨j + 1, by omega, by go_num, fun q hq => ?_, hb47⟩
                  rw [List.take_add_one, Hq.out, List.mem_append] at hq
                  rcases hq with hq | hq
                  · exact Hnoj.out q hq
                  · simp at hq
                    subst hq
                    exact Hd.out.symm
                case measure => simp [intOf]; omega
          · obtain rfl : j = nY := by omega
            have hltj' : ¬ (j : Int) < (j : Int) := by omega
            have Hnp := Lib.hid (show ((Y.map Prod.snd).find? fun y => decide (CB pl y = L)) = none from find_no (fun y hy => by
              obtain ⟨q, hq, rfl⟩ := List.mem_map.1 hy
              exact Hnoj.out q (by rw [List.take_of_length_le (by have := HlY.out; omega)]; exact hq)))
            go_wp2_with fail
            go_roundw
            case rel =>
              refine ⟨k + 1, by omega, by go_num, fun p hp => ?_, hbj⟩
              rw [List.take_add_one, Hp.out, List.mem_append] at hp
              rcases hp with hp | hp
              · exact Hno.out p hp
              · simp at hp
                subst hp
                exact Hnp.out
            case measure => simp [intOf]; omega
      · obtain rfl : k = nX := by omega
        have hlt' : ¬ (k : Int) < (k : Int) := by omega
        have Hv := Lib.hid (show OB us bs L = ([], [], false) by
          unfold OB
          rw [Hok.out, if_pos rfl, ← Hxy.out]
          unfold OBf
          rw [find_no (fun x hx => ?_)]
          · rfl
          · obtain ⟨p, hp, rfl⟩ := List.mem_map.1 hx
            rw [Hno.out p (by rw [List.take_of_length_le (by have := HlX.out; omega)]; exact hp)]
            rfl)
        go_wp2_with fail
        go_ret3
        rw [Hv.out]
        exact retTwoI_nil (B4.trans (hbw.mono B4.size))
  · have Hv := Lib.hid (show OB us bs L = ([], [], false) by unfold OB okP; rw [← hs, ← ht]; simp [hst])
    have hne : (s != t) = true := by simp [hst]
    clear ha hb hs ht hst
    go_enter Try.func44, Try.ntmps44
    go_wp2_with fail
    refine (validCuts_any A n c us w _ hr).mono ?_
    rintro e w1 ⟨rfl, rfl⟩
    rw [Ha.out]
    go_wp2_with fail
    refine (validCuts_any A2 n2 c2 bs w1 _ hr2).mono ?_
    rintro e w2 ⟨rfl, rfl⟩
    rw [Hb.out]
    go_wp2_with fail
    refine (total_any A n c us w2 _ hr hs1 (by omega)).mono ?_
    rintro e w3 ⟨rfl, rfl⟩
    rw [← Hs.out]
    go_wp2_with fail
    refine (total_any A2 n2 c2 bs w3 _ hr2 hs2 (by omega)).mono ?_
    rintro e w4 ⟨rfl, rfl⟩
    rw [← Ht.out]
    go_wp2_with fail
    go_ret3
    rw [Hv.out]
    exact retTwoI_nil (Below.refl _ _)
end Go.Proofs.Ytopmifidhabobaa
