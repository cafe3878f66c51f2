/-
  slices.CompactFunc on rows of rows of numbers.
-/
import Derived.Test.YtopmifidhabobaaSpl
namespace Go.Proofs.Ytopmifidhabobaa
open Go.RowKit
set_option linter.unusedVariables false
set_option linter.unusedSimpArgs false

theorem Row.cells {w : World} {base g n cap : Nat} {e : TypeId} {xs : List Value} (h : Row w base e (some ⟨g, 0, none⟩) n cap xs) {j : Nat} {u : Value} (hu : xs[j]? = some u) : w.cell? ⟨g, j, none⟩ = some u ∧ w.frozen? ⟨g, j, none⟩ = false := by
  have hj : j < xs.length := (List.getElem?_eq_some_iff.1 hu).1
  have hl := h.len
  obtain ⟨g', cur, e1, _, hb, ht, _⟩ := h.blk (g := 0) (by omega)
  injection e1 with e1
  injection e1 with e1
  subst e1
  refine ⟨?_, frozen_of_row w g j cur _ hb⟩
  rw [cell_of_row w g j cur _ (0, 0) hb]
  rw [← ht, List.getElem?_take_of_lt (by omega)] at hu
  simpa using hu
theorem map_at {P : List SP} {k : Nat} {p : SP} (h : P[k]? = some p) : (P.map V)[k]? = some (.slice p.1.1 p.1.2.1 p.1.2.2) := by rw [List.getElem?_map, h]; rfl
theorem grown_own {w w' : World} {g n c : Nat} (h : w.grownBy w' (some g)) : w.grownBy w' (Value.slice (some ⟨g, 0, none⟩) n c).ownBlock := h
theorem Try.zeroSI (w : World) : (zeroValue 22).run Try.prog w = .ok (.slice none 0 0) w := by kernel_rfl
set_option maxRecDepth 8000 in
set_option maxHeartbeats 3200000 in
theorem CompactFunc_any (N lo : Nat) (A : Option Addr) (n c : Nat) (P : List SP) (w : World) (hrow : Row w N 22 A n c (P.map V)) (hin : OwnP w lo P) (hn6 : n ≤ 1000000) :
    Calls Try.prog 58 #[.slice A n c, .func (.func 59) #[] #[]] w fun e w' => e = .returned (.slice A (cmp P n).length c) ∧ Row w' N 22 A (cmp P n).length c ((cmp P n).map V) ∧ w.grownBy w' (Value.slice A n c).ownBlock := by
  have hlen : P.length = n := by have := hrow.len; simpa using this
  have Hlen := Lib.hid hlen
  have hnc := hrow.own.2.1
  have hcm := hrow.own.2.2.1
  unfold maxLen at hcm
  by_cases h2 : n < 2
  · have Hc := Lib.hid (show cmp P n = P by
      rcases (show n = 0 ∨ n = 1 by omega) with rfl | rfl
      · rw [List.eq_nil_of_length_eq_zero hlen]; rfl
      · match P, hlen with
        | [p], _ => rfl)
    clear hlen
    go_enter Try.func58, Try.ntmps58
    go_wp2_with fail
    go_ret
    rw [Hc.out, Hlen.out]
    exact ⟨rfl, hrow, grown_refl _ _⟩
  · obtain ⟨g, cur0, rfl, hg, hb0, _⟩ := hrow.blk (g := 0) (show 0 < n by omega)
    have Hrow := Lib.hid hrow
    have Hin := Lib.hid hin
    clear hlen hrow hin hb0
    go_enter Try.func58, Try.ntmps58
    go_wp2_with fail
    go_loopw [5] (fun s wr => ∃ k : Nat, 1 ≤ k ∧ k ≤ n ∧ s = .int .i64 k ∧ cmp P k = P.take k ∧ Quiet w wr) (fun s _ => n - (intOf s).toNat)
    case atStart =>
      refine ⟨1, Nat.le_refl _, by omega, rfl, ?_, Quiet.refl _⟩
      have hp : P[0]? = some (P[0]'(by have := Hlen.out; omega)) := List.getElem?_eq_getElem (by have := Hlen.out; omega)
      rw [show (1 : Nat) = 0 + 1 by rfl, cmp_keep hp (.inl rfl), List.take_succ_eq_append_getElem (by have := Hlen.out; omega)]
      rfl
    case round =>
      obtain ⟨k, hk1, hkn, rfl, hcmp, hq⟩ := hrel
      have Hcmp := Lib.hid hcmp
      clear hcmp
      by_cases hlt : k < n
      · obtain ⟨m, rfl⟩ : ∃ m, k = m + 1 := ⟨k - 1, by omega⟩
        obtain ⟨p, hp⟩ : ∃ p, P[m + 1]? = some p := ⟨_, List.getElem?_eq_getElem (by have := Hlen.out; omega)⟩
        obtain ⟨q, hq1⟩ : ∃ q, P[m]? = some q := ⟨_, List.getElem?_eq_getElem (by have := Hlen.out; omega)⟩
        have hrw := Row.quiet Hrow.out hq
        obtain ⟨hcp, hfp⟩ := hrw.cells (map_at hp)
        obtain ⟨hcq, hfq⟩ := hrw.cells (map_at hq1)
        have hE := fun w' (hw : Quiet w w') => EqualI_any p.1.1 p.1.2.1 p.1.2.2 p.2 q.1.1 q.1.2.1 q.1.2.2 q.2 w' _ _ (hw.rd (Hin.out p (List.mem_of_getElem? hp)).rd) (hw.rd (Hin.out q (List.mem_of_getElem? hq1)).rd)
        have Hp := Lib.hid hp
        have Hq := Lib.hid hq1
        obtain ⟨⟨pa, pn, pc⟩, pl⟩ := p
        obtain ⟨⟨qa, qn, qc⟩, ql⟩ := q
        dsimp only at hE hcp hcq
        have e0 : IntKind.i64.wrap ((m : Int) + 1 - 1) = (m : Int) := by rw [IntKind.wrap_i64]; omega
        have e1 : ((m : Int) + 1 - 1) = (m : Int) := by omega
        have b0 : (m : Int) < (n : Int) := by omega
        have b1 : (m : Int) + 1 < (n : Int) := by omega
        have b2 : (0 : Int) ≤ (m : Int) + 1 := by omega
        have b3 : (0 : Int) ≤ (m : Int) := by omega
        clear hp hq1
        by_cases hd : pl = ql
        · have hE2 : ∀ w', Quiet w w' → Calls Try.prog 59 #[.slice pa pn pc, .slice qa qn qc] w' fun e w2 => e = .returned (.bool true) ∧ Quiet w' w2 := fun w' hw => (hE w' hw).mono fun _ _ ⟨h1, h2⟩ => ⟨h1.trans (ret_bool (by simpa using hd)), h2⟩
          have Hd := Lib.hid hd
          clear hd hE
          go_wp2_with fail
          go_quiet ((go_at_call 59; exact Calls.quiet_of (hE2 _ (hq.drewN _))))
          go_wp2_with fail
          obtain ⟨W1, hW1⟩ : ∃ W1, W1 = wr.drewN nq := ⟨_, rfl⟩
          have hqW : Quiet w W1 := by rw [hW1]; exact hq.drewN nq
          rw [← hW1]
          have hrw1 := Row.quiet Hrow.out hqW
          have HW := Lib.hid hqW
          clear hW1 hrw hcp hcq hfp hfq hE2 hq
          go_loopw [5, 7] (fun s5 s7 wx => ∃ (kk k2 : Nat) (xs : List Value), s5 = .int .i64 kk ∧ s7 = .int .i64 k2 ∧ 1 ≤ k2 ∧ m + 1 + k2 ≤ n ∧ kk + 1 ≤ m + 1 + k2 ∧ Row wx N 22 (some ⟨g, 0, none⟩) n c xs ∧ xs.take kk = (cmp P (m + 1 + k2)).map V ∧ (cmp P (m + 1 + k2)).length = kk ∧ (∀ j, m + 1 + k2 ≤ j + 1 → xs[j]? = (P.map V)[j]?) ∧ w.grownBy wx (some g)) (fun _ s7 _ => n - (m + 1 + (intOf s7).toNat))
          case atStart =>
            refine ⟨m + 1, 1, P.map V, rfl, rfl, Nat.le_refl _, by omega, by omega, hrw1, ?_, ?_, fun _ _ => rfl, by obtain ⟨x, rfl⟩ := HW.out; exact grown_drewN (grown_refl _ _) x⟩
            · rw [cmp_skip (by omega) Hp.out Hq.out Hd.out, Hcmp.out, List.map_take]
            · rw [cmp_skip (by omega) Hp.out Hq.out Hd.out, Hcmp.out, List.length_take]
              have := Hlen.out
              omega
          case round =>
            obtain ⟨kk, k2, xs, rfl, rfl, h1, hle, hkk, hrx, hxt, hcl, hxs, hgr⟩ := hrel
            have Hxt := Lib.hid hxt
            have Hcl := Lib.hid hcl
            have Hxs := Lib.hid hxs
            clear hxt hcl hxs hrw1 hqW
            obtain ⟨m2, rfl⟩ : ∃ m2, k2 = m2 + 1 := ⟨k2 - 1, by omega⟩
            by_cases hlt2 : m + 1 + (m2 + 1) < n
            · obtain ⟨p2, hp2⟩ : ∃ p2, P[m + 1 + (m2 + 1)]? = some p2 := ⟨_, List.getElem?_eq_getElem (by have := Hlen.out; omega)⟩
              obtain ⟨q2, hq2⟩ : ∃ q2, P[m + 1 + m2]? = some q2 := ⟨_, List.getElem?_eq_getElem (by have := Hlen.out; omega)⟩
              obtain ⟨hcp, _⟩ := hrx.cells ((Hxs.out (m + 1 + (m2 + 1)) (by omega)).trans (map_at hp2))
              obtain ⟨hcq, _⟩ := hrx.cells ((Hxs.out (m + 1 + m2) (by omega)).trans (map_at hq2))
              have hinx := Hin.out.grown Hrow.out (grown_own hgr)
              have hE := fun w' (hw : Quiet wr w') => EqualI_any p2.1.1 p2.1.2.1 p2.1.2.2 p2.2 q2.1.1 q2.1.2.1 q2.1.2.2 q2.2 w' _ _ (hw.rd (hinx p2 (List.mem_of_getElem? hp2)).rd) (hw.rd (hinx q2 (List.mem_of_getElem? hq2)).rd)
              have Hp2 := Lib.hid hp2
              have Hq2 := Lib.hid hq2
              obtain ⟨old, hold⟩ : ∃ old, xs[kk]? = some old := ⟨_, List.getElem?_eq_getElem (by rw [hrx.len]; omega)⟩
              obtain ⟨hck, hfk⟩ := hrx.cells hold
              obtain ⟨⟨pa2, pn2, pc2⟩, pl2⟩ := p2
              obtain ⟨⟨qa2, qn2, qc2⟩, ql2⟩ := q2
              dsimp only at hE hcp hcq
              have e0 : IntKind.i64.wrap ((m2 : Int) + 1 - 1) = (m2 : Int) := by rw [IntKind.wrap_i64]; omega
              have e1 : ((m2 : Int) + 1 - 1) = (m2 : Int) := by omega
              have e5 : IntKind.i64.wrap ((m2 : Int) + 1 + 1) = (m2 : Int) + 1 + 1 := by rw [IntKind.wrap_i64]; omega
              have e6 : IntKind.i64.wrap ((kk : Int) + 1) = (kk : Int) + 1 := by rw [IntKind.wrap_i64]; omega
              have b0 : (m2 : Int) < ((n - (m + 1) : Nat) : Int) := by omega
              have b1 : (m2 : Int) + 1 < ((n - (m + 1) : Nat) : Int) := by omega
              have b2 : (0 : Int) ≤ (m2 : Int) + 1 := by omega
              have b3 : (0 : Int) ≤ (m2 : Int) := by omega
              have b4 : (kk : Int) < (n : Int) := by omega
              have b5 : (0 : Int) ≤ (kk : Int) := by omega
              clear hp2 hq2 hold hinx
              by_cases hd2 : pl2 = ql2
              · have hE2 : ∀ w', Quiet wr w' → Calls Try.prog 59 #[.slice pa2 pn2 pc2, .slice qa2 qn2 qc2] w' fun e w2 => e = .returned (.bool true) ∧ Quiet w' w2 := fun w' hw => (hE w' hw).mono fun _ _ ⟨h1, h2⟩ => ⟨h1.trans (ret_bool (by simpa using hd2)), h2⟩
                have Hd2 := Lib.hid hd2
                clear hd2 hE
                go_wp2_with fail
                go_quiet ((go_at_call 59; exact Calls.quiet_of (hE2 _ ⟨_, rfl⟩)))
                go_wp2_with fail
                go_roundw
                case rel =>
                  refine ⟨kk, m2 + 1 + 1, xs, rfl, by go_num, by omega, by omega, by omega, hrx, ?_, ?_, fun j hj => Hxs.out j (by omega), grown_drewN hgr _⟩
                  · rw [Hxt.out, show m + 1 + (m2 + 1 + 1) = (m + 1 + (m2 + 1)) + 1 by omega, cmp_skip (by omega) Hp2.out (by rw [show m + 1 + (m2 + 1) - 1 = m + 1 + m2 by omega]; exact Hq2.out) Hd2.out]
                  · rw [show m + 1 + (m2 + 1 + 1) = (m + 1 + (m2 + 1)) + 1 by omega, cmp_skip (by omega) Hp2.out (by rw [show m + 1 + (m2 + 1) - 1 = m + 1 + m2 by omega]; exact Hq2.out) Hd2.out]
                    exact Hcl.out
                case measure => simp [intOf]; omega
              · have hE2 : ∀ w', Quiet wr w' → Calls Try.prog 59 #[.slice pa2 pn2 pc2, .slice qa2 qn2 qc2] w' fun e w2 => e = .returned (.bool false) ∧ Quiet w' w2 := fun w' hw => (hE w' hw).mono fun _ _ ⟨h1, h2⟩ => ⟨h1.trans (ret_bool (by simpa using hd2)), h2⟩
                have Hd2 := Lib.hid hd2
                have Hst := Lib.hid (cmp_keep Hp2.out (.inr ⟨_, by rw [show m + 1 + (m2 + 1) - 1 = m + 1 + m2 by omega]; exact Hq2.out, hd2⟩))
                have hset := hrx.set (show kk < n by omega) (.slice pa2 pn2 pc2)
                clear hd2 hE
                go_wp2_with fail
                go_quiet ((go_at_call 59; exact Calls.quiet_of (hE2 _ ⟨_, rfl⟩)))
                go_wp2_with fail
                go_roundw
                case rel =>
                  refine ⟨kk + 1, m2 + 1 + 1, xs.set kk (.slice pa2 pn2 pc2), by go_num, by go_num, by omega, by omega, by omega, hset, ?_, ?_, fun j hj => ?_, grown_trans hgr (grown_drewN (grown_setCell wr g kk _) _)⟩
                  · rw [show m + 1 + (m2 + 1 + 1) = (m + 1 + (m2 + 1)) + 1 by omega, Hst.out, List.map_append, ← Hxt.out]
                    have hl : kk < (xs.set kk (.slice pa2 pn2 pc2)).length := by rw [List.length_set, hrx.len]; omega
                    rw [List.take_succ_eq_append_getElem hl, List.take_set_of_le (Nat.le_refl _)]
                    simp [V]
                  · rw [show m + 1 + (m2 + 1 + 1) = (m + 1 + (m2 + 1)) + 1 by omega, Hst.out, List.length_append, Hcl.out]
                    rfl
                  · rw [List.getElem?_set_ne (by omega)]
                    exact Hxs.out j (by omega)
                case measure => simp [intOf]; omega
            · have hend : m + 1 + (m2 + 1) = n := by omega
              rw [hend] at Hxt Hcl
              have hcl : ∀ ty, (Builtin.clear_ #[23] ty #[.slice (some ⟨g, kk, none⟩) (n - kk) (c - kk)]).run Try.prog wr = .ok (.tuple #[]) (wr.setCells g kk (List.replicate (n - kk) (.slice none 0 0))) :=
                fun ty => Lib.run_clear_slice wr _ _ ty _ Try.underlying23 Try.zeroSI rfl rfl g kk _ _ (by omega) (fun j hj => by
                  obtain ⟨u, hu⟩ : ∃ u, xs[kk + j]? = some u := ⟨_, List.getElem?_eq_getElem (by rw [hrx.len]; omega)⟩
                  rw [(hrx.cells hu).1]; rfl) (fun j hj => by
                  obtain ⟨u, hu⟩ : ∃ u, xs[kk + j]? = some u := ⟨_, List.getElem?_eq_getElem (by rw [hrx.len]; omega)⟩
                  exact (hrx.cells hu).2)
              obtain ⟨ys, hy1, hy2⟩ := row_setCells (List.replicate (n - kk) (Value.slice none 0 0)) kk wr xs hrx (by simp; omega)
              have hcut := hy1.cut (show kk ≤ n by omega)
              rw [hy2, Hxt.out] at hcut
              have hgr2 := grown_trans hgr (grown_setCells g (List.replicate (n - kk) (Value.slice none 0 0)) kk wr)
              have hck : ¬ c = kk := by omega
              have b0 : (kk : Int) ≤ (n : Int) := by omega
              have b1 : (kk : Int) ≤ (c : Int) := by omega
              have b2 : (0 : Int) ≤ (kk : Int) := by omega
              have b3 : (m2 : Int) + 1 = ((n - (m + 1) : Nat) : Int) := by omega
              have b4 : ¬ (m2 : Int) + 1 < ((n - (m + 1) : Nat) : Int) := by omega
              go_wp2_with (simp only [hcl])
              go_ret
              rw [Hcl.out]
              exact ⟨rfl, hcut, hgr2⟩
        · have hE2 : ∀ w', Quiet w w' → Calls Try.prog 59 #[.slice pa pn pc, .slice qa qn qc] w' fun e w2 => e = .returned (.bool false) ∧ Quiet w' w2 := fun w' hw => (hE w' hw).mono fun _ _ ⟨h1, h2⟩ => ⟨h1.trans (ret_bool (by simpa using hd)), h2⟩
          have Hst := Lib.hid (cmp_keep Hp.out (.inr ⟨_, Hq.out, hd⟩))
          clear hd hE
          have e5 : IntKind.i64.wrap ((m : Int) + 1 + 1) = (m : Int) + 1 + 1 := by rw [IntKind.wrap_i64]; omega
          go_wp2_with fail
          go_quiet ((go_at_call 59; exact Calls.quiet_of (hE2 _ (hq.drewN _))))
          go_wp2_with fail
          go_roundw
          case rel =>
            refine ⟨m + 1 + 1, by omega, by omega, by go_num, ?_, hq.drewN _⟩
            rw [Hst.out, Hcmp.out, List.take_succ_eq_append_getElem (i := m + 1) (by have := Hlen.out; omega)]
            have h := Hp.out
            rw [List.getElem?_eq_getElem (by have := Hlen.out; omega)] at h
            injection h with h
            rw [h]
          case measure => simp [intOf]; omega
      · obtain rfl : k = n := by omega
        have Hc := Lib.hid (show cmp P k = P by rw [Hcmp.out, List.take_of_length_le (by have := Hlen.out; omega)])
        go_wp2_with fail
        go_ret
        rw [Hc.out, Hlen.out]
        exact ⟨rfl, Row.quiet Hrow.out hq, by obtain ⟨q, rfl⟩ := hq; exact grown_drewN (grown_refl _ _) q⟩
end Go.Proofs.Ytopmifidhabobaa
