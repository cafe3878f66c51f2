/-
  Drawn pieces of two cuts.
-/
import Derived.Test.YtopmifidhabobaaPoints
import Derived.Test.YtopmifidhabobaaCut4
namespace Go.Proofs.Ytopmifidhabobaa
open Go.RowKit
set_option linter.unusedVariables false
set_option linter.unusedSimpArgs false

def lenV : Value → Nat
  | .slice _ n _ => n
  | _ => 0
theorem grown_setCell (w : World) (g j : Nat) (v : Value) : w.grownBy (w.setCell ⟨g, j, none⟩ v) (some g) :=
  ⟨rfl, rfl, rfl, by simp, fun b hb hne => heap_setCell_other w ⟨g, j, none⟩ b _ (fun e => hne (by simp [e]))⟩
theorem OwnW.grown {w w' : World} {lo hi : Nat} {t : TypeId} {A : Option Addr} {n c : Nat} {xs : List Value} {row : Option Nat} (h : OwnW w lo hi t A n c xs) (hg : w.grownBy w' row) (hne : ∀ k, row = some k → k < lo ∨ hi ≤ k) : OwnW w' lo hi t A n c xs :=
  ⟨h.1, h.2.1, h.2.2.1, fun hn => by
    obtain ⟨g, cur, e, hg1, hl, hh, ht⟩ := h.2.2.2 hn
    exact ⟨g, cur, e, hg1, hl, (hg.block g (Array.getElem?_eq_some_iff.1 hh).1 (fun e => by have := hne g e.symm; omega)).trans hh, ht⟩⟩
theorem OwnW.blk {w : World} {lo hi : Nat} {t : TypeId} {A : Option Addr} {n c : Nat} {xs : List Value} (h : OwnW w lo hi t A n c xs) (hn : 0 < n) : ∃ g cur, A = some ⟨g, 0, none⟩ ∧ lo ≤ g ∧ g < hi ∧ w.heap[g]? = some (.cells cur t (0, 0)) ∧ cur.toList.take n = xs ∧ n ≤ cur.size := by
  obtain ⟨g, cur, e, hg, hl, hh, ht⟩ := h.2.2.2 hn
  refine ⟨g, cur, e, hg, hl, hh, ht, ?_⟩
  have h1 := h.1
  rw [← ht, List.length_take] at h1
  have : cur.toList.length = cur.size := by simp
  omega
theorem OwnW.set {w : World} {lo hi g : Nat} {t : TypeId} {n c : Nat} {xs : List Value} (h : OwnW w lo hi t (some ⟨g, 0, none⟩) n c xs) {j : Nat} (hj : j < n) (v : Value) : OwnW (w.setCell ⟨g, j, none⟩ v) lo hi t (some ⟨g, 0, none⟩) n c (xs.set j v) := by
  obtain ⟨g', cur, e, hg, hl, hh, ht, hs⟩ := h.blk (by omega)
  injection e with e
  injection e with e1 e2
  subst e1
  refine ⟨by rw [List.length_set]; exact h.1, h.2.1, h.2.2.1, fun _ => ⟨g, _, rfl, hg, hl, Go.Joins.block_setCell (i := j) hh v, ?_⟩⟩
  rw [Array.toList_setIfInBounds, List.take_set, ht]
theorem OwnW.newI {w w' : World} {lo hi : Nat} {A : Option Addr} {n c : Nat} {zs : List Int} (h : OwnW w' lo hi 3 A n c (zs.map I)) (h1 : w.heap.size ≤ lo) (h2 : hi ≤ w'.heap.size) : NewI w w' A n c zs := by
  refine ⟨h.rd' h2, fun hn b o e => ?_⟩
  obtain ⟨g, cur, e', hg, _⟩ := h.2.2.2 hn
  rw [e'] at e
  injection e with e
  injection e with e1 e2
  omega
theorem set_mapI (ls : List Int) (j : Nat) (x : Int) : (ls.map I).set j (.int .i64 x) = (ls.set j x).map I := by
  rw [List.map_set]
  rfl
def SomeCuts (B R : Nat) (zs : List Int) (w : World) (p : Nat) (e : Ending) (w' : World) : Prop :=
  ∃ (A : Option Addr) (n c : Nat) (us : List Int) (A2 : Option Addr) (n2 c2 : Nat) (bs : List Int) (q : Nat), e = .returned (.tuple #[.slice A n c, .slice A2 n2 c2]) ∧ NewI w w' A n c us ∧ NewI w w' A2 n2 c2 bs ∧ q ≤ p + 20 ∧ Rdr w' B R zs q ∧ w.grownBy w' (some R)
theorem gr_after {w w1 w2 : World} {R : Nat} {row : Option Nat} (h : w.grownBy w1 (some R)) (hg : w1.grownBy w2 row) (hk : ∀ k, row = some k → w.heap.size ≤ k) : w.grownBy w2 (some R) := by
  refine ⟨hg.os.trans h.os, hg.tape.trans h.tape, hg.output.trans h.output, Nat.le_trans h.size hg.size, fun b hb hne => ?_⟩
  exact (hg.block b (Nat.lt_of_lt_of_le hb h.size) (fun e => by have := hk b e.symm; omega)).trans (h.block b hb hne)
set_option maxRecDepth 8000 in
set_option maxHeartbeats 3200000 in
theorem someCuts_any (B R : Nat) (zs : List Int) (p : Nat) (w : World) (hR : Rdr w B R zs p) (hp : p + 100 ≤ 1099511627776) :
    Calls Try.prog 77 #[.pointer (some ⟨R, 0, none⟩)] w (SomeCuts B R zs w p) := by
  have hlt := hR.lt
  have hBR := hR.1
  obtain ⟨i0, hi, hz0, hz1, hz2⟩ := info_parts Try.infoI
  have hrow0 : Row (w.alloc (.cells #[] 3)) w.heap.size 3 (some ⟨w.heap.size, 0, none⟩) 0 0 [] := Row.nil_ w 3
  go_enter Try.func77, Try.ntmps77
  go_wp2_with fail
  refine (one_any B R zs p _ 4 4 [3, 2, 4, 1] _ ((hR.alloc _).alloc _) (by omega) (rd_litAt _ (by simp) _ _ 4 _ rfl rfl (by omega)) (by omega) (by omega) (fun b o e => by injection e with e; injection e with e1 e2; omega)).mono ?_
  rintro e w1 ⟨rounds, hn, rfl, hR1, hg1⟩
  have hn1 : 1 ≤ rounds ∧ rounds ≤ 4 := by simp at hn; omega
  obtain ⟨hn1a, hn1b⟩ := hn1
  have hrow1 := (hrow0.alloc _).drawn hg1 (hrow0.ne_of_lt hlt)
  have hG1 : w.grownBy w1 (some R) := grown_trans (grown_alloc (grown_alloc (grown_refl w _) _) _) hg1
  clear hn hg1 hrow0
  obtain ⟨r0, rfl⟩ := Int.eq_ofNat_of_zero_le (show 0 ≤ rounds by omega)
  go_wp2_with fail
  go_loopw [4] (fun v wr => ∃ (A' : Option Addr) (n' c' : Nat) (ls : List Int) (q : Nat), v = .slice A' n' c' ∧ Row wr w.heap.size 3 A' n' c' (ls.map I) ∧ (∀ z ∈ ls, 1 ≤ z ∧ z ≤ 9) ∧ n' ≤ r0 ∧ q ≤ p + 1 + n' ∧ Rdr wr B R zs q ∧ w.grownBy wr (some R)) (fun v _ => r0 - lenV v)
  case atStart => exact ⟨_, 0, 0, [], p + 1, rfl, hrow1, by simp, by omega, by omega, hR1, hG1⟩
  case round =>
    obtain ⟨A', n', c', ls, q, rfl, hrow, hls, h1, h4, hRr, hGr⟩ := hrel
    have hlen := hrow.len
    simp at hlen
    have hwr := hGr.size
    clear hR1 hG1 hrow1
    by_cases hgo : n' < r0
    · go_wp2_with fail
      refine (pick_any B R zs q 9 _ hRr (by omega) (by omega) (by omega)).mono ?_
      rintro e w3 ⟨v, rfl, hv, _, hR3, hg3⟩
      have hv4 : v < 9 := by have := hv (by omega); omega
      have hG3 := grown_trans hGr hg3
      have hrow3 := hrow.drawn hg3 (hrow.ne_of_lt hlt)
      have hs3 := hG3.size
      have e1 : IntKind.i64.wrap (1 + (v : Int)) = 1 + (v : Int) := by rw [IntKind.wrap_i64]; omega
      clear hv hg3
      go_wp2_with (at_builtin; refine wpList_app1 _ rfl _ _ 22 rfl w.heap.size 3 i0 (.int .i64 0) 8 Try.underlying22 hi hz0 hz1 hz2 rfl _ _ _ _ rfl (hrow3.alloc _) _ (.int .i64 (1 + (v : Int))) rfl (cell_one_new _ _ _) rfl (by omega) (by omega) (by simp; omega) ?_; intro A2 c2 w4 hown2 hgrow2)
      have hG4 := grown_app hlt hG3 hrow3 hgrow2
      have hR4 := (hR3.alloc (.cells #[.int .i64 (1 + (v : Int))] 3)).grown hgrow2 (fun k hk => by have := row_ge hrow3 k hk; omega)
      clear hgrow2
      go_wp2_with fail
      go_roundw
      case rel =>
        refine ⟨A2, n' + 1, c2, ls ++ [1 + (v : Int)], q + 1, rfl, by rw [map_snocI]; exact hown2, ?_, by omega, by omega, hR4, hG4⟩
        intro z hz
        rw [List.mem_append, List.mem_singleton] at hz
        rcases hz with hz | rfl
        · exact hls z hz
        · omega
      case measure => simp [lenV]; omega
    · obtain rfl : n' = r0 := by omega
      have hs100 : S100 ls := fun x hx => by have := hls x hx; omega
      obtain ⟨t0, t1⟩ := hs100.sum ls.length
      rw [List.take_length] at t0 t1
      go_wp2_with fail
      refine (total_any A' n' c' ls _ _ hrow.rd hs100 (by omega)).mono ?_
      rintro e w2 ⟨rfl, rfl⟩
      obtain ⟨tot, htot⟩ : ∃ tot, tot = ls.sum := ⟨_, rfl⟩
      rw [← htot] at t0 t1 ⊢
      have oa : OwnW w2 w.heap.size w2.heap.size 3 A' n' c' (ls.map I) := hrow.own.win
      have hrowb : Row (w2.alloc (.cells #[] 3)) w2.heap.size 3 (some ⟨w2.heap.size, 0, none⟩) 0 0 [] := Row.nil_ w2 3
      have hlt2 : R < w2.heap.size := by omega
      have htot4 : tot ≤ 400 := by omega
      clear htot hs100 hls hrow t1
      go_wp2_with fail
      refine (one_any B R zs q _ 4 4 [3, 2, 4, 1] _ ((hRr.alloc _).alloc _) (by omega) (rd_litAt _ (by simp) _ _ 4 _ rfl rfl (by omega)) (by omega) (by omega) (fun b o e => by injection e with e; injection e with e1 e2; omega)).mono ?_
      rintro e w3 ⟨rounds2, hm, rfl, hR3, hg3⟩
      have hm1 : 1 ≤ rounds2 ∧ rounds2 ≤ 4 := by simp at hm; omega
      obtain ⟨hm1a, hm1b⟩ := hm1
      have hrow3 := (hrowb.alloc _).drawn hg3 (hrowb.ne_of_lt hlt2)
      have hga := grown_trans (grown_alloc (grown_alloc (grown_refl w2 (some R)) (.cells #[] 3)) _) hg3
      have oa3 := oa.grown hga (fun k hk => by cases hk; omega)
      have hG3 : w.grownBy w3 (some R) := grown_trans hGr hga
      have hsz3 := hga.size
      clear hm hg3 hrowb hga oa
      obtain ⟨m0, rfl⟩ := Int.eq_ofNat_of_zero_le (show 0 ≤ rounds2 by omega)
      go_wp2_with fail
      go_loopw [6, 7, 9] (fun l v x wr => ∃ (lf : Int) (A2 : Option Addr) (n2 c2 : Nat) (bs : List Int) (q2 : Nat), l = .int .i64 lf ∧ v = .slice A2 n2 c2 ∧ 0 ≤ lf ∧ lf ≤ 400 ∧ Row wr w2.heap.size 3 A2 n2 c2 (bs.map I) ∧ n2 < m0 ∧ q2 ≤ p + 6 + n2 ∧ OwnW wr w.heap.size w2.heap.size 3 A' n' c' (ls.map I) ∧ Rdr wr B R zs q2 ∧ w.grownBy wr (some R) ∧ w2.heap.size ≤ wr.heap.size) (fun _ v _ _ => m0 - lenV v)
      case atStart => exact ⟨tot, _, 0, 0, [], q + 1, rfl, rfl, t0, htot4, hrow3, by omega, by omega, oa3, hR3, hG3, hsz3⟩
      case round =>
        obtain ⟨lf, A2, n2, c2, bs, q2, rfl, rfl, hl0, hl4, hrowr, hn2, hq2, oar, hRr2, hGr2, hsz⟩ := hrel
        have hlenb := hrowr.len
        simp at hlenb
        have hwr2 := hGr2.size
        have hltr := hRr2.lt
        clear hR3 hG3 hrow3 oa3 hsz3 hRr hGr
        by_cases hgo2 : n2 + 1 < m0 ∧ 1 < lf
        · obtain ⟨hgo2a, hgo2b⟩ := hgo2
          have b1 : (n2 : Int) + 1 < (m0 : Int) := by omega
          have e0 : IntKind.i64.wrap ((n2 : Int) + 1) = (n2 : Int) + 1 := by rw [IntKind.wrap_i64]; omega
          have e1 : IntKind.i64.wrap (lf - 1) = lf - 1 := by rw [IntKind.wrap_i64]; omega
          go_wp2_with fail
          refine (pick_any B R zs q2 (lf - 1) _ hRr2 (by omega) (by omega) (by omega)).mono ?_
          rintro e w4 ⟨v, rfl, hv, _, hR4, hg4⟩
          have hv4 : (v : Int) < lf - 1 := hv (by omega)
          have hG4 := grown_trans hGr2 hg4
          have hrow4 := hrowr.drawn hg4 (hrowr.ne_of_lt hlt2)
          have oa4 := oar.grown hg4 (fun k hk => by cases hk; omega)
          have hs4 := hg4.size
          have hlt4 := hR4.lt
          have e2 : IntKind.i64.wrap (1 + (v : Int)) = 1 + (v : Int) := by rw [IntKind.wrap_i64]; omega
          have e3 : IntKind.i64.wrap (lf - (1 + (v : Int))) = lf - (1 + (v : Int)) := by rw [IntKind.wrap_i64]; omega
          clear hv hg4 hrowr oar
          go_wp2_with (at_builtin; refine wpList_app1 _ rfl _ _ 22 rfl w2.heap.size 3 i0 (.int .i64 0) 8 Try.underlying22 hi hz0 hz1 hz2 rfl _ _ _ _ rfl (hrow4.alloc _) _ (.int .i64 (1 + (v : Int))) rfl (cell_one_new _ _ _) rfl (by omega) (by omega) (by simp; omega) ?_; intro A3 c3 w5 hown3 hgrow3)
          have hge := row_ge hrow4
          have hG5 := gr_after (grown_alloc hG4 _) hgrow3 (fun k hk => by have := hge k hk; omega)
          have hR5 := (hR4.alloc (.cells #[.int .i64 (1 + (v : Int))] 3)).grown hgrow3 (fun k hk => by have := hge k hk; omega)
          have oa5 := (oa4.grown (grown_alloc (grown_refl _ none) (.cells #[.int .i64 (1 + (v : Int))] 3)) (fun k hk => by cases hk)).grown hgrow3 (fun k hk => by have := hge k hk; omega)
          have hs5 := hgrow3.size
          simp at hs5
          clear hgrow3
          go_wp2_with fail
          go_roundw
          case rel =>
            exact ⟨lf - (1 + (v : Int)), A3, n2 + 1, c3, bs ++ [1 + (v : Int)], q2 + 1, rfl, rfl, by omega, by omega, by rw [map_snocI]; exact hown3, by omega, by omega, oa5, hR5, hG5, by omega⟩
          case measure => simp [lenV]; omega
        · have hend : ∀ (K : Prop), (¬ (n2 : Int) + 1 < (m0 : Int) → K) → ((n2 : Int) + 1 < (m0 : Int) → ¬ 1 < lf → K) → K := fun K k1 k2 => by
            by_cases hr0 : n2 + 1 < m0
            · exact k2 (by omega) (fun h => hgo2 ⟨hr0, h⟩)
            · exact k1 (by omega)
          have e0 : IntKind.i64.wrap ((n2 : Int) + 1) = (n2 : Int) + 1 := by rw [IntKind.wrap_i64]; omega
          refine hend _ (fun hr0 => ?_) (fun hr0 ha0 => ?_)
          all_goals
            go_wp2_with (at_builtin; refine wpList_app1 _ rfl _ _ 22 rfl w2.heap.size 3 i0 (.int .i64 0) 8 Try.underlying22 hi hz0 hz1 hz2 rfl _ _ _ _ rfl (hrowr.alloc _) _ (.int .i64 lf) rfl (cell_one_new _ _ _) rfl (by omega) (by omega) (by simp; omega) ?_; intro A3 c3 w5 hown3 hgrow3)
            have hge := row_ge hrowr
            have hG5 := gr_after (grown_alloc hGr2 _) hgrow3 (fun k hk => by have := hge k hk; omega)
            have hR5 := (hRr2.alloc (.cells #[.int .i64 lf] 3)).grown hgrow3 (fun k hk => by have := hge k hk; omega)
            have oa5 := (oar.grown (grown_alloc (grown_refl _ none) (.cells #[.int .i64 lf] 3)) (fun k hk => by cases hk)).grown hgrow3 (fun k hk => by have := hge k hk; omega)
            have hs5 := hgrow3.size
            simp at hs5
            rw [← map_snocI] at hown3
            clear hgrow3
            go_wp2_with fail
            refine (pick_any B R zs q2 24 _ hR5 (by omega) (by omega) (by omega)).mono ?_
            rintro e w6 ⟨v, rfl, hv, _, hR6, hg6⟩
            have hv24 : v < 24 := by have := hv (by omega); omega
            have hG6 := grown_trans hG5 hg6
            have hrow6 := hown3.drawn hg6 (hown3.ne_of_lt hlt2)
            have oa6 := oa5.grown hg6 (fun k hk => by cases hk; omega)
            have ob6 := hrow6.own.win
            have hs6 := hg6.size
            have hlt6 := hR6.lt
            clear hv hg6 hown3 hrow6 oa5 hR5 hG5
            have hna : NewI w w6 A' n' c' ls := oa6.newI (Nat.le_refl _) (by omega)
            have hnb : NewI w w6 A3 (n2 + 1) c3 (bs ++ [lf]) := ob6.newI (by omega) (Nat.le_refl _)
            rcases Nat.lt_or_ge v 3 with hv3 | hv3
            · rcases (show v = 0 ∨ v = 1 ∨ v = 2 by omega) with rfl | rfl | rfl
              · obtain ⟨g, cur, rfl, hg1, hg2, hh, ht, hcs⟩ := ob6.blk (by omega)
                obtain ⟨y, hy, hcy⟩ := hnb.1.int_at (show 0 < n2 + 1 by omega)
                have hc0 : w6.cell? ⟨g, 0, none⟩ = some (.int .i64 y) := by simpa using hcy
                obtain ⟨z, hz⟩ : ∃ z, IntKind.i64.wrap (y + 1) = z := ⟨_, rfl⟩
                have hf := frozen_of_row w6 g 0 cur _ hh
                have ob7 := ob6.set (j := 0) (by omega) (.int .i64 z)
                rw [set_mapI] at ob7
                have oa7 := oa6.grown (grown_setCell w6 g 0 (.int .i64 z)) (fun k hk => by cases hk; omega)
                have hR7 := hR6.grown (grown_setCell w6 g 0 (.int .i64 z)) (fun k hk => by cases hk; omega)
                have hG7 := gr_after hG6 (grown_setCell w6 g 0 (.int .i64 z)) (fun k hk => by cases hk; omega)
                clear hh ht hy hcy
                go_wp2_with fail
                go_ret2
                exact ⟨_, _, _, _, _, _, _, _, q2 + 1, rfl, oa7.newI (Nat.le_refl _) (by simp; omega), ob7.newI (by omega) (by simp), by omega, hR7, hG7⟩
              · go_wp2_with fail
                refine (one_any B R zs (q2 + 1) _ 2 2 [0, 61] _ (hR6.alloc _) (by omega) (rd_litAt _ (by simp) _ _ 2 _ rfl rfl (by omega)) (by omega) (by omega) (fun b o e => by injection e with e; injection e with e1 e2; omega)).mono ?_
                rintro e w7 ⟨y, hm, rfl, hR7, hg7⟩
                have hga := grown_trans (grown_alloc (grown_refl w6 (some R)) _) hg7
                have oa7 := oa6.grown hga (fun k hk => by cases hk; omega)
                have ob7 := ob6.grown hga (fun k hk => by cases hk; omega)
                have hG7 := grown_trans hG6 hga
                have hs7 := hga.size
                clear hm hg7 hga oa6 ob6 hna hnb
                obtain ⟨g, cur, rfl, hg1, hg2, hh, ht, hcs⟩ := oa7.blk (by omega)
                have hc0 := cell_of_row w7 g 0 cur _ (0, 0) hh
                rw [Array.getElem?_eq_getElem (show 0 < cur.size by omega)] at hc0
                have hf := frozen_of_row w7 g 0 cur _ hh
                have oa8 := oa7.set (j := 0) (by omega) (.int .i64 y)
                rw [set_mapI] at oa8
                have ob8 := ob7.grown (grown_setCell w7 g 0 (.int .i64 y)) (fun k hk => by cases hk; omega)
                have hR8 := hR7.grown (grown_setCell w7 g 0 (.int .i64 y)) (fun k hk => by cases hk; omega)
                have hG8 := gr_after hG7 (grown_setCell w7 g 0 (.int .i64 y)) (fun k hk => by cases hk; omega)
                clear hh ht
                go_wp2_with fail
                go_ret2
                exact ⟨_, _, _, _, _, _, _, _, q2 + 2, rfl, oa8.newI (Nat.le_refl _) (by simp; omega), ob8.newI (by omega) (by simp; omega), by omega, hR8, hG8⟩
              · have oa7 := oa6.grown (grown_alloc (grown_refl w6 none) (.cells #[] 3)) (fun k hk => by cases hk)
                have hG7 := grown_alloc hG6 (.cells #[] 3)
                have hR7 := hR6.alloc (.cells #[] 3)
                go_wp2_with fail
                go_ret2
                exact ⟨_, _, _, _, _, _, _, [], q2 + 1, rfl, oa7.newI (Nat.le_refl _) (by simp; omega), ⟨⟨rfl, Nat.le_refl _, by unfold maxLen; omega, fun h => absurd h (by omega)⟩, fun h => absurd h (by omega)⟩, by omega, hR7, hG7⟩
            · have v0 : ¬ (v : Int) = 0 := by omega
              have v1 : ¬ (v : Int) = 1 := by omega
              have v2 : ¬ (v : Int) = 2 := by omega
              go_wp2_with fail
              go_ret2
              exact ⟨_, _, _, _, _, _, _, _, q2 + 1, rfl, hna, hnb, by omega, hR6, hG6⟩
end Go.Proofs.Ytopmifidhabobaa
