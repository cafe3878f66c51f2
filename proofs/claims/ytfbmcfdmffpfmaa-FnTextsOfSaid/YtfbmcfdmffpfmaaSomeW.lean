/-
  Drawn windows: what TextsOf and StretchesOf are tried at.
-/
import Derived.Test.YtfbmcfdmffpfmaaSortR
import Derived.Test.YtfbmcfdmffpfmaaDrawT
import Derived.Test.YtfbmcfdmffpfmaaAppN
import Derived.Test.YtfbmcfdmffpfmaaPut
namespace Go.Proofs.Ytfbmcfdmffpfmaa
open Go.RowKit
set_option linter.unusedVariables false
set_option linter.unusedSimpArgs false

theorem Row.setW {w : World} {base g n cap : Nat} {e : TypeId} {xs : List Value} (h : Row w base e (some ⟨g, 0, none⟩) n cap xs) {j : Nat} (hj : j < n) (v : Value) : Row (w.setCell ⟨g, j, none⟩ v) base e (some ⟨g, 0, none⟩) n cap (xs.set j v) := by
  obtain ⟨h1, ⟨_, h0⟩ | ⟨g', cap', cur, hv, hbase, hb, h2, h3, h4, h5⟩⟩ := h
  · omega
  · injection hv with ha hb' hc
    injection ha with ha
    injection ha with ha
    subst ha hc
    refine ⟨by rw [List.length_set]; exact h1, .inr ⟨g, cap, _, rfl, hbase, Go.Joins.block_setCell (i := j) hb v, h2, h3, by simpa using h4, ?_⟩⟩
    rw [Array.toList_setIfInBounds, List.take_set, h5]
theorem Row.cellsW {w : World} {base g n cap : Nat} {e : TypeId} {xs : List Value} (h : Row w base e (some ⟨g, 0, none⟩) n cap xs) {j : Nat} {u : Value} (hu : xs[j]? = some u) : w.cell? ⟨g, j, none⟩ = some u ∧ w.frozen? ⟨g, j, none⟩ = false := by
  have hj : j < xs.length := (List.getElem?_eq_some_iff.1 hu).1
  have hl := h.len
  obtain ⟨g', cur, e1, _, hb, ht, _⟩ := h.blk (g := 0) (by omega)
  injection e1 with e1
  injection e1 with e1
  subst e1
  refine ⟨?_, frozen_of_row w g j cur _ hb⟩
  rw [cell_of_row w g j cur _ (0, 0) hb]
  rw [← ht, List.getElem?_take_of_lt (by omega)] at hu
  simpa using hu
theorem grown_setW (w : World) (g j : Nat) (v : Value) : w.grownBy (w.setCell ⟨g, j, none⟩ v) (some g) :=
  ⟨rfl, rfl, rfl, by simp, fun b hb hne => RowKit.Below.heap_setCell w ⟨g, j, none⟩ v b (fun e => hne (by rw [e]))⟩
theorem gr_afterW {w w1 w2 : World} {R : Nat} {row : Option Nat} (h : w.grownBy w1 (some R)) (hg : w1.grownBy w2 row) (hk : ∀ k, row = some k → w.heap.size ≤ k) : w.grownBy w2 (some R) := by
  refine ⟨hg.os.trans h.os, hg.tape.trans h.tape, hg.output.trans h.output, Nat.le_trans h.size hg.size, fun b hb hne => ?_⟩
  exact (hg.block b (Nat.lt_of_lt_of_le hb h.size) (fun e => by have := hk b e.symm; omega)).trans (h.block b hb hne)
def SomeWins (R : Nat) (w : World) (e : Ending) (w' : World) : Prop :=
  ∃ (A : Option Addr) (n c : Nat) (ws : List (List UInt8)), e = .returned (.slice A n c) ∧ Row w' w.heap.size 9 A n c (ws.map S) ∧ Short ws 50 ∧ n ≤ 50 ∧ w.grownBy w' (some R)
set_option maxRecDepth 8000 in
set_option maxHeartbeats 6400000 in
theorem someWindows_any (B R : Nat) (zs : List Int) (p : Nat) (w : World) (hR : Rdr w B R zs p) (hp : p + 1000 ≤ 1099511627776) :
    Calls Try.prog 93 #[.pointer (some ⟨R, 0, none⟩)] w (SomeWins R w) := by
  have hlt := hR.lt
  have hBR := hR.1
  obtain ⟨i0, hi, hz0, hz1, hz2⟩ := info_parts Try.infoXs
  go_enter Try.func93, Try.ntmps93
  go_wp2_with fail
  refine (one_any B R zs p _ 5 5 [2, 3, 2, 4, 1] _ (hR.alloc _) (by omega) (rd_lit _ _ _ 5 _ rfl rfl (by omega)) (by omega) (by omega) (fun b o e => by injection e with e; injection e with e1 e2; omega)).mono ?_
  rintro e w1 ⟨k, hk, rfl, hR1, hg1⟩
  have hk1 : 1 ≤ k ∧ k ≤ 4 := by simp at hk; omega
  obtain ⟨hk1a, hk1b⟩ := hk1
  have hG1 := grown_trans (grown_alloc (grown_refl w (some R)) _) hg1
  clear hk hg1
  obtain ⟨k, rfl⟩ := Int.eq_ofNat_of_zero_le (show 0 ≤ k by omega)
  obtain ⟨m, hm⟩ : ∃ m : Nat, m = 7 + k := ⟨_, rfl⟩
  have e1 : 7 + (k : Int) = (m : Int) := by omega
  have E1 := Lib.hid e1
  have hm11 : m ≤ 11 := by omega
  clear hm e1
  go_wp2_with fail
  rw [E1.out]
  refine (someText_any B R zs (p + 1) m w1 hR1 (by omega) (by omega)).mono ?_
  rintro e w2 ⟨l, q, rfl, hl, hq, hR2, hg2⟩
  have hG2 := grown_trans hG1 hg2
  have hs2 := hG2.size
  clear hR1 hG1 hg2
  have HV := Lib.hid (validText_any l w2 (by omega))
  cases hv : vt l with
  | false =>
    have Hv := Lib.hid hv
    clear hv
    go_wp2_with fail
    refine HV.out.mono ?_
    rintro e w' ⟨rfl, rfl⟩
    rw [Hv.out]
    go_wp2_with fail
    go_ret
    refine ⟨_, 2, 2, [[97, 98], [98, 97]], rfl, (Row.of_block #[.string ⟨#[97, 98]⟩, .string ⟨#[98, 97]⟩] 2 (heap_al0 w2 _) hs2 rfl (by omega)), ?_, by omega, grown_alloc hG2 _⟩
    intro x hx
    simp at hx
    rcases hx with rfl | rfl <;> simp
  | true =>
  have Hv := Lib.hid hv
  clear hv
  by_cases hlk : l.length < k
  · have hlk' : (l.length : Int) < (k : Int) := by omega
    go_wp2_with fail
    refine HV.out.mono ?_
    rintro e w' ⟨rfl, rfl⟩
    rw [Hv.out]
    go_wp2_with fail
    go_ret
    refine ⟨_, 2, 2, [[97, 98], [98, 97]], rfl, (Row.of_block #[.string ⟨#[97, 98]⟩, .string ⟨#[98, 97]⟩] 2 (heap_al0 w2 _) hs2 rfl (by omega)), ?_, by omega, grown_alloc hG2 _⟩
    intro x hx
    simp at hx
    rcases hx with rfl | rfl <;> simp
  have hlk' : ¬ (l.length : Int) < (k : Int) := by omega
  go_wp2_with fail
  refine HV.out.mono ?_
  rintro e w' ⟨rfl, rfl⟩
  rw [Hv.out]
  go_wp2_with fail
  refine (specWindowsR_any l k w2 (by omega) (by omega)).mono ?_
  rintro e w3 ⟨A, n, c, rfl, hrow, hb3⟩
  have hrow := hrow.more hs2
  have hG := grown_below hG2 hb3
  have hR := hR2.kept hb3
  have hn : n = l.length + 1 - k := by have := hrow.len; rw [List.length_map, stT_len, winds_len] at this; omega
  have hn1 : 1 ≤ n := by omega
  have hn40 : n ≤ 20 := by omega
  obtain ⟨ws, hws⟩ : ∃ ws, ws = stT (winds l k) := ⟨_, rfl⟩
  have hsh : Short ws 50 := fun x hx => by
    rw [hws] at hx
    have := winds_memlen ((stT_perm _).mem_iff.1 hx)
    omega
  rw [← hws] at hrow
  clear hn hws hb3 hR2 hG2 HV hlk hlk'
  have hwl := hrow.len
  rw [List.length_map] at hwl
  go_wp2_with fail
  refine (pick_any B R zs _ 4 _ hR (by omega) (by omega) (by omega)).mono ?_
  rintro e w4 ⟨v, rfl, hv, _, hR, hg⟩
  have hrow := hrow.drawn hg (hrow.ne_of_lt hlt)
  have hG := grown_trans hG hg
  have hsz := hG.size
  clear hv hg
  have arms : v = 0 ∨ (v ≠ 0 ∧ 1 < n) ∨ (v ≠ 0 ∧ n ≤ 1) := by omega
  rcases arms with rfl | ⟨hv0, h2⟩ | ⟨hv0, h2⟩
  case' inl =>
    obtain ⟨g, cur, rfl, hgB, hh, ht, hc, hm2⟩ := Row.blk (g := 0) hrow (by omega)
    obtain ⟨x, hx⟩ : ∃ x, ws[0]? = some x := ⟨_, List.getElem?_eq_getElem (by omega)⟩
    have hcx := (hrow.cellsW (j := 0) (u := .string ⟨x.toArray⟩) (by rw [List.getElem?_map, hx]; rfl)).1
    have hx50 := hsh x (List.mem_of_getElem? hx)
    have n0 : (0 : Int) < (n : Int) := by omega
    have b1 : (n : Int) + 1 > 1 := by omega
    have b2 : 1 < (n : Int) + 1 := by omega
    unfold maxLen at hm2
    clear hx hh ht
    go_wp2_with (at_builtin; refine wpList_app1 _ rfl _ _ 24 rfl w.heap.size 9 i0 (.string ⟨#[]⟩) 16 Try.underlying24 hi hz0 hz1 hz2 rfl _ _ _ _ rfl (hrow.alloc _) _ (.string ⟨x.toArray⟩) rfl (cell_one_new _ _ _) rfl (by omega) (by omega) (by simp; omega) ?_; intro A c w5 hrow5 hg5)
    have hG := grown_app hlt hG hrow hg5
    have hR := (hR.alloc (.cells #[.string ⟨x.toArray⟩] 9)).grown hg5 (fun k hk => by have := row_ge hrow k hk; omega)
    have hsh := hsh.snoc hx50
    have hrow : Row w5 w.heap.size 9 A (n + 1) c ((ws ++ [x]).map S) := by rw [List.map_append]; exact hrow5
    obtain ⟨ws, hws⟩ : ∃ l, l = ws ++ [x] := ⟨_, rfl⟩
    obtain ⟨n, hnn⟩ : ∃ m, m = n + 1 := ⟨_, rfl⟩
    rw [← hws] at hsh hrow
    rw [← hnn] at hrow ⊢
    have hn1 : 1 < n := by omega
    have hn40 : n ≤ 21 := by omega
    have hwl := hrow.len
    rw [List.length_map] at hwl
    clear hnn hws hg5 hcx n0 b1 b2 hrow5
  case' inr.inl =>
    have hn1 : 1 < n := h2
    have b1 : (n : Int) > 1 := by omega
    have b2 : 1 < (n : Int) := by omega
    have e0 : ((v : Int) == 0) = false := by simp; omega
    go_wp2_with fail
    clear b1 b2 e0
  case' inr.inr =>
    have b1 : ¬ (n : Int) > 1 := by omega
    have b2 : ¬ 1 < (n : Int) := by omega
    have e0 : ((v : Int) == 0) = false := by simp; omega
    go_wp2_with fail
    clear b1 b2 e0
  case' inl | inr.inl =>
    refine (pick_any B R zs _ 6 _ hR (by omega) (by omega) (by omega)).mono ?_
    rintro e w6 ⟨u, rfl, hu, _, hR, hg⟩
    have hrow := hrow.drawn hg (hrow.ne_of_lt hlt)
    have hG := grown_trans hG hg
    have hsz := hG.size
    clear hu hg
    by_cases hu0 : u = 0
    case' pos =>
      subst hu0
      obtain ⟨g, cur, rfl, hgB, hh, ht, hc, hm2⟩ := Row.blk (g := 0) hrow (by omega)
      obtain ⟨m2, hm3⟩ : ∃ m2, m2 + 1 = n := ⟨n - 1, by omega⟩
      obtain ⟨y, hy⟩ : ∃ y, ws[m2]? = some y := ⟨_, List.getElem?_eq_getElem (by omega)⟩
      obtain ⟨z, hz⟩ : ∃ z, ws[0]? = some z := ⟨_, List.getElem?_eq_getElem (by omega)⟩
      have hcy := (hrow.cellsW (j := m2) (u := .string ⟨y.toArray⟩) (by rw [List.getElem?_map, hy]; rfl)).1
      obtain ⟨hcz, hfz⟩ := hrow.cellsW (j := 0) (u := .string ⟨z.toArray⟩) (by rw [List.getElem?_map, hz]; rfl)
      have hy50 := hsh y (List.mem_of_getElem? hy)
      have n0 : (0 : Int) < (n : Int) := by omega
      have e1 : IntKind.i64.wrap ((n : Int) - 1) = (m2 : Int) := by rw [IntKind.wrap_i64]; omega
      have e2 : (n : Int) - 1 = (m2 : Int) := by omega
      have e3 : IntKind.i64.wrap (m2 : Int) = (m2 : Int) := by rw [IntKind.wrap_i64]; omega
      have b1 : (m2 : Int) < (n : Int) := by omega
      have b0 : (0 : Int) ≤ (m2 : Int) := by omega
      unfold maxLen at hm2
      clear hy hz hh ht hm3
      go_wp2_with fail
      have hrow : Row (w6.setCell ⟨g, 0, none⟩ (.string ⟨y.toArray⟩)) w.heap.size 9 (some ⟨g, 0, none⟩) n c ((ws.set 0 y).map S) := by
        rw [List.map_set]
        exact hrow.setW (j := 0) (by omega) _
      have hR := hR.grown (grown_setW w6 g 0 (.string ⟨y.toArray⟩)) (fun k hk => by cases hk; omega)
      have hG := gr_afterW hG (grown_setW w6 g 0 (.string ⟨y.toArray⟩)) (fun k hk => by cases hk; omega)
      have hsh : Short (ws.set 0 y) 50 := fun x hx => by
        rcases List.mem_or_eq_of_mem_set hx with h | h
        · exact hsh x h
        · rw [h]; exact hy50
      clear hcy hcz hfz n0 e1 e2 e3 b1 b0
    case' neg =>
      have e0 : ((u : Int) == 0) = false := by simp; omega
      go_wp2_with fail
      clear e0
  all_goals
    refine (pick_any B R zs _ 30 _ hR (by omega) (by omega) (by omega)).mono ?_
    rintro e w8 ⟨u, rfl, hu, _, hR, hg⟩
    have hrow := hrow.drawn hg (hrow.ne_of_lt hlt)
    have hG := grown_trans hG hg
    have hsz := hG.size
    have hnc := hrow.own.2.1
    have hcm := hrow.own.2.2.1
    unfold maxLen at hcm
    clear hu hg
    by_cases hu0 : u = 0
    · subst hu0
      go_wp2_with (at_builtin; refine wpList_app1 _ rfl _ _ 24 rfl w.heap.size 9 i0 (.string ⟨#[]⟩) 16 Try.underlying24 hi hz0 hz1 hz2 rfl _ _ _ _ rfl (hrow.alloc _) _ (.string ⟨#[]⟩) rfl (cell_one_new _ _ _) rfl (by omega) (by omega) (by simp; omega) ?_; intro A9 c9 w9 hrow9 hg9)
      go_ret
      exact ⟨A9, _, c9, _ ++ [[]], rfl, by rw [List.map_append]; exact hrow9, hsh.snoc (by simp), by omega, grown_app hlt hG hrow hg9⟩
    · have e0 : ((u : Int) == 0) = false := by simp; omega
      by_cases hu1 : u = 1
      · subst hu1
        go_wp2_with fail
        go_ret
        exact ⟨_, 0, 0, [], rfl, (Row.nil_ w8 9).more hsz, (show Short [] 50 from fun x hx => absurd hx (by simp)), by omega, grown_alloc hG _⟩
      · have e1 : ((u : Int) == 1) = false := by simp; omega
        by_cases hu2 : u = 2
        · subst hu2
          go_wp2_with (at_builtin; refine wpList_app1 _ rfl _ _ 24 rfl w.heap.size 9 i0 (.string ⟨#[]⟩) 16 Try.underlying24 hi hz0 hz1 hz2 rfl _ _ _ _ rfl (hrow.alloc _) _ (.string ⟨#[101]⟩) rfl (cell_one_new _ _ _) rfl (by omega) (by omega) (by simp; omega) ?_; intro A9 c9 w9 hrow9 hg9)
          go_ret
          exact ⟨A9, _, c9, _ ++ [[101]], rfl, by rw [List.map_append]; exact hrow9, hsh.snoc (by simp), by omega, grown_app hlt hG hrow hg9⟩
        · have e2 : ((u : Int) == 2) = false := by simp; omega
          go_wp2_with fail
          go_ret
          exact ⟨_, _, _, _, rfl, hrow, hsh, by omega, hG⟩
/-- Drawn windows returned. -/
def DrawnW (w : World) (e : Ending) (w' : World) : Prop := ∃ (A : Option Addr) (n c : Nat) (ws : List (List UInt8)), e = .returned (.slice A n c) ∧ Row w' w.heap.size 9 A n c (ws.map S) ∧ Short ws 50 ∧ n ≤ 50 ∧ Below w.heap.size w w'
set_option maxHeartbeats 800000 in
theorem DrawTextsOf_any (A : Option Addr) (n c : Nat) (zs : List Int) (w : World) (hr : Rd w w.heap.size A n c (zs.map U8)) (hz : ∀ z ∈ zs, 0 ≤ z ∧ z ≤ 255) :
    Calls Try.prog 57 #[.slice A n c] w (DrawnW w) := by
  have H := Lib.hid (newReader_any A n c zs w hr hz)
  clear hr hz
  go_enter Try.func57, Try.ntmps57
  go_wp2_with fail
  refine H.out.mono ?_
  rintro e w1 ⟨R, rs, rfl, hR, hb1⟩
  have hBR := hR.1
  have s1 := hb1.size
  go_wp2_with fail
  refine (someWindows_any _ R rs 0 w1 hR (by omega)).mono ?_
  rintro e w2 ⟨A2, n2, c2, ws, rfl, hrow, hsh, hn, hg⟩
  go_wp2_with fail
  go_ret
  exact ⟨A2, n2, c2, ws, rfl, hrow.more s1, hsh, hn, grown_bel hb1 hBR hg⟩
set_option maxHeartbeats 800000 in
theorem DrawStretchesOf_any (A : Option Addr) (n c : Nat) (zs : List Int) (w : World) (hr : Rd w w.heap.size A n c (zs.map U8)) (hz : ∀ z ∈ zs, 0 ≤ z ∧ z ≤ 255) :
    Calls Try.prog 56 #[.slice A n c] w (DrawnW w) := by
  have H := Lib.hid (newReader_any A n c zs w hr hz)
  clear hr hz
  go_enter Try.func56, Try.ntmps56
  go_wp2_with fail
  refine H.out.mono ?_
  rintro e w1 ⟨R, rs, rfl, hR, hb1⟩
  have hBR := hR.1
  have s1 := hb1.size
  go_wp2_with fail
  refine (someWindows_any _ R rs 0 w1 hR (by omega)).mono ?_
  rintro e w2 ⟨A2, n2, c2, ws, rfl, hrow, hsh, hn, hg⟩
  go_wp2_with fail
  go_ret
  exact ⟨A2, n2, c2, ws, rfl, hrow.more s1, hsh, hn, grown_bel hb1 hBR hg⟩
end Go.Proofs.Ytfbmcfdmffpfmaa
