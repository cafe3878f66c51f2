/-
  The program's StretchesOf.
-/
import Derived.Test.YtfbmcfdmffpfmaaJntM
import Derived.Test.YtfbmcfdmffpfmaaStS
import Derived.Test.YtfbmcfdmffpfmaaTold
namespace Go.Proofs.Ytfbmcfdmffpfmaa
open Go.RowKit Go.Maps Go.Sort Go.Shelf
set_option linter.unusedVariables false
set_option linter.unusedSimpArgs false

set_option maxHeartbeats 1600000 in
theorem passed_any (x : List UInt8) (hx : x.length ≤ 1048576) (bj bm n : Nat) (f : List UInt8 → Jt) (w : World) (hc : w.cell? ⟨bj, 0, none⟩ = some (.map (some bm))) (hm : JMap w bm n f) :
    Calls Try.prog 90 #[.string ⟨x.toArray⟩, .pointer (some ⟨bj, 0, none⟩)] w fun e w' => e = .returned (.tuple #[.string ⟨(f x).n.toArray⟩, .bool (decide ((f x).e = 1) && decide ((f x).b = 1))]) ∧ Below w.heap.size w w' := by
  obtain ⟨j, hj⟩ : ∃ j, j = f x := ⟨_, rfl⟩
  have Hj := Lib.hid hj
  rw [← hj]
  clear hj
  obtain ⟨je, jb, jn⟩ := j
  obtain ⟨W, hW⟩ : ∃ W, W = w.alloc (.cells #[.int .i64 (je : Nat), .int .i64 (jb : Nat), .string ⟨jn.toArray⟩] 65) := ⟨_, rfl⟩
  have c0 : W.cell? ⟨w.heap.size, 0, none⟩ = some (.int .i64 (je : Nat)) := by rw [hW, cell_of_row _ w.heap.size 0 _ _ (0, 0) (heap_alloc_new w _)]; rfl
  have c1 : W.cell? ⟨w.heap.size, 1, none⟩ = some (.int .i64 (jb : Nat)) := by rw [hW, cell_of_row _ w.heap.size 1 _ _ (0, 0) (heap_alloc_new w _)]; rfl
  have c2 : W.cell? ⟨w.heap.size, 2, none⟩ = some (.string ⟨jn.toArray⟩) := by rw [hW, cell_of_row _ w.heap.size 2 _ _ (0, 0) (heap_alloc_new w _)]; rfl
  have hB : Below w.heap.size w W := by rw [hW]; exact (Below.refl _ w).alloc (Nat.le_refl _) _
  have HW := Lib.hid hW
  clear hW
  have arms : (je = 1) ∨ (je ≠ 1) := by omega
  rcases arms with he | he
  case' inl => have d1 : ((je : Int) == 1) = true := by simp [he]
  case' inr => have d1 : ((je : Int) == 1) = false := by simp; omega
  all_goals
    have He := Lib.hid he
    clear he
    go_enter Try.func90, Try.ntmps90
    go_wp2_with (at_lookup; refine wpList_lookup_j _ rfl _ _ rfl bm n f rfl hm x rfl hx ?_; rw [← Hj.out]; unfold jv)
    rw [← HW.out]
    go_quiet (fail)
    go_wp2_with fail
    go_ret2
    refine ⟨?_, bel_drewN hB _⟩
    have hbb : (((jb : Nat) : Int) == 1) = decide (jb = 1) := by
      rw [Bool.eq_iff_iff]
      simp
      omega
    simp [He.out, hbb]
theorem JMap.setC {w : World} {b n : Nat} {f : List UInt8 → Jt} (h : JMap w b n f) {g i : Nat} (hg : b ≠ g) (u : Value) : JMap (w.setCell ⟨g, i, none⟩ u) b n f := by
  obtain ⟨D, h1, h2⟩ := h
  exact ⟨D, h1.setCell (a := ⟨g, i, none⟩) hg u, h2⟩
theorem grown_setJ (w : World) (g j : Nat) (v : Value) : w.grownBy (w.setCell ⟨g, j, none⟩ v) (some g) :=
  ⟨rfl, rfl, rfl, by simp, fun b hb hne => RowKit.Below.heap_setCell w ⟨g, j, none⟩ v b (fun e => hne (by rw [e]))⟩
theorem grown_tr {a b c : World} {row : Option Nat} (h : a.grownBy b row) (k : b.grownBy c row) : a.grownBy c row :=
  ⟨k.os.trans h.os, k.tape.trans h.tape, k.output.trans h.output, Nat.le_trans h.size k.size, fun x hx hne => (k.block x (Nat.lt_of_lt_of_le hx h.size) hne).trans (h.block x hx hne)⟩
theorem four_set (w : World) (g : Nat) (a b c d : Value) : w.grownBy ((((w.setCell ⟨g, 0, none⟩ a).setCell ⟨g, 1, none⟩ b).setCell ⟨g, 2, none⟩ c).setCell ⟨g, 0, none⟩ d) (some g) :=
  grown_tr (grown_tr (grown_tr (grown_setJ w g 0 a) (grown_setJ _ g 1 b)) (grown_setJ _ g 2 c)) (grown_setJ _ g 0 d)
theorem box_kept {w w' : World} {bx g : Nat} {v : Value} (hc : w.cell? ⟨bx, 0, none⟩ = some v) (hg : w.grownBy w' (some g)) (hne : bx ≠ g) : w'.cell? ⟨bx, 0, none⟩ = some v :=
  (World.cell?_of_block (hg.block bx (World.block_lt_of_cell? w _ hc) (fun e => hne (by injection e)))).trans hc
set_option maxRecDepth 100000 in
set_option maxHeartbeats 6400000 in
theorem StretchesOf_any (A : Option Addr) (n c : Nat) (ws : List (List UInt8)) (w : World) (hr : Rd w w.heap.size A n c (ws.map S)) (hl : Len47 ws) :
    Calls Try.prog 48 #[.slice A n c] w (RetRow w 9 ((SO ws).map S)) := by
  have hV := Lib.hid (windowsOk_any A n c ws w hr hl)
  cases h1 : vwd ws with
  | false =>
    have Hv := Lib.hid (SO_no (.inl h1))
    have H1 := Lib.hid h1
    clear h1
    go_enter Try.func48, Try.ntmps48
    go_wp2_with fail
    refine hV.out.mono ?_
    rintro e w1 ⟨rfl, hb1⟩
    rw [H1.out]
    go_wp2_with fail
    go_ret
    rw [Hv.out]
    exact retRow_nil' _ hb1
  | true =>
  obtain ⟨hk1, hk6, _, hn8, hn1⟩ := vwd_k h1
  have hnn := hr.slen
  have H1 := Lib.hid h1
  obtain ⟨b0, o0, y0, rfl, hb0, hy0, hcy0⟩ := hr.str (k := 0) (by omega)
  rw [Nat.add_zero] at hcy0
  have hK := klen_at hy0
  have hn0 : (0 : Int) < (n : Int) := by omega
  have hn00 : 0 < n := by omega
  by_cases h2 : y0.length < 2
  · have Hv := Lib.hid (SO_no (ws := ws) (.inr (by omega)))
    have h2' : (y0.length : Int) < 2 := by omega
    clear h1 hk1 hk6 hK hy0 h2
    go_enter Try.func48, Try.ntmps48
    go_wp2_with fail
    refine hV.out.mono ?_
    rintro e w1 ⟨rfl, hb1⟩
    rw [H1.out]
    have hcy1 := hb1.cell (p := ⟨b0, o0, none⟩) hb0 |>.trans hcy0
    go_wp2_with fail
    go_ret
    rw [Hv.out]
    exact retRow_nil' _ hb1
  have h2' : ¬ (y0.length : Int) < 2 := by omega
  have Hv := Lib.hid (SO_go h1 (show 2 ≤ klen ws by omega))
  have HW := Lib.hid (wds_dd h1 (show 2 ≤ klen ws by omega))
  obtain ⟨all, hall⟩ : ∃ all, all = dd ws := ⟨_, rfl⟩
  obtain ⟨k, hkk⟩ : ∃ k, k = klen ws := ⟨_, rfl⟩
  have hal : all.length ≤ 8 := by have := dd_len ws; rw [hall]; omega
  rw [← hall, ← hkk] at Hv HW
  have hk2 : 2 ≤ k := by omega
  have hk6' : k ≤ 6 := by omega
  have Hall := Lib.hid hall
  clear h1 hk1 hk6 hK hy0 h2 hkk hall
  go_enter Try.func48, Try.ntmps48
  go_wp2_with fail
  refine hV.out.mono ?_
  rintro e w1 ⟨rfl, hb1⟩
  rw [H1.out]
  have s1 := hb1.size
  have hcy1 := hb1.cell (p := ⟨b0, o0, none⟩) hb0 |>.trans hcy0
  have hr1 := (hr.below hb1).more s1
  have hVa := fun W => callsIn_wide.1 (Values_any 0 (some ⟨b0, o0, none⟩) n c W)
  clear hV
  go_wp2_with fail
  refine (hVa _).mono ?_
  rintro e w4 ⟨rfl, hw4⟩
  have hs4 := Lib.hid (show w4.heap.size = w1.heap.size + 1 by rw [hw4]; simp)
  have hb4 : Below w1.heap.size w1 w4 := by rw [hw4]; exact (Below.refl _ w1).alloc (Nat.le_refl _) _
  have hbx4 : Boxed w4 w1.heap.size 24 (.slice (some ⟨b0, o0, none⟩) n c) := by rw [hw4]; exact Boxed.new _ _ _
  have hSo := Lib.hid (Sorted_any w1.heap.size (some ⟨b0, o0, none⟩) n c ws w4 hbx4 ((hr1.below' hb4 (by omega)).more (by have := hs4.out; omega)) (by omega))
  clear hw4 hVa hcy1
  go_wp2_with fail
  refine hSo.out.mono ?_
  rintro e w5 ⟨A5, n5, c5, rfl, hrow5, hb5⟩
  have hlen5 := hrow5.len
  rw [List.length_map, stT_len] at hlen5
  have hC := Lib.hid (CompactS_any _ A5 n5 c5 _ w5 hrow5 (by omega))
  have B5 := hb1.trans ((hb4.trans (hb5.mono (by have := hs4.out; omega))).mono s1)
  clear hSo hbx4 hb4 hb5
  go_wp2_with fail
  refine hC.out.mono ?_
  rintro e w6 ⟨rfl, hrow6, hg6⟩
  have B6 : Below w.heap.size w w6 := kp_grown B5 (Nat.le_refl _) hg6 (row_ge (hrow5.more (by have := hs4.out; omega)))
  rw [compact_dd, ← Hall.out] at hrow6 ⊢
  obtain ⟨n6, hn6⟩ : ∃ n6, n6 = all.length := ⟨_, rfl⟩
  have Hn6 := Lib.hid hn6
  rw [← hn6] at hrow6 ⊢
  have hn68 : n6 ≤ 8 := by omega
  clear hn6 hg6 hC hrow5
  have hmm := @run_makeMap Try.prog
  go_wp2_with fail
  obtain ⟨bm, hbm⟩ : ∃ bm, bm = w6.heap.size := ⟨_, rfl⟩
  obtain ⟨W7, hW7⟩ : ∃ W7, W7 = (w6.alloc (.map #[] 0)).alloc (.cells #[.map (some w6.heap.size)] 63) := ⟨_, rfl⟩
  have hM7 : JMap W7 bm 0 (jOf k (all.take 0)) := by
    rw [hW7, hbm]
    refine ((JMap.start w6).below ((Below.refl _ _).alloc (Nat.le_refl _) _)).congr ?_
    funext p
    rw [List.take_zero]
    rfl
  have hc7 : W7.cell? ⟨bm + 1, 0, none⟩ = some (.map (some bm)) := by
    rw [hW7, hbm, show w6.heap.size + 1 = (w6.alloc (.map #[] 0)).heap.size by simp, cell_of_row _ _ 0 _ _ (0, 0) (heap_alloc_new _ _)]
    rfl
  have hB7 : Below bm w6 W7 := by rw [hW7, hbm]; exact ((Below.refl _ _).alloc (Nat.le_refl _) _).alloc (by simp) _
  have hs7 : bm + 2 ≤ W7.heap.size := by rw [hW7, hbm]; simp
  rw [← hW7, ← hbm]
  have Hbm := Lib.hid hbm
  have o6 := hrow6.rd
  clear hW7 hmm hbm
  obtain ⟨q, hq⟩ : ∃ q, q + 1 = k := ⟨k - 1, by omega⟩
  have Hq := Lib.hid hq
  have hq1 : 1 ≤ q := by omega
  have hq5 : q ≤ 5 := by omega
  clear hq h2'
  go_loopw [36] (fun i wr => ∃ j : Nat, j ≤ n6 ∧ i = .int .i64 j ∧ JMap wr bm (2 * j) (jOf k (all.take j)) ∧ wr.cell? ⟨bm + 1, 0, none⟩ = some (.map (some bm)) ∧ Below bm w6 wr ∧ bm + 2 ≤ wr.heap.size) (fun i _ => n6 - (intOf i).toNat)
  case atStart => exact ⟨0, Nat.zero_le _, rfl, hM7, hc7, hB7, hs7⟩
  case round =>
    obtain ⟨j, hj, rfl, hM, hcb, hbr, hsz⟩ := hrel
    have o6r := o6.below (by rw [Hbm.out] at hbr; exact hbr)
    clear hM7 hc7 hB7 hs7
    by_cases hlt : j < n6
    · obtain ⟨b, o, x, rfl, hbb, hx, hcx⟩ := o6r.str hlt
      have hxm := List.mem_of_getElem? hx
      have Hxk := Lib.hid (HW.out.len x hxm)
      have Hst := Lib.hid (take_ats hx)
      have h0 : (j : Int) < (n6 : Int) := by omega
      have h00 : (0 : Int) ≤ (j : Int) := by omega
      have e1 : IntKind.i64.wrap ((x.length : Int) - 1) = (q : Int) := by rw [IntKind.wrap_i64]; have := Hxk.out; have := Hq.out; omega
      have e2 : (x.length : Int) - 1 = (q : Int) := by have := Hxk.out; have := Hq.out; omega
      have e3 : IntKind.i64.wrap (q : Int) = (q : Int) := by rw [IntKind.wrap_i64]; omega
      have b1 : (q : Int) ≤ (x.length : Int) := by omega
      have b2 : (0 : Int) ≤ (q : Int) := by omega
      have b3 : q ≤ x.length := by omega
      have b4 : 1 ≤ x.length := by have := Hxk.out; omega
      have b5 : (1 : Int) ≤ (x.length : Int) := by omega
      clear hx hxm
      go_wp2_with fail
      go_quiet (fail)
      have hMq : JMap (wr.drewN nq) bm (2 * j) (jOf k (all.take j)) := hM
      have hcbq : (wr.drewN nq).cell? ⟨bm + 1, 0, none⟩ = some (.map (some bm)) := hcb
      have hbrq : Below bm w6 (wr.drewN nq) := bel_drewN hbr _
      have hsq : bm + 2 ≤ (wr.drewN nq).heap.size := hsz
      obtain ⟨V, hV⟩ : ∃ V, V = wr.drewN nq := ⟨_, rfl⟩
      rw [← hV] at hMq hcbq hbrq hsq ⊢
      clear hV hM hcb hbr hsz
      obtain ⟨f, hf⟩ : ∃ f, f = jOf k (all.take j) := ⟨_, rfl⟩
      rw [← hf] at hMq
      have Hf := Lib.hid hf
      obtain ⟨j1, hj1⟩ : ∃ j1, j1 = f (List.take q x) := ⟨_, rfl⟩
      have Hj1 := Lib.hid hj1
      have hjb : j1.b ≤ 8 ∧ j1.e ≤ 8 := by
        rw [hj1, hf]
        have h1 := begsN_le k (all.take j) (List.take q x)
        have h2 := endsN_le (all.take j) (List.take q x)
        have h3 : (all.take j).length ≤ j := by rw [List.length_take]; omega
        exact ⟨by show begsN k (all.take j) (List.take q x) ≤ 8; omega, by show endsN (all.take j) (List.take q x) ≤ 8; omega⟩
      clear hf hj1
      obtain ⟨je, jb, jn⟩ := j1
      obtain ⟨hjb8, hje8⟩ := hjb
      dsimp only at hjb8 hje8
      obtain ⟨f1, hf1⟩ : ∃ f1, f1 = updJ f (List.take q x) ⟨je, jb + 1, x⟩ := ⟨_, rfl⟩
      obtain ⟨j2, hj2⟩ : ∃ j2, j2 = f1 (List.take (x.length - 1) x.tail) := ⟨_, rfl⟩
      have hj2e : j2.e ≤ 8 := by
        rw [hj2, hf1]
        unfold updJ
        split
        · exact hje8
        · rw [Hf.out]
          have h2 := endsN_le (all.take j) (List.take (x.length - 1) x.tail)
          have h3 : (all.take j).length ≤ j := by rw [List.length_take]; omega
          show endsN (all.take j) (List.take (x.length - 1) x.tail) ≤ 8
          omega
      have Hj2 := Lib.hid hj2
      have Hf1 := Lib.hid hf1
      clear hj2 hf1
      obtain ⟨je2, jb2, jn2⟩ := j2
      dsimp only at hj2e
      have hw3 : IntKind.i64.wrap ((je2 : Int) + 1) = ((je2 + 1 : Nat) : Int) := by rw [IntKind.wrap_i64]; omega
      have hw4 : wrap64 ((je2 : Int) + 1) = ((je2 + 1 : Nat) : Int) := by unfold wrap64; omega
      have hw1 : IntKind.i64.wrap ((jb : Int) + 1) = ((jb + 1 : Nat) : Int) := by rw [IntKind.wrap_i64]; omega
      have hw2 : wrap64 ((jb : Int) + 1) = ((jb + 1 : Nat) : Int) := by unfold wrap64; omega
      have hx6 : x.length ≤ 6 := by have := Hxk.out; omega
      have hcbA : ∀ ob, (V.alloc ob).cell? ⟨bm + 1, 0, none⟩ = some (.map (some bm)) := fun ob => (World.cell?_alloc_lt V ob _ (by show bm + 1 < _; omega)).trans hcbq
      have hne : bm ≠ V.heap.size := by omega
      go_wp2_with (first
        | (at_lookup; refine wpList_lookup_j _ rfl _ _ rfl bm (2 * j + 1) f1 rfl hM8 (List.take (x.length - 1) x.tail) rfl (by rw [List.length_take]; omega) ?_; rw [← Hj2.out]; unfold jv)
        | (at_lookup; refine wpList_lookup_j _ rfl _ _ rfl bm (2 * j) f rfl hMq (List.take q x) rfl (by rw [List.length_take]; omega) ?_; rw [← Hj1.out]; unfold jv)
        | (at_mapUpdate; refine wpList_store_j _ rfl _ _ _ rfl bm (2 * j + 1) f1 rfl ((((hM8.setC hne _).setC hne _).setC hne _).setC hne _) (by omega) (List.take (x.length - 1) x.tail) ⟨je2 + 1, jb2, jn2⟩ rfl (by rw [List.length_take]; omega) rfl ?_; intro w9 hM9 hg9
           have hG9 := four_set w8 V.heap.size (.int .i64 (je2 : Int)) (.int .i64 (jb2 : Int)) (.string ⟨jn2.toArray⟩) (.int .i64 ((je2 : Int) + 1)))
        | (at_mapUpdate; refine wpList_store_j _ rfl _ _ _ rfl bm (2 * j) f rfl (hMq.kept (World.grownBy_alloc _ _ none) (by simp)) (by omega) (List.take q x) ⟨je, jb + 1, x⟩ rfl (by rw [List.length_take]; omega) rfl ?_; intro w8 hM8 hg8
           rw [← Hf1.out] at hM8
           have hblk8 := (hg8.block V.heap.size (by simp) (by simp; omega)).trans (heap_alloc_new V _)
           have hcb8 : w8.cell? ⟨bm + 1, 0, none⟩ = some (.map (some bm)) := (World.cell?_of_block (hg8.block (bm + 1) (by simp; omega) (by simp))).trans (hcbA _)
           have c80 := cell_of_row w8 V.heap.size 0 _ _ (0, 0) hblk8
           have c81 := cell_of_row w8 V.heap.size 1 _ _ (0, 0) hblk8
           have c82 := cell_of_row w8 V.heap.size 2 _ _ (0, 0) hblk8
           have fz8 := fun i => frozen_of_row w8 V.heap.size i _ _ hblk8))
      have hbm6 : bm ≤ w6.heap.size := by have := Hbm.out; omega
      have hb9 : Below bm w6 w9 := kp_grown (kp_grown (kp_grown (kp_alloc _ hbrq (by omega)) (by omega) hg8 (fun k hk => by cases hk; omega)) (by omega) hG9 (fun k hk => by cases hk; omega)) (by omega) hg9 (fun k hk => by cases hk; omega)
      have hcb9 := box_kept (box_kept hcb8 hG9 (by omega)) hg9 (by omega)
      have hs9 : bm + 2 ≤ w9.heap.size := by
        have h1 := hg8.size
        have h2 := hG9.size
        have h3 := hg9.size
        rw [World.size_alloc] at h1
        omega
      have hst9 : updJ f1 (List.take (x.length - 1) x.tail) ⟨je2 + 1, jb2, jn2⟩ = jOf k (all.take (j + 1)) := by
        rw [Hst.out]
        have key := jOf_step (k := k) (l := all.take j) (y := x) (a := List.take q x) (b := List.take (x.length - 1) x.tail) (by rw [show k - 1 = q by have := Hq.out; omega]) (by rw [← List.drop_one, List.take_of_length_le (by rw [List.length_drop]; exact Nat.le_refl _)])
          (j1 := ⟨je, jb + 1, x⟩) (j2 := ⟨je2 + 1, jb2, jn2⟩) (by rw [← Hf.out, ← Hj1.out]) (by rw [← Hf.out, ← Hf1.out, ← Hj2.out])
        rw [← Hf.out, ← Hf1.out] at key
        exact key
      exact ⟨⟨j + 1, by omega, by go_num, (hM9.mono (by omega)).congr hst9, hcb9, hb9, hs9⟩, by simp [intOf]; omega⟩
    · obtain rfl : j = n6 := by omega
      rw [List.take_of_length_le (by have := Hn6.out; omega)] at hM
      go_wp2_with fail
      obtain ⟨w7, rfl⟩ : ∃ w7, w7 = wr := ⟨wr, rfl⟩
      obtain ⟨N, hN⟩ : ∃ N, N = w7.heap.size := ⟨_, rfl⟩
      have HN := Lib.hid hN
      have h67 : w6.heap.size ≤ N := by rw [hN]; exact hbr.size
      have hrow0 : Row (w7.alloc (.cells #[] 9)) N 9 (some ⟨N, 0, none⟩) 0 0 [] := by rw [hN]; exact Row.nil_ w7 9
      have hbN0 : Below N w7 (w7.alloc (.cells #[] 9)) := (Below.refl _ _).alloc (by omega) _
      rw [← hN]
      obtain ⟨i0, hi, hz0, hz1, hz2⟩ := info_parts Try.infoXs
      clear hN
      go_loopw [11, 74] (fun v i wz => ∃ (m : Nat) (A' : Option Addr) (n' c' : Nat), m ≤ j ∧ i = .int .i64 m ∧ v = .slice A' n' c' ∧ Row wz N 9 A' n' c' ((begTo k all m).map S) ∧ Below N w7 wz) (fun _ i _ => j - (intOf i).toNat)
      case atStart => exact ⟨0, _, 0, 0, Nat.zero_le _, rfl, rfl, hrow0, hbN0⟩
      case round =>
        obtain ⟨m, A', n', c', hm, rfl, rfl, hrow, hbN⟩ := hrel
        have hrl := hrow.len
        rw [List.length_map] at hrl
        have hbl := begTo_len k all m
        have hn' : n' ≤ 8 := by omega
        have hwN : N ≤ wr.heap.size := by rw [HN.out]; exact hbN.size
        have o6z := o6r.below (hbN.mono h67)
        clear hrl hbl hrow0 hbN0
        by_cases hlt : m < j
        · obtain ⟨b, o, x, rfl, hbb, hx, hcx⟩ := o6z.str hlt
          have hxm := List.mem_of_getElem? hx
          have Hxk := Lib.hid (HW.out.len x hxm)
          have Hxm := Lib.hid hxm
          have Hx := Lib.hid hx
          have h0 : (m : Int) < (j : Int) := by omega
          have h00 : (0 : Int) ≤ (m : Int) := by omega
          have e1 : IntKind.i64.wrap ((x.length : Int) - 1) = (q : Int) := by rw [IntKind.wrap_i64]; have := Hxk.out; have := Hq.out; omega
          have e2 : (x.length : Int) - 1 = (q : Int) := by have := Hxk.out; have := Hq.out; omega
          have e3 : IntKind.i64.wrap (q : Int) = (q : Int) := by rw [IntKind.wrap_i64]; omega
          have b1 : (q : Int) ≤ (x.length : Int) := by omega
          have b2 : (0 : Int) ≤ (q : Int) := by omega
          have b3 : q ≤ x.length := by omega
          have hx6 : x.length ≤ 6 := by have := Hxk.out; omega
          have hT := Lib.hid (passed_any (List.take q x) (by rw [List.length_take]; omega) (bm + 1) bm (2 * j) (jOf k all) wr ((hbN.cell (p := ⟨bm + 1, 0, none⟩) (by have := HN.out; show bm + 1 < N; omega)).trans hcb) (hM.below (by rw [← HN.out]; exact hbN)))
          have hps : (decide ((jOf k all (List.take q x)).e = 1) && decide ((jOf k all (List.take q x)).b = 1)) = psd k all (x.take (k - 1)) := by
            rw [show k - 1 = q by have := Hq.out; omega]
            rfl
          rw [hps] at hT
          obtain ⟨nx, hnx⟩ : ∃ nx, nx = (jOf k all (List.take q x)).n := ⟨_, rfl⟩
          rw [← hnx] at hT
          clear hx hxm hps hnx
          cases hp : psd k all (x.take (k - 1)) with
          | true =>
            have Hp := Lib.hid hp
            rw [hp] at hT
            have Hst := Lib.hid (begTo_skip Hx.out hp)
            clear hp
            go_wp2_with fail
            refine hT.out.mono ?_
            rintro e w8 ⟨rfl, hb8⟩
            have hbN8 := hbN.trans (hb8.mono hwN)
            have hrow8 := hrow.kept hb8
            clear hb8 hrow
            go_wp2_with fail
            go_roundw
            case rel => exact ⟨m + 1, A', n', c', by omega, by go_num, rfl, by rw [Hst.out]; exact hrow8, hbN8⟩
            case measure => simp [intOf]; omega
          | false =>
            have Hnp := Lib.hid hp
            rw [hp] at hT
            have Hst := Lib.hid (begTo_go Hx.out hp)
            clear hp
            go_wp2_with fail
            refine hT.out.mono ?_
            rintro e w8 ⟨rfl, hb8⟩
            have hbN8 := hbN.trans (hb8.mono hwN)
            have hrow8 := hrow.kept hb8
            clear hb8 hrow hT hcx hbN hwN o6z h0 h00 e1 e2 e3 b1 b2 b3
            go_wp2_with fail
            go_loopw [16] (fun tv wz => ∃ (vis : List (List UInt8)) (t : List UInt8), tv = .string ⟨t.toArray⟩ ∧ Pth k all x vis t ∧ Row wz N 9 A' n' c' ((begTo k all m).map S) ∧ Below N w7 wz) (fun tv _ => 100 - lenT tv)
            case atStart => exact ⟨[x], x, rfl, Pth.one, hrow8, hbN8⟩
            case round =>
              obtain ⟨vis, t, rfl, hP, hrow, hbN⟩ := hrel
              obtain ⟨hkt, htl, hkz⟩ := hP.len HW.out Hxm.out Hnp.out
              have hwN : N ≤ wr.heap.size := by rw [HN.out]; exact hbN.size
              obtain ⟨r, hr1⟩ : ∃ r, r + k = t.length + 1 := ⟨t.length + 1 - k, by omega⟩
              have ht20 : t.length ≤ 20 := by omega
              have HP := Lib.hid hP
              have er1 : IntKind.i64.wrap ((t.length : Int) - (x.length : Int)) = (t.length : Int) - (x.length : Int) := by rw [IntKind.wrap_i64]; omega
              have er2 : IntKind.i64.wrap ((t.length : Int) - (x.length : Int) + 1) = (r : Int) := by rw [IntKind.wrap_i64]; have := Hxk.out; omega
              have er3 : (t.length : Int) - (x.length : Int) + 1 = (r : Int) := by have := Hxk.out; omega
              have er4 : (r : Int) ≤ (t.length : Int) := by omega
              have er5 : (0 : Int) ≤ (r : Int) := by omega
              have er6 : r ≤ t.length := by omega
              obtain ⟨E, hE⟩ : ∃ E, E = endT k t := ⟨_, rfl⟩
              have hEs : List.take (t.length - r) (List.drop r t) = E := by
                rw [hE, List.take_of_length_le (by rw [List.length_drop]; exact Nat.le_refl _)]
                unfold endT
                rw [show t.length - (k - 1) = r by omega]
              have hEl : E.length = q := by
                rw [← hEs, List.length_take, List.length_drop]
                have := Hq.out
                omega
              have HEs := Lib.hid hEs
              have HE := Lib.hid hE
              have hT := Lib.hid (passed_any E (by omega) (bm + 1) bm (2 * j) (jOf k all) wr ((hbN.cell (p := ⟨bm + 1, 0, none⟩) (by have := HN.out; show bm + 1 < N; omega)).trans hcb) (hM.below (by rw [← HN.out]; exact hbN)))
              rw [show (decide ((jOf k all E).e = 1) && decide ((jOf k all E).b = 1)) = psd k all E from rfl] at hT
              have Hnx := Lib.hid (show psd k all E = true → (jOf k all E).n = nxw k all E from fun h => lastB_nxw h)
              obtain ⟨y, hy⟩ : ∃ y, y = (jOf k all E).n := ⟨_, rfl⟩
              rw [← hy] at hT Hnx
              have hnc := hrow.own.2.1
              have hcm := hrow.own.2.2.1
              unfold maxLen at hcm
              clear hP hkt htl hkz hr1 hE hEs hEl hy hrow8 hbN8
              cases hp : psd k all E with
              | true =>
                rw [hp] at hT
                have Hps := Lib.hid hp
                have hyn := Hnx.out hp
                have hb := begs_one hp
                rw [← hyn] at hb
                have Hyk := Lib.hid (HW.out.len y hb.1)
                have HP2 := Lib.hid (HP.out.step HW.out Hxm.out (by rw [← HE.out]; exact hp))
                rw [← HE.out, ← hyn, show k - 1 = q by have := Hq.out; omega] at HP2
                have Hd1 := Lib.hid (show (y.drop q).length = 1 by rw [List.length_drop]; have := Hyk.out; have := Hq.out; omega)
                have Hdr := Lib.hid (show List.take (y.length - q) (List.drop q y) = y.drop q by rw [List.take_of_length_le (by rw [List.length_drop]; exact Nat.le_refl _)])
                have e1 : IntKind.i64.wrap ((y.length : Int) - 1) = (q : Int) := by rw [IntKind.wrap_i64]; have := Hyk.out; have := Hq.out; omega
                have e2 : (y.length : Int) - 1 = (q : Int) := by have := Hyk.out; have := Hq.out; omega
                have b1 : (q : Int) ≤ (y.length : Int) := by omega
                have b2 : (0 : Int) ≤ (q : Int) := by omega
                have b3 : q ≤ y.length := by omega
                have hy6 : y.length ≤ 6 := by have := Hyk.out; omega
                clear hp hyn hb
                go_wp2_with fail
                rw [HEs.out]
                refine hT.out.mono ?_
                rintro e w8 ⟨rfl, hb8⟩
                have hbN8 := hbN.trans (hb8.mono hwN)
                have hrow8 := hrow.kept hb8
                clear hb8 hrow hT er1 er2 er3 er4 er5 er6
                go_wp2_with fail
                go_roundw
                case rel => exact ⟨y :: vis, t ++ y.drop q, by rw [Hdr.out], HP2.out, hrow8, hbN8⟩
                case measure =>
                  rw [Hdr.out]
                  have := Hd1.out
                  show 100 - (t ++ y.drop q).length < 100 - t.length
                  rw [List.length_append]
                  omega
              | false =>
                rw [hp] at hT
                have Hfin := Lib.hid (HP.out.stop HW.out Hxm.out Hnp.out (by rw [← HE.out]; exact hp))
                clear hp
                go_wp2_with fail
                rw [HEs.out]
                refine hT.out.mono ?_
                rintro e w8 ⟨rfl, hb8⟩
                have hbN8 := hbN.trans (hb8.mono hwN)
                have hrow8 := hrow.kept hb8
                have s8 := hb8.size
                clear hb8 hrow hT er1 er2 er3 er4 er5 er6
                go_wp2_with (at_builtin; refine wpList_app1 _ rfl _ _ 24 rfl N 9 i0 (.string ⟨#[]⟩) 16 Try.underlying24 hi hz0 hz1 hz2 rfl _ _ _ _ rfl (hrow8.alloc _) _ (.string ⟨t.toArray⟩) rfl (cell_one_new _ _ _) rfl (by omega) (by omega) (by simp; omega) ?_; intro A9 c9 w9 hown9 hgrow9)
                have hb9 : Below N w7 w9 := kp_grown (kp_alloc _ hbN8 (by rw [HN.out]; exact Nat.le_refl _)) (by rw [HN.out]; exact Nat.le_refl _) hgrow9 (row_ge hrow8)
                go_roundw
                case rel => exact ⟨m + 1, A9, n' + 1, c9, by omega, by go_num, rfl, by rw [Hst.out, List.map_append, Hfin.out]; exact hown9, hb9⟩
                case measure => simp [intOf]; omega
        · obtain rfl : m = j := by omega
          have Hb := Lib.hid (show begTo k all m = (begT k all).map (strT k all) by rw [Hn6.out]; exact begTo_all k all)
          rw [Hb.out] at hrow
          have hS := Lib.hid (SortS_any N A' n' c' _ wr hrow (by omega))
          have hw6 := B6.size
          have B7 : Below w.heap.size w wr := (B6.trans (hbr.mono (by have := Hbm.out; omega))).trans (hbN.mono (by omega))
          clear hM hcb hsz
          go_wp2_with fail
          refine hS.out.mono ?_
          rintro e w8 ⟨rfl, hrow8, hg8⟩
          have hb8 : Below w.heap.size w w8 := kp_grown B7 (Nat.le_refl _) hg8 (row_ge (hrow.more (by omega)))
          have hnc8 := hrow8.own.2.1
          clear hg8 hrow hS
          go_wp2_with fail
          refine (ClipS_any _ _ _ hnc8 _).mono ?_
          rintro e w9 ⟨rfl, rfl⟩
          go_wp2_with fail
          go_ret
          exact ⟨A', _, _, rfl, by rw [Hv.out]; exact (hrow8.more (by omega)).own.clip, hb8⟩
end Go.Proofs.Ytfbmcfdmffpfmaa
