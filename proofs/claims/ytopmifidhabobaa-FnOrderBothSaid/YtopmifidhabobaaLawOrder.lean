/-
  The law of OrderBoth: what is drawn answers as it says.
-/
import Derived.Test.YtopmifidhabobaaOB2
import Derived.Test.YtopmifidhabobaaLawCut
namespace Go.Proofs.Ytopmifidhabobaa
open Go.RowKit
set_option linter.unusedVariables false
set_option linter.unusedSimpArgs false

def NewThree (w : World) (e : Ending) (w' : World) : Prop := ∃ (A : Option Addr) (n c : Nat) (us : List Int) (A2 : Option Addr) (n2 c2 : Nat) (bs : List Int) (A3 : Option Addr) (n3 c3 : Nat) (L : List Int), e = .returned (.tuple #[.slice A n c, .slice A2 n2 c2, .slice A3 n3 c3]) ∧ Rd w' w'.heap.size A n c (us.map I) ∧ Rd w' w'.heap.size A2 n2 c2 (bs.map I) ∧ Rd w' w'.heap.size A3 n3 c3 (L.map I) ∧ Below w.heap.size w w'
set_option maxHeartbeats 1600000 in
theorem DrawOrderBoth_any (A : Option Addr) (n c : Nat) (zs : List Int) (w : World) (hr : Rd w w.heap.size A n c (zs.map U8)) (hz : ∀ z ∈ zs, 0 ≤ z ∧ z ≤ 255) :
    Calls Try.prog 46 #[.slice A n c] w (NewThree w) := by
  have H := Lib.hid (newReader_any A n c zs w hr hz)
  clear hr hz
  go_enter Try.func46, Try.ntmps46
  go_wp2_with fail
  refine H.out.mono ?_
  rintro e w1 ⟨R, rs, rfl, hR, hb1⟩
  have hge := hR.1
  have hlt := hR.lt
  have s1 := hb1.size
  go_wp2_with fail
  refine (someCuts_any _ R rs 0 w1 hR (by omega)).mono ?_
  rintro e w2 ⟨A2, n2, c2, us, A3, n3, c3, bs, q, rfl, hn, hn2, hq, hR2, hg⟩
  have s2 := hg.size
  have B2 : Below w.heap.size w w2 := kp_grown hb1 (Nat.le_refl _) hg (fun k hk => by cases hk; exact hge)
  clear H hR hg hb1
  go_wp2_with fail
  refine (specCutBoth_any A2 n2 c2 us A3 n3 c3 bs w2 hn.1 hn2.1).mono ?_
  rintro e w3 ⟨A4, n4, c4, rfl, ho4, hb3⟩
  have s3 := hb3.size
  have B3 := B2.trans (hb3.mono B2.size)
  have ra3 := hn.1.below hb3
  have rb3 := hn2.1.below hb3
  have hna := hn.2
  have hnb := hn2.2
  have hR3 := hR2.kept hb3
  have o4 := ho4.win
  have hnm := o4.rd.2.2.1
  unfold maxLen at hnm
  clear ho4 hR2 hb3
  by_cases h0 : n4 = 0
  · subst h0
    go_wp2_with fail
    go_ret3
    exact ⟨_, _, _, _, _, _, _, _, _, _, _, _, rfl, ra3.more s3, rb3.more s3, o4.rd, B3⟩
  · have hpos : (0 : Int) < (n4 : Int) := by omega
    have hposn : 0 < n4 := by omega
    go_wp2_with fail
    refine (pick_any w.heap.size R rs q 5 w3 hR3 (by omega) (by omega) (by omega)).mono ?_
    rintro e w4 ⟨v, rfl, hv, _, hR4, hg4⟩
    have s4 := hg4.size
    have ra4 := ra3.aside hg4 s3 (fun hp b o e he => by have := hna hp b o e; injection he with he; omega)
    have rb4 := rb3.aside hg4 s3 (fun hp b o e he => by have := hnb hp b o e; injection he with he; omega)
    have o4 := o4.grown hg4 (fun k hk => by cases hk; omega)
    have B4 : Below w.heap.size w w4 := kp_grown B3 (Nat.le_refl _) hg4 (fun k hk => by cases hk; exact hge)
    clear hv hR3 hR4 hg4 B3
    rcases Nat.eq_zero_or_pos v with hv0 | hv0
    · subst hv0
      obtain ⟨g, cur, rfl, hg1, hg2, hh, ht, hcs⟩ := o4.blk (by omega)
      obtain ⟨y, hy, hcy⟩ := o4.rd.int_at (show 0 < n4 by omega)
      have hc0 : w4.cell? ⟨g, 0, none⟩ = some (.int .i64 y) := by simpa using hcy
      have hf := frozen_of_row w4 g 0 cur _ hh
      obtain ⟨z, hz⟩ : ∃ z, IntKind.i64.wrap (y + 1) = z := ⟨_, rfl⟩
      have o5 := o4.set (j := 0) (by omega) (.int .i64 z)
      rw [set_mapI] at o5
      have hb5 : Below w2.heap.size w4 (w4.setCell ⟨g, 0, none⟩ (.int .i64 z)) := kp_grown (Below.refl _ _) (by omega) (grown_setCell w4 g 0 _) (fun k hk => by cases hk; omega)
      have B5 := B4.trans (hb5.mono B2.size)
      have ra5 := (ra4.below hb5).more (B' := (w4.setCell ⟨g, 0, none⟩ (.int .i64 z)).heap.size) (by simp; omega)
      have rb5 := (rb4.below hb5).more (B' := (w4.setCell ⟨g, 0, none⟩ (.int .i64 z)).heap.size) (by simp; omega)
      clear hh ht hy hcy
      go_wp2_with fail
      go_ret3
      exact ⟨_, _, _, _, _, _, _, _, _, _, _, _, rfl, ra5, rb5, o5.rd' (by simp; omega), B5⟩
    · have hvn : ¬ (v : Int) = 0 := by omega
      go_wp2_with fail
      go_ret3
      exact ⟨_, _, _, _, _, _, _, _, _, _, _, _, rfl, ra4.more (by omega), rb4.more (by omega), o4.rd' (by omega), B4⟩
theorem OB_ok {us bs L : List Int} (h : (OB us bs L).2.2 = true) : (OB us bs L).1.Perm us ∧ (OB us bs L).2.1.Perm bs ∧ CO (OB us bs L).1 (OB us bs L).2.1 = L := by
  unfold OB at h ⊢
  split at h
  · next hok =>
    rw [if_pos hok]
    revert h
    split
    · next xy he =>
      intro _
      unfold OBf at he
      rw [Option.bind_eq_some_iff] at he
      obtain ⟨x, hx, he⟩ := he
      rw [Option.map_eq_some_iff] at he
      obtain ⟨y, hy, rfl⟩ := he
      have hx2 := List.mem_of_find?_eq_some hx
      have hy2 := List.mem_of_find?_eq_some hy
      have hL := List.find?_some hy
      have p1 : x.Perm us := (oS_perm (by rw [srt_len]; exact hx2)).trans (srt_perm us)
      have p2 : y.Perm bs := (oS_perm (by rw [srt_len]; exact hy2)).trans (srt_perm bs)
      refine ⟨p1, p2, ?_⟩
      have := okP_perm p1 p2 hok
      dsimp only
      unfold CO
      rw [this, if_pos rfl]
      exact of_decide_eq_true hL
    · intro h
      cases h
  · cases h
theorem OB_len5 {us bs L : List Int} (h : (OB us bs L).2.2 = true) : us.length ≤ 5 ∧ bs.length ≤ 5 := by
  unfold OB at h
  split at h
  · next hok => exact ⟨(pk_bounds (okP_iff.1 hok).1).1.2, (pk_bounds (okP_iff.1 hok).2.1).1.2⟩
  · cases h
set_option maxRecDepth 8000 in
set_option maxHeartbeats 6400000 in
theorem walkOrderBoth (A : Option Addr) (n c : Nat) (zs : List Int) (w : World) (hr : Rd w w.heap.size A n c (zs.map U8)) (hz : ∀ z ∈ zs, 0 ≤ z ∧ z ≤ 255) :
    Calls Try.prog 14 #[.slice A n c] w (RetVal w (.bool true)) := by
  by_cases hbig : 1048576 < n
  · clear hz hr
    go_enter Try.func14, Try.ntmps14
    go_wp2_with fail
    go_ret
    exact ⟨rfl, Below.refl _ _⟩
  have H := Lib.hid (DrawOrderBoth_any A n c zs w hr hz)
  clear hr hz
  go_enter Try.func14, Try.ntmps14
  go_wp2_with fail
  refine H.out.mono ?_
  rintro e w1 ⟨A1, n1, c1, us, A2, n2, c2, bs, A3, n3, c3, L, rfl, ra, rb, rl, B1⟩
  obtain ⟨X, hX⟩ : ∃ X, X = (OB us bs L).1 := ⟨_, rfl⟩
  obtain ⟨Y, hY⟩ : ∃ Y, Y = (OB us bs L).2.1 := ⟨_, rfl⟩
  obtain ⟨ok, hok⟩ : ∃ ok, ok = (OB us bs L).2.2 := ⟨_, rfl⟩
  have HX := Lib.hid hX
  have HY := Lib.hid hY
  have Hok := Lib.hid hok
  have s1 := B1.size
  clear H hX hY hok
  go_wp2_with fail
  refine (OrderBoth_any A1 n1 c1 us A2 n2 c2 bs A3 n3 c3 L w1 ra rb rl).mono ?_
  rintro e w2 ⟨A4, n4, c4, A5, n5, c5, l4, h4, l5, h5, rfl, o4, o5, ⟨a1, a2, a3, a4, a5⟩, hb2⟩
  rw [← HX.out] at o4
  rw [← HY.out] at o5
  rw [← Hok.out]
  have s2 := hb2.size
  have B2 := B1.trans (hb2.mono s1)
  have ra := (ra.below hb2).more s2
  have rb := (rb.below hb2).more s2
  have rl := (rl.below hb2).more s2
  clear hb2 B1
  go_wp2_with fail
  refine (specOrderBoth_any A1 n1 c1 us A2 n2 c2 bs A3 n3 c3 L w2 ra rb rl).mono ?_
  rintro e w3 ⟨A6, n6, c6, A7, n7, c7, l6, h6, l7, h7, rfl, o6, o7, ⟨b1, b2, b3, b4, b5⟩, hb3⟩
  rw [← HX.out] at o6
  rw [← HY.out] at o7
  rw [← Hok.out]
  have s3 := hb3.size
  have B3 := B2.trans (hb3.mono B2.size)
  have ra := (ra.below hb3).more s3
  have rb := (rb.below hb3).more s3
  have rl := (rl.below hb3).more s3
  have o4 := o4.below hb3 (by omega)
  have o5 := o5.below hb3 (by omega)
  have hne : (ok != ok) = false := by simp
  have heq : (ok == ok) = true := by simp
  clear hb3 B2
  go_wp2_with fail
  refine (equalInts_same A4 n4 c4 X A6 n6 c6 w3 _ _ o4.rd o6.rd).mono ?_
  rintro e w4 ⟨rfl, hq4⟩
  have hb4 := hq4.bel w3.heap.size
  have s4 := hb4.size
  have B4 := B3.trans (hb4.mono B3.size)
  have ra := (ra.below hb4).more s4
  have rb := (rb.below hb4).more s4
  have rl := (rl.below hb4).more s4
  have o4 := o4.below hb4 (by omega)
  have o5 := o5.below hb4 (by omega)
  have o6 := o6.below hb4 (by omega)
  have o7 := o7.below hb4 (by omega)
  clear hq4 hb4 B3
  go_wp2_with fail
  refine (equalInts_same A5 n5 c5 Y A7 n7 c7 w4 _ _ o5.rd o7.rd).mono ?_
  rintro e w5 ⟨rfl, hq5⟩
  have hb5 := hq5.bel w4.heap.size
  have s5 := hb5.size
  have B5 := B4.trans (hb5.mono B4.size)
  have ra := (ra.below hb5).more s5
  have rb := (rb.below hb5).more s5
  have rl := (rl.below hb5).more s5
  have o4 := o4.below hb5 (by omega)
  have o5 := o5.below hb5 (by omega)
  have o6 := o6.below hb5 (by omega)
  have o7 := o7.below hb5 (by omega)
  clear hq5 hb5 B4
  cases ok with
  | false =>
    go_wp2_with fail
    refine (equalInts_same A4 n4 c4 X A6 n6 c6 w5 _ _ o4.rd o6.rd).mono ?_
    rintro e w6 ⟨rfl, hq6⟩
    have hb6 := hq6.bel w5.heap.size
    have s6 := hb6.size
    have B6 := B5.trans (hb6.mono B5.size)
    have o5 := o5.below hb6 (by omega)
    have o7 := o7.below hb6 (by omega)
    go_wp2_with fail
    refine (equalInts_same A5 n5 c5 Y A7 n7 c7 w6 _ _ o5.rd o7.rd).mono ?_
    rintro e w7 ⟨rfl, hq7⟩
    go_wp2_with fail
    go_ret
    exact ⟨rfl, B6.trans (hq7.bel _)⟩
  | true =>
    obtain ⟨p1, p2, p3⟩ := OB_ok Hok.out.symm
    obtain ⟨l1, l2⟩ := OB_len5 Hok.out.symm
    rw [← HX.out] at p1 p3
    rw [← HY.out] at p2 p3
    rw [ra.ilen] at l1
    rw [rb.ilen] at l2
    have hl4 : n4 ≤ 5 := by have h := p1.length_eq; rw [o4.rd.ilen, ra.ilen] at h; omega
    have hl5 : n5 ≤ 5 := by have h := p2.length_eq; rw [o5.rd.ilen, rb.ilen] at h; omega
    have P1 := Lib.hid (srt_of_perm p1)
    have P2 := Lib.hid (srt_of_perm p2)
    have P3 := Lib.hid p3
    clear p1 p2 p3 o6 o7
    go_wp2_with fail
    refine (implCutBothTop_any A4 n4 c4 X A5 n5 c5 Y w5 (o4.rd' (by omega)) (o5.rd' (by omega))).mono ?_
    rintro e w6 ⟨A8, n8, c8, rfl, ho8, hb6⟩
    rw [P3.out] at ho8
    have s6 := hb6.size
    have B6 := B5.trans (hb6.mono B5.size)
    have ra := (ra.below hb6).more s6
    have rb := (rb.below hb6).more s6
    have rl := (rl.below hb6).more s6
    have o4 := o4.below hb6 (by omega)
    have o5 := o5.below hb6 (by omega)
    clear hb6 B5
    go_wp2_with fail
    refine (equalInts_same A8 n8 c8 L A3 n3 c3 w6 _ _ ho8.rd rl).mono ?_
    rintro e w7 ⟨rfl, hq7⟩
    have hb7 := hq7.bel w6.heap.size
    have s7 := hb7.size
    have B7 := B6.trans (hb7.mono B6.size)
    have ra := (ra.below hb7).more s7
    have rb := (rb.below hb7).more s7
    have o4 := o4.below hb7 (by omega)
    have o5 := o5.below hb7 (by omega)
    clear hq7 hb7 B6 ho8 rl
    go_wp2_with fail
    refine (sorted_any A4 n4 c4 X w7 (o4.rd' (by omega)) (by omega)).mono ?_
    rintro e w8 ⟨A9, n9, c9, rfl, ho9, hb8⟩
    rw [P1.out] at ho9
    have o9 := ho9.win
    have s8 := hb8.size
    have B8 := B7.trans (hb8.mono B7.size)
    have ra := (ra.below hb8).more s8
    have rb := (rb.below hb8).more s8
    have o5 := o5.below hb8 (by omega)
    clear hb8 B7 ho9
    go_wp2_with fail
    refine (sorted_any A1 n1 c1 us w8 ra (by omega)).mono ?_
    rintro e w9 ⟨A10, n10, c10, rfl, ho10, hb9⟩
    have s9 := hb9.size
    have B9 := B8.trans (hb9.mono B8.size)
    have rb := (rb.below hb9).more s9
    have o5 := o5.below hb9 (by omega)
    have o9 := o9.below hb9 (by omega)
    clear hb9 B8
    go_wp2_with fail
    refine (equalInts_same A9 n9 c9 (srt us) A10 n10 c10 w9 _ _ o9.rd ho10.rd).mono ?_
    rintro e w10 ⟨rfl, hq10⟩
    have hb10 := hq10.bel w9.heap.size
    have s10 := hb10.size
    have B10 := B9.trans (hb10.mono B9.size)
    have rb := (rb.below hb10).more s10
    have o5 := o5.below hb10 (by omega)
    clear hq10 hb10 B9 ho10 o9
    go_wp2_with fail
    refine (sorted_any A5 n5 c5 Y w10 (o5.rd' (by omega)) (by omega)).mono ?_
    rintro e w11 ⟨A11, n11, c11, rfl, ho11, hb11⟩
    rw [P2.out] at ho11
    have o11 := ho11.win
    have s11 := hb11.size
    have B11 := B10.trans (hb11.mono B10.size)
    have rb := (rb.below hb11).more s11
    clear hb11 B10 ho11
    go_wp2_with fail
    refine (sorted_any A2 n2 c2 bs w11 rb (by omega)).mono ?_
    rintro e w12 ⟨A12, n12, c12, rfl, ho12, hb12⟩
    have B12 := B11.trans (hb12.mono B11.size)
    have o11 := o11.below hb12 (by omega)
    go_wp2_with fail
    refine (equalInts_same A11 n11 c11 (srt bs) A12 n12 c12 w12 _ _ o11.rd ho12.rd).mono ?_
    rintro e w13 ⟨rfl, hq13⟩
    go_wp2_with fail
    go_ret
    exact ⟨rfl, B12.trans (hq13.bel _)⟩
end Go.Proofs.Ytopmifidhabobaa
