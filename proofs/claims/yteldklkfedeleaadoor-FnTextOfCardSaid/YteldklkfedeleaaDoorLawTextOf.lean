/-
  The law FnTextOf: its walk. (Under way.)
-/
import Derived.Test.YteldklkfedeleaaDoorTxtPlain
import Derived.Test.YteldklkfedeleaaDoorRow3
import Derived.Test.YteldklkfedeleaaDoorGen
import Derived.Test.YteldklkfedeleaaDoorLawPhrasesOf
namespace Go.Proofs.YteldklkfedeleaaDoor
open Go.RowKit
set_option linter.unusedVariables false
set_option linter.unusedSimpArgs false

def DrawnPh (w : World) (e : Ending) (w' : World) : Prop :=
  ∃ A n c ps, e = .returned (.slice A n c) ∧ Rd3 w' w'.heap.size A n c ps ∧ PhOk ps ∧ Below w.heap.size w w'
theorem PO_ok' (s : List UInt8) (hs : s.length ≤ 1000) : PhOk (PO s) := by
  intro p hp
  unfold PO at hp
  split at hp
  · rcases phr_mem s _ _ p hp with ⟨h, h2⟩ | ⟨h1, h2, h3, h4, h5⟩
    · rw [h]
      simp
      omega
    · rw [h5]
      simp
      omega
  · cases hp
theorem Row3.drawn {w w' : World} {B R : Nat} {A : Option Addr} {n c : Nat} {ps : List Ph} (h : Row3 w B A n c ps) (hg : w.grownBy w' (some R)) (hne : (Value.slice A n c).ownBlock ≠ some R) : Row3 w' B A n c ps :=
  World.ownsRow.kept h hg (.inr hne)
theorem phc_take (ps : List Ph) : ∀ k, phc (ps.take k) = (phc ps).take (k * 3) := by
  induction ps with
  | nil => intro k; simp [phc]
  | cons p ps ih =>
    intro k
    cases k with
    | zero => rw [Nat.zero_mul]; rfl
    | succ k =>
      show I p.1 :: I p.2.1 :: S p.2.2 :: phc (ps.take k) = (I p.1 :: I p.2.1 :: S p.2.2 :: phc ps).take ((k + 1) * 3)
      rw [ih, show (k + 1) * 3 = k * 3 + 1 + 1 + 1 by omega, List.take_succ_cons, List.take_succ_cons, List.take_succ_cons]
theorem Rd3.take_ {w : World} {B : Nat} {A : Option Addr} {n c : Nat} {ps : List Ph} (h : Rd3 w B A n c ps) {m : Nat} (hm : m ≤ n) : Rd3 w B A m c (ps.take m) := by
  obtain ⟨h1, h2, h3, h4⟩ := h
  refine ⟨by rw [List.length_take]; omega, by omega, h3, fun hp => ?_⟩
  obtain ⟨b, o, e, hb, hc⟩ := h4 (by omega)
  refine ⟨b, o, e, hb, fun j u hu => hc j u ?_⟩
  rw [phc_take, List.getElem?_take] at hu
  split at hu
  · exact hu
  · cases hu
set_option maxHeartbeats 1000000 in
theorem DrawTextOf_any (A : Option Addr) (n c : Nat) (zs : List Int) (w : World) (hr : Rd w w.heap.size A n c (zs.map U8)) (hz : ∀ z ∈ zs, 0 ≤ z ∧ z ≤ 255) :
    Calls Tryd.prog 12 #[.slice A n c] w (DrawnPh w) := by
  have H := Lib.hid (newReader_any A n c zs w hr hz)
  clear hr hz
  go_enter Tryd.func12, Tryd.ntmps12
  go_wp2_with fail
  refine H.out.mono ?_
  rintro e w1 ⟨R, zs', rfl, hR, hb1⟩
  have hBR := hR.1
  go_wp2_with fail
  refine (someText_any _ R zs' 0 30 _ hR (by omega) (by omega)).mono ?_
  rintro e w2 ⟨l, q, rfl, hl, hq, hR2, hg⟩
  have hb2 : Below w.heap.size w w2 := grown_bel hb1 hBR hg
  go_wp2_with fail
  refine (specPhrasesOf_row l _ (by omega)).mono ?_
  rintro e w3 ⟨A3, n3, c3, rfl, hrow, hb3⟩
  have hb3' : Below w.heap.size w w3 := hb2.trans (hb3.mono hb2.size)
  have hR3 := hR2.kept hb3
  have hRlt := hR2.lt
  have hlen : (PO l).length = n3 := hrow.len
  have hok : PhOk (PO l) := PO_ok' l (by omega)
  have hn31 : n3 ≤ 31 := by
    rw [← hlen]
    unfold PO
    split
    · have h1 := gl_le l _ 0 (Nat.le_refl _)
      have h2 : (phr l l.length 0).length = gl l 0 := rfl
      omega
    · simp
  have hn3c : n3 ≤ c3 := hrow.rd.2.1
  have hc3 : c3 ≤ 9223372036854775807 := hrow.rd.2.2.1
  by_cases h0 : 0 < n3
  · have h0' : (0 : Int) < (n3 : Int) := by omega
    obtain ⟨g, rfl, hgB, hgs, hgf, hput⟩ := hrow.put h0
    go_wp2_with fail
    refine (pick_any _ R zs' q 3 _ hR3 (by omega) (by omega) (by omega)).mono ?_
    rintro e w4 ⟨v, rfl, _, _, hR4, hg4⟩
    have hrow4 := hrow.drawn hg4 (by show some g ≠ some R; intro e; injection e; omega)
    have hb4 : Below w.heap.size w w4 := grown_bel hb3' hBR hg4
    cases hv : (v : Int) == 0 with
    | false =>
      go_wp2_with fail
      go_ret
      exact ⟨_, _, _, _, rfl, hrow4.rd, hok, hb4⟩
    | true =>
      go_wp2_with fail
      refine (pick_any _ R zs' (q + 1) n3 _ hR4 (by omega) (by omega) (by omega)).mono ?_
      rintro e w5 ⟨k, rfl, hk1, _, hR5, hg5⟩
      have hkn : k < n3 := by have := hk1 (by omega); omega
      clear hk1
      have hrow5 := hrow4.drawn hg5 (by show some g ≠ some R; intro e; injection e; omega)
      have hb5 : Below w.heap.size w w5 := grown_bel hb4 hBR hg5
      go_wp2_with fail
      refine (pick_any _ R zs' (q + 2) 5 _ hR5 (by omega) (by omega) (by omega)).mono ?_
      rintro e w6 ⟨c5, rfl, _, _, hR6, hg6⟩
      have hrow6 := hrow5.drawn hg6 (by show some g ≠ some R; intro e; injection e; omega)
      have hb6 : Below w.heap.size w w6 := grown_bel hb5 hBR hg6
      cases hc0 : (c5 : Int) == 0 with
      | true =>
        go_wp2_with fail
        refine (one_any _ R zs' (q + 3) _ 5 5 [0, 1, -1, 50, -2] _ (hR6.alloc _) (by omega) (rd_lit _ _ _ 5 _ rfl rfl (by omega)) (by omega) (by omega) (fun b o e => by injection e with e; injection e with e1 e2; have := hR6.lt; omega)).mono ?_
        rintro e w7 ⟨x, hx, rfl, hR7, hg7⟩
        have hrow7 := (hrow6.alloc (.cells #[.int .i64 0, .int .i64 1, .int .i64 (-1), .int .i64 50, .int .i64 (-2)] 3)).drawn hg7 (by show some g ≠ some R; intro e; injection e; omega)
        have hb7 : Below w.heap.size w w7 := grown_bel (bel_al hb6 _) hBR hg7
        obtain ⟨g', hge, hgB7, hgs7, hgf7, hput7⟩ := hrow7.put h0
        injection hge with hge
        injection hge with hge
        subst hge
        obtain ⟨f0, z0, l0, hp0, d0, d1, d2⟩ := hrow7.rd.at_at hkn
        rw [Nat.zero_add] at d0 d1 d2
        have hp := hput7 (k * 3) (I x) _ (phc_set0 x _ k _ hp0)
        have hfz := hgf7 (k * 3)
        have hokx := hok _ (List.mem_of_getElem? hp0)
        have hok2 : PhOk ((PO l).set k (x, z0, l0)) := by
          intro p hpm
          rcases List.mem_or_eq_of_mem_set hpm with h | rfl
          · exact hok p h
          · simp only [List.mem_cons, List.not_mem_nil, or_false] at hx
            obtain ⟨y1, y2, y3⟩ := hokx
            refine ⟨?_, y2, y3⟩
            show -100000 ≤ x ∧ x ≤ 100000
            omega
        go_wp2_with fail
        go_ret
        exact ⟨_, _, _, _, rfl, hp.rd, hok2, hb7.setCell (by show w.heap.size ≤ g; have := hb2.size; omega) _⟩
      | false =>
        cases hc1 : (c5 : Int) == 1 with
        | true =>
          go_wp2_with fail
          refine (one_any _ R zs' (q + 3) _ 5 5 [1, 2, 0, 41, 5] _ (hR6.alloc _) (by omega) (rd_lit _ _ _ 5 _ rfl rfl (by omega)) (by omega) (by omega) (fun b o e => by injection e with e; injection e with e1 e2; have := hR6.lt; omega)).mono ?_
          rintro e w7 ⟨x, hx, rfl, hR7, hg7⟩
          have hrow7 := (hrow6.alloc (.cells #[.int .i64 1, .int .i64 2, .int .i64 0, .int .i64 41, .int .i64 5] 3)).drawn hg7 (by show some g ≠ some R; intro e; injection e; omega)
          have hb7 : Below w.heap.size w w7 := grown_bel (bel_al hb6 _) hBR hg7
          obtain ⟨g', hge, hgB7, hgs7, hgf7, hput7⟩ := hrow7.put h0
          injection hge with hge
          injection hge with hge
          subst hge
          obtain ⟨f0, z0, l0, hp0, d0, d1, d2⟩ := hrow7.rd.at_at hkn
          rw [Nat.zero_add] at d0 d1 d2
          have hp := hput7 (k * 3 + 1) (I x) _ (phc_set1 x _ k _ hp0)
          have hfz := hgf7 (k * 3 + 1)
          have hokx := hok _ (List.mem_of_getElem? hp0)
          have hok2 : PhOk ((PO l).set k (f0, x, l0)) := by
            intro p hpm
            rcases List.mem_or_eq_of_mem_set hpm with h | rfl
            · exact hok p h
            · simp only [List.mem_cons, List.not_mem_nil, or_false] at hx
              obtain ⟨y1, y2, y3⟩ := hokx
              refine ⟨y1, ?_, y3⟩
              show -100000 ≤ x ∧ x ≤ 100000
              omega
          go_wp2_with fail
          go_ret
          exact ⟨_, _, _, _, rfl, hp.rd, hok2, hb7.setCell (by show w.heap.size ≤ g; have := hb2.size; omega) _⟩
        | false =>
          cases hc2 : (c5 : Int) == 2 with
          | true =>
            go_wp2_with fail
            refine (of_any _ R zs' (q + 3) _ 4 4 [[], [97], [101], [97, 98]] _ (hR6.alloc _) (by omega) (rd_lit _ _ _ 4 _ rfl rfl (by omega)) (by omega) (by omega) (fun b o e => by injection e with e; injection e with e1 e2; have := hR6.lt; omega)).mono ?_
            rintro e w7 ⟨x, hx, rfl, hR7, hg7⟩
            have hrow7 := (hrow6.alloc (.cells #[.string ⟨#[]⟩, .string ⟨#[97]⟩, .string ⟨#[101]⟩, .string ⟨#[97, 98]⟩] 9)).drawn hg7 (by show some g ≠ some R; intro e; injection e; omega)
            have hb7 : Below w.heap.size w w7 := grown_bel (bel_al hb6 _) hBR hg7
            obtain ⟨g', hge, hgB7, hgs7, hgf7, hput7⟩ := hrow7.put h0
            injection hge with hge
            injection hge with hge
            subst hge
            obtain ⟨f0, z0, l0, hp0, d0, d1, d2⟩ := hrow7.rd.at_at hkn
            rw [Nat.zero_add] at d0 d1 d2
            have hp := hput7 (k * 3 + 2) (S x) _ (phc_set2 x _ k _ hp0)
            have hfz := hgf7 (k * 3 + 2)
            have hokx := hok _ (List.mem_of_getElem? hp0)
            have hok2 : PhOk ((PO l).set k (f0, z0, x)) := by
              intro p hpm
              rcases List.mem_or_eq_of_mem_set hpm with h | rfl
              · exact hok p h
              · simp only [List.mem_cons, List.not_mem_nil, or_false] at hx
                obtain ⟨y1, y2, y3⟩ := hokx
                refine ⟨y1, y2, ?_⟩
                show x.length ≤ 1000
                rcases hx with rfl | rfl | rfl | rfl <;> simp
            go_wp2_with fail
            go_ret
            exact ⟨_, _, _, _, rfl, hp.rd, hok2, hb7.setCell (by show w.heap.size ≤ g; have := hb2.size; omega) _⟩
          | false =>
            go_wp2_with fail
            go_ret
            exact ⟨_, _, _, _, rfl, hrow6.rd.take_ (show k ≤ n3 by omega), fun p hp => hok p (List.mem_of_mem_take hp), hb6⟩
  · have h0' : ¬ (0 : Int) < (n3 : Int) := by omega
    go_wp2_with fail
    go_ret
    exact ⟨_, _, _, _, rfl, hrow.rd, hok, hb3'⟩
set_option maxHeartbeats 1000000 in
theorem lawTextOf (A : Option Addr) (n c : Nat) (zs : List Int) (w : World) (hr : Rd w w.heap.size A n c (zs.map U8)) (hz : ∀ z ∈ zs, 0 ≤ z ∧ z ≤ 255) (hg : Gv w) :
    Calls Tryd.prog 4 #[.slice A n c] w (RetVal w (.bool true)) := by
  have hm := hr.2.2.1
  have hnc := hr.2.1
  unfold maxLen at hm
  by_cases hbig : n ≤ 1048576
  · have hbig' : ¬ (1048576 : Int) < (n : Int) := by omega
    have H := Lib.hid (DrawTextOf_any A n c zs w hr hz)
    clear hr hz
    go_enter Tryd.func4, Tryd.ntmps4
    go_wp2_with fail
    refine H.out.mono ?_
    rintro e w1 ⟨A1, n1, c1, ps, rfl, hr1, hok, hb1⟩
    have hlen : ps.length = n1 := hr1.1
    have hc1 := hr1.2.2.1
    have hnc1 := hr1.2.1
    unfold maxLen at hc1
    cases ht : TX ps with
    | none =>
      have Hs := Lib.hid (show SX ps = none by rw [SX_TX, ht])
      go_wp2_with fail
      refine (TextOf_any A1 n1 c1 ps _ hr1 hok (hg.keep hb1)).mono ?_
      rintro e w2 ⟨hb2, hres⟩
      rw [ht] at hres
      subst hres
      have hb2' : Below w.heap.size w w2 := hb1.trans (hb2.mono hb1.size)
      go_wp2_with fail
      refine (specTextOf_any A1 n1 c1 ps _ ((hr1.below hb2).more hb2.size) hok).mono ?_
      rintro e w3 ⟨hb3, hres⟩
      rw [Hs.out] at hres
      subst hres
      have hb3' : Below w.heap.size w w3 := hb2'.trans (hb3.mono hb2'.size)
      go_wp2_with fail
      go_ret
      exact ⟨rfl, hb3'⟩
    | some u =>
      have Hs := Lib.hid (show SX ps = some u by rw [SX_TX, ht])
      obtain ⟨hfew, hvu⟩ := TX_few ht
      have hul := vt_len hvu
      have Hfp := Lib.hid (show FP u = few u by unfold FP; rw [hvu]; rfl)
      have hle : few u ≤ (n1 : Int) := by omega
      go_wp2_with fail
      refine (TextOf_any A1 n1 c1 ps _ hr1 hok (hg.keep hb1)).mono ?_
      rintro e w2 ⟨hb2, hres⟩
      rw [ht] at hres
      subst hres
      have hb2' : Below w.heap.size w w2 := hb1.trans (hb2.mono hb1.size)
      go_wp2_with fail
      refine (specTextOf_any A1 n1 c1 ps _ ((hr1.below hb2).more hb2.size) hok).mono ?_
      rintro e w3 ⟨hb3, hres⟩
      rw [Hs.out] at hres
      subst hres
      have hb3' : Below w.heap.size w w3 := hb2'.trans (hb3.mono hb2'.size)
      go_wp2_with fail
      refine (FewestPhrases_any u _ (by omega)).mono ?_
      rintro e w4 ⟨rfl, hb4⟩
      have hb4' : Below w.heap.size w w4 := hb3'.trans (hb4.mono hb3'.size)
      rw [Hfp.out]
      go_wp2_with fail
      refine (ValidText_any u _ (by omega)).mono ?_
      rintro e w5 ⟨rfl, hb5⟩
      rw [hvu]
      go_wp2_with fail
      go_ret
      exact ⟨rfl, hb4'.trans (hb5.mono hb4'.size)⟩
  · have hbig' : (1048576 : Int) < (n : Int) := by omega
    go_enter Tryd.func4, Tryd.ntmps4
    go_wp2_with fail
    go_ret
    exact ⟨rfl, Below.refl _ _⟩
end Go.Proofs.YteldklkfedeleaaDoor
