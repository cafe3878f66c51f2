/-
  Contracts of the generators that draw a text and a number; the laws' own small functions on lists of texts.
-/
import Derived.Test.YtfbmcfdmffpfmaaGen
import Derived.Test.YtfbmcfdmffpfmaaXs
import Derived.Test.YtfbmcfdmffpfmaaFacL
import Derived.Test.YtfbmcfdmffpfmaaLawsS
namespace Go.Proofs.Ytfbmcfdmffpfmaa
open Go.RowKit
set_option linter.unusedVariables false
set_option linter.unusedSimpArgs false

/-- A text and a number drawn. -/
def DrawnTN (w : World) (e : Ending) (w' : World) : Prop := ∃ (s : List UInt8) (k : Int), e = .returned (.tuple #[.string ⟨s.toArray⟩, .int .i64 k]) ∧ s.length ≤ 100 ∧ -1 ≤ k ∧ k ≤ 100 ∧ Below w.heap.size w w'
def DrawnT (w : World) (e : Ending) (w' : World) : Prop := ∃ (s : List UInt8), e = .returned (.string ⟨s.toArray⟩) ∧ s.length ≤ 100 ∧ Below w.heap.size w w'
theorem rd_litB {w : World} (b : Nat) (hb : b = w.heap.size) (cs : Array Value) (t : TypeId) (n : Nat) (xs : List Value) (h : cs.toList = xs) (hn : xs.length = n) (hm : n ≤ 1000) :
    Rd (w.alloc (.cells cs t)) (w.alloc (.cells cs t)).heap.size (some ⟨b, 0, none⟩) n n xs := by
  subst hb
  exact rd_lit w cs t n xs h hn hm
set_option maxHeartbeats 800000 in
theorem DrawFactorsOf_any (A : Option Addr) (n c : Nat) (zs : List Int) (w : World) (hr : Rd w w.heap.size A n c (zs.map U8)) (hz : ∀ z ∈ zs, 0 ≤ z ∧ z ≤ 255) :
    Calls Try.prog 49 #[.slice A n c] w (DrawnTN w) := by
  have H := Lib.hid (newReader_any A n c zs w hr hz)
  clear hr hz
  go_enter Try.func49, Try.ntmps49
  go_wp2_with fail
  refine H.out.mono ?_
  rintro e w1 ⟨R, rs, rfl, hR, hb1⟩
  have hBR := hR.1
  have hlt1 := hR.lt
  clear H
  go_wp2_with fail
  refine (someText_any _ R rs 0 40 w1 hR (by omega) (by omega)).mono ?_
  rintro e w2 ⟨l, q, rfl, hl, hq, hR2, hg2⟩
  have hlt2 := hR2.lt
  go_wp2_with fail
  refine (one_any _ R rs q _ 9 9 [2, 3, 1, 4, 0, 8, 40, 41, -1] _ (hR2.alloc _) (by omega) (rd_lit _ _ _ 9 _ rfl rfl (by omega)) (by omega) (by omega) (fun b o e => by injection e with e; injection e with e1 e2; omega)).mono ?_
  rintro e w3 ⟨k, hk, rfl, hR3, hg3⟩
  have hk1 : -1 ≤ k ∧ k ≤ 100 := by simp at hk; omega
  have hG3 := grown_trans hg2 (grown_trans (grown_alloc (grown_refl w2 (some R)) (.cells #[.int .i64 2, .int .i64 3, .int .i64 1, .int .i64 4, .int .i64 0, .int .i64 8, .int .i64 40, .int .i64 41, .int .i64 (-1)] 3)) hg3)
  clear hg3 hg2 hk
  go_wp2_with fail
  go_ret2
  exact ⟨l, k, rfl, by omega, hk1.1, hk1.2, grown_bel hb1 hBR hG3⟩
set_option maxHeartbeats 800000 in
theorem DrawWindowsOf_any (A : Option Addr) (n c : Nat) (zs : List Int) (w : World) (hr : Rd w w.heap.size A n c (zs.map U8)) (hz : ∀ z ∈ zs, 0 ≤ z ∧ z ≤ 255) :
    Calls Try.prog 29 #[.slice A n c] w (DrawnTN w) := by
  have H := Lib.hid (newReader_any A n c zs w hr hz)
  clear hr hz
  go_enter Try.func29, Try.ntmps29
  go_wp2_with fail
  refine H.out.mono ?_
  rintro e w1 ⟨R, rs, rfl, hR, hb1⟩
  have hBR := hR.1
  have hlt1 := hR.lt
  clear H
  go_wp2_with fail
  refine (someText_any _ R rs 0 20 w1 hR (by omega) (by omega)).mono ?_
  rintro e w2 ⟨l, q, rfl, hl, hq, hR2, hg2⟩
  have hlt2 := hR2.lt
  go_wp2_with fail
  refine (one_any _ R rs q _ 7 7 [2, 3, 1, 4, 6, 7, 0] _ (hR2.alloc _) (by omega) (rd_lit _ _ _ 7 _ rfl rfl (by omega)) (by omega) (by omega) (fun b o e => by injection e with e; injection e with e1 e2; omega)).mono ?_
  rintro e w3 ⟨k, hk, rfl, hR3, hg3⟩
  have hk1 : -1 ≤ k ∧ k ≤ 100 := by simp at hk; omega
  have hG3 := grown_trans hg2 (grown_trans (grown_alloc (grown_refl w2 (some R)) (.cells #[.int .i64 2, .int .i64 3, .int .i64 1, .int .i64 4, .int .i64 6, .int .i64 7, .int .i64 0] 3)) hg3)
  clear hg3 hg2 hk
  go_wp2_with fail
  go_ret2
  exact ⟨l, k, rfl, by omega, hk1.1, hk1.2, grown_bel hb1 hBR hG3⟩
set_option maxHeartbeats 800000 in
theorem DrawIsTold_any (A : Option Addr) (n c : Nat) (zs : List Int) (w : World) (hr : Rd w w.heap.size A n c (zs.map U8)) (hz : ∀ z ∈ zs, 0 ≤ z ∧ z ≤ 255) :
    Calls Try.prog 55 #[.slice A n c] w (DrawnTN w) := by
  have H := Lib.hid (newReader_any A n c zs w hr hz)
  clear hr hz
  go_enter Try.func55, Try.ntmps55
  go_wp2_with fail
  refine H.out.mono ?_
  rintro e w1 ⟨R, rs, rfl, hR, hb1⟩
  have hBR := hR.1
  have hlt1 := hR.lt
  clear H
  go_wp2_with fail
  refine (someText_any _ R rs 0 12 w1 hR (by omega) (by omega)).mono ?_
  rintro e w2 ⟨l, q, rfl, hl, hq, hR2, hg2⟩
  have hlt2 := hR2.lt
  go_wp2_with fail
  refine (one_any _ R rs q _ 7 7 [2, 3, 1, 4, 6, 7, 0] _ (hR2.alloc _) (by omega) (rd_lit _ _ _ 7 _ rfl rfl (by omega)) (by omega) (by omega) (fun b o e => by injection e with e; injection e with e1 e2; omega)).mono ?_
  rintro e w3 ⟨k, hk, rfl, hR3, hg3⟩
  have hk1 : -1 ≤ k ∧ k ≤ 100 := by simp at hk; omega
  have hG3 := grown_trans hg2 (grown_trans (grown_alloc (grown_refl w2 (some R)) (.cells #[.int .i64 2, .int .i64 3, .int .i64 1, .int .i64 4, .int .i64 6, .int .i64 7, .int .i64 0] 3)) hg3)
  clear hg3 hg2 hk
  go_wp2_with fail
  go_ret2
  exact ⟨l, k, rfl, by omega, hk1.1, hk1.2, grown_bel hb1 hBR hG3⟩
set_option maxHeartbeats 800000 in
theorem DrawLongestTwice_any (A : Option Addr) (n c : Nat) (zs : List Int) (w : World) (hr : Rd w w.heap.size A n c (zs.map U8)) (hz : ∀ z ∈ zs, 0 ≤ z ∧ z ≤ 255) :
    Calls Try.prog 36 #[.slice A n c] w (DrawnT w) := by
  have H := Lib.hid (newReader_any A n c zs w hr hz)
  clear hr hz
  go_enter Try.func36, Try.ntmps36
  go_wp2_with fail
  refine H.out.mono ?_
  rintro e w1 ⟨R, rs, rfl, hR, hb1⟩
  have hBR := hR.1
  clear H
  go_wp2_with fail
  refine (someText_any _ R rs 0 40 w1 hR (by omega) (by omega)).mono ?_
  rintro e w2 ⟨l, q, rfl, hl, hq, hR2, hg2⟩
  go_wp2_with fail
  go_ret
  exact ⟨l, rfl, by omega, grown_bel hb1 hBR hg2⟩
set_option maxHeartbeats 800000 in
theorem DrawLeastTold_any (A : Option Addr) (n c : Nat) (zs : List Int) (w : World) (hr : Rd w w.heap.size A n c (zs.map U8)) (hz : ∀ z ∈ zs, 0 ≤ z ∧ z ≤ 255) :
    Calls Try.prog 53 #[.slice A n c] w (DrawnT w) := by
  have H := Lib.hid (newReader_any A n c zs w hr hz)
  clear hr hz
  go_enter Try.func53, Try.ntmps53
  go_wp2_with fail
  refine H.out.mono ?_
  rintro e w1 ⟨R, rs, rfl, hR, hb1⟩
  have hBR := hR.1
  clear H
  go_wp2_with fail
  refine (someText_any _ R rs 0 12 w1 hR (by omega) (by omega)).mono ?_
  rintro e w2 ⟨l, q, rfl, hl, hq, hR2, hg2⟩
  go_wp2_with fail
  go_ret
  exact ⟨l, rfl, by omega, grown_bel hb1 hBR hg2⟩
set_option maxHeartbeats 800000 in
theorem DrawMissingOf_any (A : Option Addr) (n c : Nat) (zs : List Int) (w : World) (hr : Rd w w.heap.size A n c (zs.map U8)) (hz : ∀ z ∈ zs, 0 ≤ z ∧ z ≤ 255) :
    Calls Try.prog 54 #[.slice A n c] w (DrawnT w) := by
  have H := Lib.hid (newReader_any A n c zs w hr hz)
  clear hr hz
  go_enter Try.func54, Try.ntmps54
  go_wp2_with fail
  refine H.out.mono ?_
  rintro e w1 ⟨R, rs, rfl, hR, hb1⟩
  have hBR := hR.1
  have hlt1 := hR.lt
  clear H
  go_wp2_with fail
  refine (one_any _ R rs 0 _ 4 4 [12, 10, 8, 13] _ (hR.alloc _) (by omega) (rd_lit _ _ _ 4 _ rfl rfl (by omega)) (by omega) (by omega) (fun b o e => by injection e with e; injection e with e1 e2; omega)).mono ?_
  rintro e w2 ⟨k, hk, rfl, hR2, hg2⟩
  have hk1 : 0 ≤ k ∧ k ≤ 20 := by simp at hk; omega
  have hG2 := grown_trans (grown_alloc (grown_refl w1 (some R)) (.cells #[.int .i64 12, .int .i64 10, .int .i64 8, .int .i64 13] 3)) hg2
  clear hg2 hk
  obtain ⟨k, rfl⟩ := Int.eq_ofNat_of_zero_le hk1.1
  go_wp2_with fail
  refine (someText_any _ R rs 1 k w2 hR2 (by omega) (by omega)).mono ?_
  rintro e w3 ⟨l, q, rfl, hl, hq, hR3, hg3⟩
  have hG3 := grown_trans hG2 hg3
  go_wp2_with fail
  go_ret
  exact ⟨l, rfl, by omega, grown_bel hb1 hBR hG3⟩
set_option maxHeartbeats 800000 in
theorem DrawOnceFrom_any (A : Option Addr) (n c : Nat) (zs : List Int) (w : World) (hr : Rd w w.heap.size A n c (zs.map U8)) (hz : ∀ z ∈ zs, 0 ≤ z ∧ z ≤ 255) :
    Calls Try.prog 32 #[.slice A n c] w (DrawnTN w) := by
  have H := Lib.hid (newReader_any A n c zs w hr hz)
  clear hr hz
  go_enter Try.func32, Try.ntmps32
  go_wp2_with fail
  refine H.out.mono ?_
  rintro e w1 ⟨R, rs, rfl, hR, hb1⟩
  have hBR := hR.1
  have hlt1 := hR.lt
  clear H
  go_wp2_with fail
  refine (someText_any _ R rs 0 40 w1 hR (by omega) (by omega)).mono ?_
  rintro e w2 ⟨l, q, rfl, hl, hq, hR2, hg2⟩
  have hlt2 := hR2.lt
  go_wp2_with fail
  refine (pick_any _ R rs q l.length _ hR2 (by omega) (by omega) (by omega)).mono ?_
  rintro e w3 ⟨v1, rfl, hv1, hv1', hR3, hg3⟩
  have hv1b : v1 ≤ 50 := by
    rcases Nat.lt_or_ge l.length 1 with h | h
    · have := hv1' (by omega); omega
    · have := hv1 (by omega); omega
  have hG3 := grown_trans hg2 hg3
  clear hv1 hv1' hg3 hg2
  go_wp2_with fail
  refine (pick_any _ R rs (q + 1) l.length _ hR3 (by omega) (by omega) (by omega)).mono ?_
  rintro e w4 ⟨v2, rfl, hv2, hv2', hR4, hg4⟩
  have hv2b : v2 ≤ 50 := by
    rcases Nat.lt_or_ge l.length 1 with h | h
    · have := hv2' (by omega); omega
    · have := hv2 (by omega); omega
  have hG4 := grown_trans hG3 hg4
  have hlt4 := hR4.lt
  clear hv2 hv2' hg4 hG3
  go_wp2_with fail
  refine (one_any _ R rs (q + 1 + 1) _ 5 5 [(v1 : Int), (v2 : Int), 0, (l.length : Int), -1] _ (hR4.alloc _) (by omega) (rd_lit _ _ _ 5 _ rfl rfl (by omega)) (by omega) (by omega) (fun b o e => by injection e with e; injection e with e1 e2; omega)).mono ?_
  rintro e w5 ⟨k, hk, rfl, hR5, hg5⟩
  have hk1 : -1 ≤ k ∧ k ≤ 100 := by simp at hk; omega
  have hG5 := grown_trans hG4 (grown_trans (grown_alloc (grown_refl w4 (some R)) (.cells #[.int .i64 v1, .int .i64 v2, .int .i64 0, .int .i64 l.length, .int .i64 (-1)] 3)) hg5)
  clear hg5 hk
  go_wp2_with fail
  go_ret2
  exact ⟨l, k, rfl, by omega, hk1.1, hk1.2, grown_bel hb1 hBR hG5⟩
set_option maxHeartbeats 800000 in
theorem rises_any (A : Option Addr) (n c : Nat) (us : List (List UInt8)) (w : World) (B : Nat) (hr : Rd w B A n c (us.map S)) (ha : AscT us) :
    Calls Try.prog 52 #[.slice A n c] w fun e w' => e = .returned (.bool true) ∧ Quiet w w' := by
  have hm := hr.2.2.1
  have hnc := hr.2.1
  unfold maxLen at hm
  have hAs := Lib.hid (show ∀ (k : Nat) (y x : List UInt8), us[k]? = some y → us[k + 1]? = some x → y < x by
    intro k y x hy hx
    obtain ⟨h1, rfl⟩ := List.getElem?_eq_some_iff.1 hy
    obtain ⟨h2, rfl⟩ := List.getElem?_eq_some_iff.1 hx
    exact List.pairwise_iff_getElem.1 ha k (k + 1) h1 h2 (by omega))
  clear ha
  go_enter Try.func52, Try.ntmps52
  go_wp2
  go_loopw [3] (fun i wr => ∃ k : Nat, k + 1 ≤ n + 1 ∧ i = .int .i64 ((k : Int) + 1) ∧ Quiet w wr) (fun i _ => n + 1 - (intOf i).toNat)
  case atStart => exact ⟨0, by omega, rfl, Quiet.refl _⟩
  case round =>
    obtain ⟨k, hk, rfl, hq⟩ := hrel
    by_cases hlt : k + 1 < n
    · obtain ⟨b, o, x, rfl, hb, hx, hc⟩ := (hq.rd hr).str hlt
      obtain ⟨y, hy, hc2⟩ := (hq.rd hr).str_at (show k < n by omega)
      have hne : (Op.bytesLess x y || x == y) = false := by
        have h1 := hAs.out k y x hy hx
        cases h2 : (Op.bytesLess x y || x == y) with
        | false => rfl
        | true => exact absurd h1 (fun h => List.lt_irrefl _ (tlt_of_le_of_lt (bleq_le h2) h))
      have e1 : IntKind.i64.wrap ((k : Int) + 1 - 1) = (k : Int) := by rw [IntKind.wrap_i64]; omega
      have e2 : ((k : Int) + 1 - 1) = (k : Int) := by omega
      have b1 : (k : Int) + 1 < (n : Int) := by omega
      have b2 : (k : Int) < (n : Int) := by omega
      clear hx hy
      go_wp2_with fail
      go_quiet (fail)
      go_wp2
      go_roundw
      case rel => exact ⟨k + 1, by omega, by go_num, hq.drewN _⟩
      case measure => simp [intOf]; omega
    · go_wp2
      go_ret
      exact ⟨rfl, hq⟩
set_option maxHeartbeats 800000 in
theorem hasText_any (A : Option Addr) (n c : Nat) (us : List (List UInt8)) (x : List UInt8) (w : World) (B : Nat) (hr : Rd w B A n c (us.map S)) :
    Calls Try.prog 51 #[.slice A n c, .string ⟨x.toArray⟩] w fun e w' => e = .returned (.bool (us.contains x)) ∧ Quiet w w' := by
  have hm := hr.2.2.1
  have hnc := hr.2.1
  unfold maxLen at hm
  have Hn := Lib.hid hr.slen
  go_enter Try.func51, Try.ntmps51
  go_wp2
  go_loopw [5] (fun i wr => ∃ k : Nat, k ≤ n ∧ i = .int .i64 k ∧ (us.take k).contains x = false ∧ Quiet w wr) (fun i _ => n - (intOf i).toNat)
  case atStart => exact ⟨0, Nat.zero_le _, rfl, by simp, Quiet.refl _⟩
  case round =>
    obtain ⟨k, hk, rfl, he, hq⟩ := hrel
    by_cases hlt : k < n
    · obtain ⟨b, o, y, rfl, hb, hy, hc⟩ := (hq.rd hr).str hlt
      by_cases hyx : y = x
      · subst hyx
        have Hv := Lib.hid (show us.contains y = true by simpa using List.mem_of_getElem? hy)
        clear he hy
        go_wp2_with fail
        go_ret
        exact ⟨ret_bool Hv.out.symm, hq⟩
      · have hyx' : (y == x) = false := by simpa using hyx
        have He := Lib.hid (show (us.take (k + 1)).contains x = false by
          obtain ⟨h1, rfl⟩ := List.getElem?_eq_some_iff.1 hy
          cases hc2 : (us.take (k + 1)).contains x with
          | false => rfl
          | true =>
            have h := List.contains_iff_mem.1 hc2
            rw [List.take_succ_eq_append_getElem h1] at h
            rcases List.mem_append.1 h with h | h
            · rw [List.contains_iff_mem.2 h] at he
              cases he
            · exact absurd (List.mem_singleton.1 h).symm hyx)
        clear he hy hyx
        go_wp2_with fail
        go_roundw
        case rel => exact ⟨k + 1, by omega, by go_num, He.out, hq⟩
        case measure => simp [intOf]; omega
    · have Hv := Lib.hid (show us.contains x = false by
        have h1 := Hn.out
        rw [List.take_of_length_le (by omega)] at he
        exact he)
      clear he
      go_wp2
      go_ret
      exact ⟨ret_bool Hv.out.symm, hq⟩
end Go.Proofs.Ytfbmcfdmffpfmaa
