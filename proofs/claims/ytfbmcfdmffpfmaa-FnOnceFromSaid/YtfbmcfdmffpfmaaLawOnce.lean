/-
  The law on letters that stand once (FnOnceFrom): its walk.
-/
import Derived.Test.YtfbmcfdmffpfmaaLawFacs
namespace Go.Proofs.Ytfbmcfdmffpfmaa
open Go.RowKit
set_option linter.unusedVariables false
set_option linter.unusedSimpArgs false

theorem OFo_some {s : List UInt8} {i : Int} {m : Nat} (h : OFo s i = some m) : vt s = true ∧ ∃ j : Nat, i = j ∧ j + m ≤ s.length ∧ 1 ≤ m ∧ cntW s (win s m j) = 1 ∧ (∀ k, 1 ≤ k → k < m → 2 ≤ cntW s (win s k j)) ∧ m ≤ (LT s).length + 1 := by
  unfold OFo at h
  split at h
  · next hh =>
    rw [Bool.and_eq_true] at hh
    have h2 := inR_true hh.2
    obtain ⟨j, rfl⟩ := Int.eq_ofNat_of_zero_le h2.1
    obtain ⟨h3, h4, h5, h6⟩ := onF_law s _ _ _ _ h
    rw [Int.toNat_natCast] at h4 h5 h6
    have hjm : j + m ≤ s.length := by omega
    have key : ∀ k, 1 ≤ k → k < m → 2 ≤ cntW s (win s k j) := by
      intro k h7 h8
      have h9 := h6 k h7 h8
      have hm : win s k j ∈ winds s k := (winds_mem s k _).2 ⟨j, by omega, rfl⟩
      have h10 := List.count_pos_iff.2 hm
      unfold cntW
      rw [win_len (by omega)]
      omega
    refine ⟨hh.1, j, rfl, hjm, h3, ?_, key, ?_⟩
    · unfold cntW
      rw [win_len hjm]
      exact h5
    · rcases Nat.lt_or_ge 1 m with h7 | h7
      · have h8 := LT_most hh.1 (x := win s (m - 1) j) (fun e => by
          have := win_len (s := s) (k := m - 1) (i := j) (by omega)
          rw [e] at this
          simp at this
          omega) (key (m - 1) (by omega) (by omega))
        rw [win_len (by omega)] at h8
        omega
      · omega
  · cases h
theorem win_vt {s : List UInt8} (h : vt s = true) {k j : Nat} (hk : j + k ≤ s.length) : vt (win s k j) = true :=
  fac_vt h ((fac_mem s k _).2 ((winds_mem s k _).2 ⟨j, hk, rfl⟩))
theorem win_ne {s : List UInt8} {k j : Nat} (hk : j + k ≤ s.length) (h1 : 1 ≤ k) : win s k j ≠ [] := fun e => by
  have := win_len hk
  rw [e] at this
  simp at this
  omega
set_option maxRecDepth 8000 in
set_option maxHeartbeats 3200000 in
theorem walkOnceFrom (A : Option Addr) (nc c : Nat) (zs : List Int) (w : World) (hr : Rd w w.heap.size A nc c (zs.map U8)) (hz : ∀ z ∈ zs, 0 ≤ z ∧ z ≤ 255) (hvr : Vr w) :
    Calls Try.prog 7 #[.slice A nc c] w (RetVal w (.bool true)) := by
  by_cases hbig : 1048576 < nc
  · go_enter Try.func7, Try.ntmps7
    go_wp2_with fail
    go_ret
    exact ⟨rfl, Below.refl _ _⟩
  have HD := Lib.hid (DrawOnceFrom_any A nc c zs w hr hz)
  clear hr hz hvr
  go_enter Try.func7, Try.ntmps7
  go_wp2_with fail
  refine HD.out.mono ?_
  rintro e w1 ⟨s, i, rfl, hs, hi0, hi1, hb1⟩
  have s1 := hb1.size
  clear HD hbig
  have H2 := Lib.hid (OnceFrom_any s i w1 (by omega))
  go_wp2_with fail
  refine H2.out.mono ?_
  rintro e w2 ⟨rfl, hb2⟩
  have s2 := hb2.size
  have B2 := hb1.trans (hb2.mono (by omega))
  have H3 := Lib.hid (specOnceFrom_any s i w2 (by omega))
  clear H2 hb2 hb1
  cases hO : OFo s i with
  | none =>
    rw [hO] at H3
    clear hO
    go_wp2_with fail
    refine H3.out.mono ?_
    rintro e w3 ⟨rfl, hb3⟩
    have B3 := B2.trans (hb3.mono (by omega))
    clear hb3
    go_wp2_with fail
    go_ret
    exact ⟨rfl, B3⟩
  | some m =>
    rw [hO] at H3
    obtain ⟨hv, j, rfl, hjm, hm1, hc1, hck, hmost⟩ := OFo_some hO
    have hs40 := vt_len hv
    clear hO
    go_wp2_with fail
    refine H3.out.mono ?_
    rintro e w3 ⟨rfl, hb3⟩
    have s3 := hb3.size
    have B3 := B2.trans (hb3.mono (by omega))
    have hp1 := plTo_count (s := s) (win_ne hjm hm1)
    rw [hc1] at hp1
    have H4 := Lib.hid (PlacesOf_any s (win s m j) w3 hv (win_vt hv hjm) (win_ne hjm hm1))
    have Hv := Lib.hid hv
    clear hb3 B2 hc1 hv
    have e1 : IntKind.i64.wrap ((j : Int) + (m : Int)) = (j : Int) + (m : Int) := by rw [IntKind.wrap_i64]; omega
    go_wp2_with fail
    rw [slice_win]
    refine H4.out.mono ?_
    rintro e w4 ⟨A4, n4, c4, rfl, ho4, hb4⟩
    have s4 := hb4.size
    have B4 := B3.trans (hb4.mono (by omega))
    have hn4 := ho4.rd.ilen
    rw [hp1] at hn4
    subst hn4
    clear hb4 B3 H4 hp1 ho4
    by_cases hm2 : m = 1
    · subst hm2
      have H5 := Lib.hid (LongestTwice_any s w4 (by omega))
      clear hck
      go_wp2_with fail
      refine H5.out.mono ?_
      rintro e w5 ⟨rfl, hb5⟩
      have B5 := B4.trans (hb5.mono (by omega))
      clear hb5
      obtain ⟨l, hl⟩ : ∃ l, l = LT s := ⟨_, rfl⟩
      have hll : (LT s).length ≤ 40 := by have := (LT_law Hv.out).2.1; omega
      rw [← hl] at hll ⊢
      clear hl
      have e3 : IntKind.i64.wrap ((l.length : Int) + 1) = (l.length : Int) + 1 := by rw [IntKind.wrap_i64]; omega
      have b3 : (1 : Int) ≤ (l.length : Int) + 1 := by omega
      go_wp2_with fail
      go_ret
      exact ⟨ret_bool (by first | rfl | simp | (simp; omega)), B5⟩
    · obtain ⟨m1, hmm⟩ : ∃ m1, m = m1 + 1 := ⟨m - 1, by omega⟩
      have hw2 := hck m1 (by omega) (by omega)
      have hne := win_ne (s := s) (k := m1) (j := j) (by omega) (by omega)
      have hp2 := plTo_count (s := s) hne
      have hp3 : 2 ≤ (plTo s (win s m1 j) s.length).length := by omega
      have e2 : IntKind.i64.wrap ((j : Int) + (m : Int) - 1) = (j : Int) + (m1 : Int) := by rw [IntKind.wrap_i64]; omega
      have hjm1 : j + m1 ≤ s.length := by omega
      have H5 := Lib.hid (PlacesOf_any s (win s m1 j) w4 Hv.out (win_vt Hv.out hjm1) hne)
      have hm3 : ¬ (m : Int) = 1 := by omega
      have hM := Lib.hid hmm
      clear hmm hck hp2 hw2 hne
      go_wp2_with fail
      rw [slice_win]
      refine H5.out.mono ?_
      rintro e w5 ⟨A5, n5, c5, rfl, ho5, hb5⟩
      have s5 := hb5.size
      have B5 := B4.trans (hb5.mono (by omega))
      have hn5 := ho5.rd.ilen
      have hn5' : (1 : Int) < (n5 : Int) := by omega
      clear hb5 B4 H5 hp3 ho5
      have H6 := Lib.hid (LongestTwice_any s w5 (by omega))
      go_wp2_with fail
      refine H6.out.mono ?_
      rintro e w6 ⟨rfl, hb6⟩
      have B6 := B5.trans (hb6.mono (by omega))
      clear hb6
      obtain ⟨l, hl⟩ : ∃ l, l = LT s := ⟨_, rfl⟩
      have hll : (LT s).length ≤ 40 := by have := (LT_law Hv.out).2.1; omega
      rw [← hl] at hll hmost ⊢
      clear hl
      have e3 : IntKind.i64.wrap ((l.length : Int) + 1) = (l.length : Int) + 1 := by rw [IntKind.wrap_i64]; omega
      have b3 : (m : Int) ≤ (l.length : Int) + 1 := by omega
      go_wp2_with fail
      go_ret
      exact ⟨ret_bool (by first | rfl | simp | (simp; omega)), B6⟩
end Go.Proofs.Ytfbmcfdmffpfmaa
