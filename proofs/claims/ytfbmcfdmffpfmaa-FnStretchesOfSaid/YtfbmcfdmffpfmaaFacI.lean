/-
  The program's FactorsOf, LongestTwice.
-/
import Derived.Test.YtfbmcfdmffpfmaaKeys
import Derived.Test.YtfbmcfdmffpfmaaMissS
namespace Go.Proofs.Ytfbmcfdmffpfmaa
open Go.RowKit Go.Maps Go.Sort Go.Shelf
set_option linter.unusedVariables false
set_option linter.unusedSimpArgs false

set_option maxHeartbeats 1600000 in
theorem FactorsOf_any (s : List UInt8) (k : Int) (w : World) (hs : s.length ≤ 1048576) :
    Calls Try.prog 28 #[.string ⟨s.toArray⟩, .int .i64 k] w (RetRow w 9 ((FO s k).map S)) := by
  cases h1 : vt s with
  | false =>
    have Hv := Lib.hid (show FO s k = [] by unfold FO; rw [h1]; rfl)
    have H1 := Lib.hid h1
    clear h1
    go_enter Try.func28, Try.ntmps28
    go_wp2_with fail
    refine (ValidText_any _ _ (by omega)).mono ?_
    rintro e w' ⟨rfl, hb⟩
    rw [H1.out]
    go_wp2_with fail
    go_ret
    rw [Hv.out]
    exact retRow_nil' _ hb
  | true =>
    have hl40 := vt_len h1
    have H1 := Lib.hid h1
    clear h1
    cases h2 : inR k 0 40 with
    | false =>
      have Hv := Lib.hid (show FO s k = [] by unfold FO; rw [h2]; simp)
      have H2 := Lib.hid h2
      clear h2
      go_enter Try.func28, Try.ntmps28
      go_wp2_with fail
      refine (ValidText_any _ _ (by omega)).mono ?_
      rintro e w' ⟨rfl, hb⟩
      rw [H1.out]
      go_wp2_with fail
      refine (within_any _ _ _ _).mono ?_
      rintro e w' ⟨rfl, rfl⟩
      rw [H2.out]
      go_wp2_with fail
      go_ret
      rw [Hv.out]
      exact retRow_nil' _ hb
    | true =>
      obtain ⟨h3, h4⟩ := inR_true h2
      obtain ⟨k, rfl⟩ := Int.eq_ofNat_of_zero_le h3
      have Hv := Lib.hid (show FO s (k : Int) = fac s k by unfold FO; rw [H1.out, h2]; simp)
      have H2 := Lib.hid h2
      clear h2
      go_enter Try.func28, Try.ntmps28
      go_wp2_with fail
      refine (ValidText_any _ _ (by omega)).mono ?_
      rintro e w1 ⟨rfl, hb1⟩
      rw [H1.out]
      go_wp2_with fail
      refine (within_any _ _ _ _).mono ?_
      rintro e w' ⟨rfl, rfl⟩
      rw [H2.out]
      go_wp2_with fail
      refine (counted_any s k w1 (by omega) (by omega)).mono ?_
      rintro e w2 ⟨b, nn, D, rfl, hbB, hown, hnn, hC, hb2⟩
      have B2 := hb1.trans (hb2.mono hb1.size)
      have s2 := B2.size
      go_wp2_with fail
      refine (MapsKeys_any (some b) w2).mono ?_
      rintro e w3 ⟨rfl, rfl⟩
      have hS := Lib.hid (SortedKeys_any b nn D (fac s k) (fac_asc s k) (fun x => by rw [fac_mem, hC.has, List.count_pos_iff]) w2 hown (by omega))
      clear hown hC hb1 hb2
      go_wp2_with fail
      refine hS.out.mono ?_
      rintro e w4 ⟨A1, c1, rfl, hrow, hb4⟩
      have B4 := B2.trans (hb4.mono s2)
      have hnc := hrow.own.2.1
      go_wp2_with fail
      refine (ClipS_any _ _ _ hnc _).mono ?_
      rintro e w5 ⟨rfl, rfl⟩
      go_wp2_with fail
      go_ret
      exact ⟨_, _, _, rfl, by rw [Hv.out]; exact (hrow.more s2).own.clip, B4⟩
/-- What LongestTwice strikes: what stands once. -/
def once_ : Lit → DU → Bool
  | _, .lit (.int _ c) => decide (c < 2)
  | _, _ => false
theorem Twice1_any (key : Value) (c : Int) (w : World) : Calls Try.prog 63 #[key, .int .i64 c] w fun e w' => e = .returned (.bool (decide (c < 2))) ∧ w' = w := by
  by_cases h : c < 2
  all_goals
    go_enter Try.func63, Try.ntmps63
    go_wp2
    go_ret
    exact ⟨ret_bool (by simp [h]), rfl⟩
theorem once_has {w : World} {b nn : Nat} {D : DU} {f : List UInt8 → Nat} (h : OwnM w b nn D) (hC : Cnt D f) (x : List UInt8) : Maps.has (Lib.deleteFuncD once_ D) (.string x) = true ↔ 2 ≤ f x := by
  unfold OwnM at h
  obtain ⟨es, rfl, hp, hk⟩ := h.entries Try.lawK
  have hat : ∀ p ∈ es, p.1 = .string x → p.2 = .lit (.int .i64 (f x : Nat)) := fun p hp' e => by
    have h1 := hC.at_ x
    have hm : (Lit.string x, p.2) ∈ es := by rw [← e]; exact hp'
    rw [WideAt.atKey_mem _ (keyLit x) hp hm] at h1
    exact h1
  show (es.filter fun p => !once_ p.1 p.2).any (fun p => p.1.sameKey (.string x)) = true ↔ _
  rw [List.any_eq_true]
  constructor
  · rintro ⟨p, hp', hs⟩
    rw [List.mem_filter] at hp'
    have e := WideAt.sameKey_eq hs
    have h1 := hp'.2
    rw [hat p hp'.1 e] at h1
    unfold once_ at h1
    simp at h1
    omega
  · intro h2
    have h3 : Maps.has (.map es : DU) (.string x) = true := (hC.has x).2 (by omega)
    rw [has_eq, List.any_eq_true] at h3
    obtain ⟨p, hp', hs⟩ := h3
    refine ⟨p, List.mem_filter.2 ⟨hp', ?_⟩, hs⟩
    rw [hat p hp' (WideAt.sameKey_eq hs)]
    unfold once_
    simp
    omega
theorem DeleteOnce_any (b nn : Nat) (D : DU) (w : World) (hown : OwnM w b nn D) :
    Calls Try.prog 62 #[.map (some b), .func (.func 63) #[] #[]] w fun e w' => e = .returned (.tuple #[]) ∧ OwnM w' b nn (Lib.deleteFuncD once_ D) ∧ w.grownBy w' (some b) := by
  unfold OwnM at hown ⊢
  refine AnyDf.maps_DeleteFunc Try.delL Try.lawK (plainElem Try.prog 3) once_ 63 #[] b nn D w (enters_of Try.func63 (by kernel_rfl) rfl) hown ?_
  intro W key val kl yd yp _ _ hv
  obtain ⟨c, rfl, hz, _⟩ := plainElem_int_inv Try.underlying3 hv
  injection hz with h1 h2
  subst h1
  refine (Twice1_any key c W).mono ?_
  rintro e w' ⟨rfl, rfl⟩
  exact ⟨rfl, ⟨rfl, rfl, rfl, Nat.le_refl _, fun _ _ _ => rfl⟩⟩
theorem filter_head {p : List UInt8 → Bool} (l : List (List UInt8)) : l.find? p = (l.filter p).head? := by rw [List.head?_filter]
set_option maxHeartbeats 1600000 in
theorem LongestTwice_any (s : List UInt8) (w : World) (hs : s.length ≤ 1048576) :
    Calls Try.prog 21 #[.string ⟨s.toArray⟩] w (RetVal w (.string ⟨(LT s).toArray⟩)) := by
  cases h1 : vt s with
  | false =>
    have Hv := Lib.hid (show LT s = [] by unfold LT; rw [h1]; rfl)
    have H1 := Lib.hid h1
    clear h1
    go_enter Try.func21, Try.ntmps21
    go_wp2_with fail
    refine (ValidText_any _ _ (by omega)).mono ?_
    rintro e w' ⟨rfl, hb⟩
    rw [H1.out]
    go_wp2_with fail
    go_ret
    exact ⟨ret_str (a := []) (by rw [Hv.out]), hb⟩
  | true =>
    have hl40 := vt_len h1
    have Hv := Lib.hid (show LT s = ltF s (s.length - 1) by unfold LT; rw [h1]; rfl)
    have H1 := Lib.hid h1
    clear h1
    go_enter Try.func21, Try.ntmps21
    go_wp2_with fail
    refine (ValidText_any _ _ (by omega)).mono ?_
    rintro e w1 ⟨rfl, hb1⟩
    rw [H1.out]
    go_wp2_with fail
    go_loopw [3] (fun i wr => ∃ k : Int, -1 ≤ k ∧ k ≤ 40 ∧ i = .int .i64 k ∧ ltF s (s.length - 1) = ltF s k.toNat ∧ Below w.heap.size w wr) (fun i _ => (intOf i).toNat)
    case atStart => exact ⟨(s.length : Int) - 1, by omega, by omega, by go_num, by rw [show ((s.length : Int) - 1).toNat = s.length - 1 by omega], hb1⟩
    case round =>
      obtain ⟨k, hk0, hk1, rfl, hlt, hbw⟩ := hrel
      have Hlt := Lib.hid hlt
      have hsz := hbw.size
      clear hlt hb1
      by_cases hpos : 0 < k
      · obtain ⟨k, rfl⟩ : ∃ m : Nat, k = (m : Int) := ⟨k.toNat, by omega⟩
        have hk : 1 ≤ k := by omega
        have hk40 : k ≤ 40 := by omega
        have Hst := Lib.hid (ltF_pos s hk)
        clear hk0 hk1
        go_wp2_with fail
        refine (counted_any s k wr (by omega) (by omega)).mono ?_
        rintro e w2 ⟨b, nn, D, rfl, hbB, hown, hnn, hC, hb2⟩
        have B2 := hbw.trans (hb2.mono hsz)
        have Hhas := Lib.hid (once_has hown hC)
        have hD := Lib.hid (DeleteOnce_any b nn D w2 hown)
        clear hown hC hb2
        go_wp2_with fail
        refine hD.out.mono ?_
        rintro e w3 ⟨rfl, hown3, hg3⟩
        have B3 := B2.grown hg3 B2.size (fun i hi => by cases hi; omega)
        have s3 := B3.size
        clear hg3
        go_wp2_with fail
        refine (MapsKeys_any (some b) w3).mono ?_
        rintro e w4 ⟨rfl, rfl⟩
        have hF : AscT ((fac s k).filter (twice s k)) := (fac_asc s k).filter _
        have hS := Lib.hid (SortedKeys_any b nn _ ((fac s k).filter (twice s k)) hF (fun x => by
          rw [Hhas.out x, List.mem_filter, fac_mem]
          unfold twice
          rw [decide_eq_true_iff]
          refine ⟨fun h => h.2, fun h => ⟨List.count_pos_iff.1 (by omega), h⟩⟩) w3 hown3 (by omega))
        have Hfd := Lib.hid (filter_head (p := twice s k) (fac s k))
        obtain ⟨L, hL⟩ : ∃ L, L = (fac s k).filter (twice s k) := ⟨_, rfl⟩
        rw [← hL] at hS Hfd
        clear hown3 hF hL
        go_wp2_with fail
        refine hS.out.mono ?_
        rintro e w5 ⟨A1, c1, rfl, hrow, hb5⟩
        have B5 := B3.trans (hb5.mono s3)
        have hrd := hrow.rd
        have hcm := hrd.2.2.1
        unfold maxLen at hcm
        clear hS hb5
        cases L with
        | nil =>
          have Hfin := Lib.hid (show ltF s k = ltF s (k - 1) by rw [Hst.out, Hfd.out]; rfl)
          clear hrow hrd
          go_wp2_with fail
          go_roundw
          case rel => exact ⟨(k : Int) - 1, by omega, by omega, by go_num, by rw [Hlt.out, Int.toNat_natCast, Hfin.out, show ((k : Int) - 1).toNat = k - 1 by omega], B5⟩
          case measure => simp [intOf]; omega
        | cons x r =>
          have Hfin := Lib.hid (show ltF s k = x by rw [Hst.out, Hfd.out]; rfl)
          obtain ⟨bb, oo, y, rfl, hbb, hy, hcy⟩ := hrd.str (k := 0) (by simp)
          simp at hy
          subst hy
          obtain ⟨m, hm⟩ : ∃ m, m = (x :: r).length := ⟨_, rfl⟩
          have hm1 : 1 ≤ m := by rw [hm]; simp
          rw [← hm]
          clear hrow hrd hm
          rw [Nat.add_zero] at hcy
          go_wp2_with fail
          go_ret
          exact ⟨ret_str (by rw [Hv.out, Hlt.out, Int.toNat_natCast, Hfin.out]), B5⟩
      · have Hz := Lib.hid (show ltF s k.toNat = [] by rw [show k.toNat = 0 by omega]; rfl)
        go_wp2_with fail
        go_ret
        exact ⟨ret_str (a := []) (by rw [Hv.out, Hlt.out, Hz.out]), hbw⟩
end Go.Proofs.Ytfbmcfdmffpfmaa
