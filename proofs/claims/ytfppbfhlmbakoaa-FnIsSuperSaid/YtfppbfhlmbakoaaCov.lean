/-
  The reference's covers: the least sum of rings, counted word by word.
-/
import Derived.Test.YtfppbfhlmbakoaaWays
namespace Go.Proofs.Ytfppbfhlmbakoaa
open Go.RowKit
set_option linter.unusedVariables false
set_option linter.unusedSimpArgs false

theorem used_step {u k : Nat} (hu : u < 64) (hk : k < 6) (h0 : u / 2 ^ k % 2 = 0) : u + 2 ^ k < 64 ∧ ∀ j, j < 6 → (u + 2 ^ k) / 2 ^ j % 2 = if j = k then 1 else u / 2 ^ j % 2 := by
  have H : ∀ u : Fin 64, ∀ k : Fin 6, u.1 / 2 ^ k.1 % 2 = 0 → u.1 + 2 ^ k.1 < 64 ∧ ∀ j : Fin 6, (u.1 + 2 ^ k.1) / 2 ^ j.1 % 2 = if j.1 = k.1 then 1 else u.1 / 2 ^ j.1 % 2 := by decide +kernel
  obtain ⟨h1, h2⟩ := H ⟨u, hu⟩ ⟨k, hk⟩ h0
  exact ⟨h1, fun j hj => h2 ⟨j, hj⟩⟩
/-- A number whose bits tell a list. -/
def Bits (u : Nat) (h : List Nat) : Prop := u < 64 ∧ ∀ j, j < 6 → u / 2 ^ j % 2 = if j ∈ h then 1 else 0
theorem Bits.nil : Bits 0 [] := ⟨by omega, fun j _ => by simp⟩
theorem Bits.snoc {u k : Nat} {h : List Nat} (hb : Bits u h) (hk : k < 6) (hm : k ∉ h) : Bits (u + 2 ^ k) (h ++ [k]) := by
  obtain ⟨h1, h2⟩ := used_step hb.1 hk (by rw [hb.2 k hk, if_neg hm])
  refine ⟨h1, fun j hj => ?_⟩
  rw [h2 j hj]
  by_cases hjk : j = k
  · subst hjk; simp
  · rw [if_neg hjk, hb.2 j hj]
    simp [hjk]
set_option maxHeartbeats 400000 in
theorem power_any (n : Nat) (w : World) (hn : n ≤ 40) :
    Calls Try.prog 63 #[.int .i64 n] w fun e w' => e = .returned (.int .i64 (2 ^ n : Nat)) ∧ w' = w := by
  go_enter Try.func63, Try.ntmps63
  go_wp2
  go_loop [0, 3] (fun i o => ∃ k : Nat, k ≤ n ∧ i = .int .i64 ((n - k : Nat) : Int) ∧ o = .int .i64 (2 ^ k : Nat)) (fun i _ => (intOf i).toNat)
  case atStart => exact ⟨0, Nat.zero_le _, rfl, rfl⟩
  case round =>
    obtain ⟨k, hk, rfl, rfl⟩ := hrel
    obtain ⟨v, hv⟩ : ∃ v, v = 2 ^ k := ⟨_, rfl⟩
    have hvl : v ≤ 2 ^ 40 := by rw [hv]; exact Nat.pow_le_pow_right (by omega) (by omega)
    have Hv := Lib.hid hv
    rw [← hv]
    clear hv
    by_cases hlt : k < n
    · obtain ⟨d, hd⟩ : ∃ d, n - k = d + 1 := ⟨n - k - 1, by omega⟩
      have Hs := Lib.hid (show 2 ^ (k + 1) = 2 * v by rw [Nat.pow_succ, Hv.out]; omega)
      rw [hd]
      have e1 : (((d + 1 : Nat) : Int)) > 0 := by omega
      go_wp2
      go_round
      case rel => exact ⟨k + 1, by omega, by congr 1; omega, by rw [Hs.out]; congr 1⟩
      case measure => simp [intOf]
    · obtain rfl : k = n := by omega
      rw [Nat.sub_self]
      go_wp2
      go_ret
      exact ⟨ret_int (by have := Hv.out; rw [this]; simp), rfl⟩
theorem bit_any (u j : Nat) (w : World) (hu : u < 64) (hj : j < 6) :
    Calls Try.prog 61 #[.int .i64 u, .int .i64 j] w fun e w' => e = .returned (.int .i64 (u / 2 ^ j % 2 : Nat)) ∧ w' = w := by
  have hP := power_any j w (by omega)
  obtain ⟨v, hv⟩ : ∃ v, v = 2 ^ j := ⟨_, rfl⟩
  have hv1 : 1 ≤ v := by rw [hv]; exact Nat.one_le_two_pow
  have hv2 : v ≤ 64 := by
    rw [hv]
    exact Nat.pow_le_pow_right (n := 2) (by omega) (show j ≤ 6 by omega)
  rw [← hv] at hP ⊢
  clear hv
  have h0 : ((v : Int) == 0) = false := by simp; omega
  have h1 : (v : Int) ≠ 0 := by omega
  have h2 : (1 : Int) ≤ (v : Int) := by omega
  have h3 : (0 : Int) ≤ (u : Int) := by omega
  obtain ⟨q, hq⟩ : ∃ q, q = u / v := ⟨_, rfl⟩
  have hqu : q ≤ u := by rw [hq]; exact Nat.div_le_self _ _
  have hq1 : (u : Int) / (v : Int) = (q : Int) := by rw [hq]; rfl
  rw [← hq]
  have Hq := Lib.hid hq
  clear hq
  go_enter Try.func61, Try.ntmps61
  go_wp2_with fail
  refine hP.mono ?_
  rintro e w' ⟨rfl, rfl⟩
  go_wp2_with fail
  go_ret
  exact ⟨ret_int (by simp), rfl⟩
/-- The numbers that a cover goes on with. -/
def covAt (ws : List (List UInt8)) (m f : Nat) (h : List Nat) (i : Nat) : Option Int := if i ∈ h then none else some (stp ws h.length i + covF ws m f (h ++ [i]))
theorem covF_eq (ws : List (List UInt8)) (m f : Nat) (h : List Nat) : covF ws m (f + 1) h = (bestTo (covAt ws m f h) m).getD (-1) := rfl
theorem bestTo_skip {F : Nat → Option Int} {k : Nat} (h : F k = none) : bestTo F (k + 1) = bestTo F k := by rw [bestTo, h]
theorem bestTo_take {F : Nat → Option Int} {k : Nat} {x : Int} (h : F k = some x) : bestTo F (k + 1) = keepI (bestTo F k) x := by rw [bestTo, h]
theorem covF_le (ws : List (List UInt8)) (m f : Nat) (h : List Nat) (hB : ∀ i, (wd ws i).length ≤ 6) (hm : m ≤ 6) (hn : h.Nodup) (hl : ∀ j ∈ h, j < m) (hf : h.length + f = m) : covF ws m f h ≤ 36 := by
  obtain ⟨⟨x, hx, h1⟩, _⟩ := covF_least ws m f h hn hl hf
  obtain ⟨t, rfl, ht, _, _⟩ := (mem_ord m f h x hn).1 hx
  have h2 := wayTo_le bhC (h ++ t) hB (h ++ t).length
  have h3 := wayTo_nonneg ws bhC h h.length
  unfold way at h1
  have h4 : (h ++ t).length = m := by rw [List.length_append]; omega
  rw [h4] at h1 h2
  omega
theorem covTo_nonneg (ws : List (List UInt8)) (m f : Nat) (h : List Nat) (hn : h.Nodup) (hl : ∀ j ∈ h, j < m) (hf : h.length + (f + 1) = m) : ∀ k, k ≤ m → ∀ x, bestTo (covAt ws m f h) k = some x → 0 ≤ x := by
  intro k
  induction k with
  | zero => intro _ x hx; cases hx
  | succ k ihk =>
    intro hk x hx
    rw [bestTo] at hx
    by_cases hm : k ∈ h
    · simp only [covAt, if_pos hm] at hx
      exact ihk (by omega) x hx
    · simp only [covAt, if_neg hm] at hx
      obtain ⟨a1, a2, a3⟩ := ord_snoc_ok hn hl hf (show k < m by omega) hm
      have h1 := covF_best ws m f _ a1 a2 a3
      have h2 := stp_nonneg ws h.length k
      unfold keepI at hx
      injection hx with hx
      subst hx
      split
      · omega
      · next y hy =>
        have := ihk (by omega) y hy
        split <;> omega
set_option maxHeartbeats 3200000 in
theorem coverFrom_any (A : Option Addr) (m c : Nat) (ws : List (List UInt8)) (hB : ∀ i, (wd ws i).length ≤ 6) (hm : m ≤ 6) (f : Nat) :
    ∀ (h : List Nat) (u B : Nat) (w : World), Rd w B A m c (ws.map S) → h.Nodup → (∀ j ∈ h, j < m) → h.length + f = m → Bits u h →
    Calls Try.prog 34 #[.slice A m c, .int .i64 h.length, .int .i64 u] w fun e w' => e = .returned (.int .i64 (covF ws m f h)) ∧ Quiet w w' := by
  induction f with
  | zero =>
    intro h u B w hr hn hl hf hb
    obtain rfl : h.length = m := by omega
    have e1 : ((h.length : Int) == (h.length : Int)) = true := by simp
    go_enter Try.func34, Try.ntmps34
    go_wp2_with fail
    go_ret
    exact ⟨rfl, Quiet.refl _⟩
  | succ f ih =>
    intro h u B w hr hn hl hf hb
    have hmm := hr.2.2.1
    have hnc := hr.2.1
    unfold maxLen at hmm
    have hhm : h.length < m := by omega
    have e1 : ((h.length : Int) == (m : Int)) = false := by simp; omega
    rw [covF_eq]
    have Hnn := Lib.hid (covTo_nonneg ws m f h hn hl hf)
    have Hn := Lib.hid hn
    have Hl := Lib.hid hl
    have Hf := Lib.hid hf
    have Hb := Lib.hid hb
    have hu64 := hb.1
    obtain ⟨s, hs⟩ : ∃ s, s = h.length := ⟨_, rfl⟩
    rw [← hs] at hhm e1 ⊢
    have Hs := Lib.hid hs
    clear hn hl hf hb hs
    go_enter Try.func34, Try.ntmps34
    go_wp2_with fail
    go_loopw [7, 8] (fun b i wr => ∃ k : Nat, k ≤ m ∧ i = .int .i64 k ∧ b = .int .i64 ((bestTo (covAt ws m f h) k).getD (-1)) ∧ Quiet w wr) (fun _ i _ => m - (intOf i).toNat)
    case atStart => exact ⟨0, Nat.zero_le _, rfl, rfl, Quiet.refl _⟩
    case round =>
      obtain ⟨k, hk, rfl, rfl, hq⟩ := hrel
      by_cases hlt : k < m
      · have hlt' : (k : Int) < (m : Int) := by omega
        have hP := bit_any u k wr hu64 (by omega)
        rw [Hb.out.2 k (by omega)] at hP
        by_cases hmem : k ∈ h
        · rw [if_pos hmem] at hP
          have Hst := Lib.hid (bestTo_skip (F := covAt ws m f h) (k := k) (if_pos hmem))
          clear hmem
          go_wp2_with fail
          refine hP.mono ?_
          rintro e w' ⟨rfl, rfl⟩
          go_wp2_with fail
          go_roundw
          case rel => exact ⟨k + 1, by omega, by go_num, by rw [Hst.out], hq⟩
          case measure => simp [intOf]; omega
        · rw [if_neg hmem] at hP
          obtain ⟨a1, a2, a3⟩ := ord_snoc_ok Hn.out Hl.out Hf.out hlt hmem
          have a4 := Hb.out.snoc (by omega) hmem
          have hx0 := covF_best ws m f _ a1 a2 a3
          have hx1 := covF_le ws m f _ hB hm a1 a2 a3
          have hI := fun w' hr' => ih (h ++ [k]) (u + 2 ^ k) B w' hr' a1 a2 a3 a4
          have hPw := fun w' => power_any k w' (by omega)
          have Hst := Lib.hid (bestTo_take (F := covAt ws m f h) (k := k) (if_neg hmem))
          rw [← Hs.out] at Hst
          obtain ⟨x, hx⟩ : ∃ x, x = covF ws m f (h ++ [k]) := ⟨_, rfl⟩
          rw [← hx] at hx0 hx1 hI Hst
          obtain ⟨p, hp⟩ : ∃ p, p = 2 ^ k := ⟨_, rfl⟩
          have hp1 : u + p < 64 := by rw [hp]; exact a4.1
          rw [← hp] at hI hPw
          have ehl : (h ++ [k]).length = s + 1 := by rw [List.length_append, List.length_singleton, Hs.out]
          rw [ehl] at hI
          obtain ⟨b, off, y, rfl, _, hy, hcy⟩ := (hq.rd hr).str hhm
          obtain ⟨z, hz, hcz⟩ := (hq.rd hr).str_at hlt
          have hy6 : y.length ≤ 6 := by have := hB s; rwa [wd_at hy] at this
          have hz6 : z.length ≤ 6 := by have := hB k; rwa [wd_at hz] at this
          have hO := fun w' => specOverlap_any y z w' (by omega) (by omega)
          have ho1 := ovl_le_left y z
          have Hsp := Lib.hid (show stp ws s k = (y.length : Int) - (ovl y z : Nat) by unfold stp; rw [wd_at hy, wd_at hz])
          obtain ⟨t, ht⟩ : ∃ t, t = ovl y z := ⟨_, rfl⟩
          rw [← ht] at hO ho1 Hsp
          have hbn := Hnn.out k (by omega)
          have g1 : IntKind.i64.wrap ((y.length : Int) - (t : Int)) = (y.length : Int) - (t : Int) := by rw [IntKind.wrap_i64]; omega
          have g2 : IntKind.i64.wrap ((s : Int) + 1) = (s : Int) + 1 := by rw [IntKind.wrap_i64]; omega
          have g3 : IntKind.i64.wrap ((u : Int) + (p : Int)) = (u : Int) + (p : Int) := by rw [IntKind.wrap_i64]; omega
          have g4 : IntKind.i64.wrap ((y.length : Int) - (t : Int) + x) = (y.length : Int) - (t : Int) + x := by rw [IntKind.wrap_i64]; omega
          have s0 : (0 : Int) ≤ (s : Int) := by omega
          have s1 : (s : Int) < (m : Int) := by omega
          have k0 : (0 : Int) ≤ (k : Int) := by omega
          clear hx hp ht hy hz hmem a1 a2 a3 a4
          go_wp2_with fail
          refine hP.mono ?_
          rintro e w' ⟨rfl, rfl⟩
          clear hP
          go_wp2_with fail
          go_quiet ((first | (go_at_call 62; exact Calls.quiet_of (hO _)) | (go_at_call 63; exact Calls.quiet_of_same (hPw _)) | (go_at_call 34; exact Calls.quiet_of (hI _ (hq.rd hr)))))
          clear g1 g2 g3 g4 hO hPw hI
          cases hbk : bestTo (covAt ws m f h) k with
          | none =>
            have Hfin := Lib.hid (show (bestTo (covAt ws m f h) (k + 1)).getD (-1) = (y.length : Int) - (t : Int) + x by rw [Hst.out, hbk, Hsp.out]; rfl)
            clear hbk hbn
            have e3 : ((none : Option Int).getD (-1)) = -1 := rfl
            simp only [e3]
            go_wp2_with fail
            go_roundw
            case rel => exact ⟨k + 1, by omega, by go_num, by rw [Hfin.out], hq.drewN _⟩
            case measure => simp [intOf]; omega
          | some b0 =>
            have hb0 := hbn b0 hbk
            have e3 : ((some b0 : Option Int).getD (-1)) = b0 := rfl
            simp only [e3]
            by_cases hxb : (y.length : Int) - (t : Int) + x < b0
            · have Hfin := Lib.hid (show (bestTo (covAt ws m f h) (k + 1)).getD (-1) = (y.length : Int) - (t : Int) + x by rw [Hst.out, hbk, Hsp.out]; unfold keepI; simp [hxb])
              have hnb : ¬ b0 < 0 := by omega
              clear hbk hbn e3
              go_wp2_with fail
              go_roundw
              case rel => exact ⟨k + 1, by omega, by go_num, by rw [Hfin.out], hq.drewN _⟩
              case measure => simp [intOf]; omega
            · have Hfin := Lib.hid (show (bestTo (covAt ws m f h) (k + 1)).getD (-1) = b0 by rw [Hst.out, hbk, Hsp.out]; unfold keepI; simp [hxb])
              have hnb : ¬ b0 < 0 := by omega
              clear hbk hbn e3
              go_wp2_with fail
              go_roundw
              case rel => exact ⟨k + 1, by omega, by go_num, by rw [Hfin.out], hq.drewN _⟩
              case measure => simp [intOf]; omega
      · obtain rfl : k = m := by omega
        have hlt' : ¬ (k : Int) < (k : Int) := by omega
        go_wp2_with fail
        go_ret
        exact ⟨rfl, hq⟩
theorem WY_cover (ws : List (List UInt8)) : WY ws bhC = if vw ws then covF (red ws) (red ws).length (red ws).length [] else -1 := by
  unfold WY
  split
  · refine keptI_least ?_
    have := covF_least (red ws) (red ws).length (red ws).length [] List.nodup_nil (fun j hj => by cases hj) (by simp)
    rwa [show way (red ws) bhC [] = 0 from rfl, Int.zero_add] at this
  · rfl
set_option maxHeartbeats 800000 in
theorem specCoverLength_any (A : Option Addr) (n c : Nat) (ws : List (List UInt8)) (w : World) (hr : Rd w w.heap.size A n c (ws.map S)) (hl : Len47 ws) :
    Calls Try.prog 13 #[.slice A n c] w (RetVal w (.int .i64 (WY ws bhC))) := by
  have Hn := Lib.hid hr.slen
  rw [WY_cover]
  cases hv : vw ws with
  | false =>
    have HV := Lib.hid hv
    clear hv
    go_enter Try.func13, Try.ntmps13
    go_wp2_with fail
    refine (validWords_any A n c ws w _ hr hl).mono ?_
    rintro e w1 ⟨rfl, rfl⟩
    rw [HV.out]
    go_wp2_with fail
    go_ret
    exact ⟨rfl, Below.refl _ _⟩
  | true =>
    have h6 := vw_len hv
    rw [Hn.out] at h6
    have hB : ∀ i, (wd (red ws) i).length ≤ 6 := fun i => by
      unfold wd
      rw [List.getD_eq_getElem?_getD]
      cases h : (red ws)[i]? with
      | none => simp
      | some y => exact (wOk_len (vw_all' hv y (red_mem (List.mem_of_getElem? h)))).2
    have HV := Lib.hid hv
    clear hv
    go_enter Try.func13, Try.ntmps13
    go_wp2_with fail
    refine (validWords_any A n c ws w _ hr hl).mono ?_
    rintro e w1 ⟨rfl, rfl⟩
    rw [HV.out]
    go_wp2_with fail
    refine (reduce_any A n c ws _ hr hl (by omega)).mono ?_
    rintro e w2 ⟨A2, m, c2, rfl, ho, hb⟩
    have hm : (red ws).length = m := by have := ho.1; simpa using this
    have hm6 : m ≤ 6 := by rw [← hm]; have := redTo_le ws ws.length; unfold red; have := Hn.out; omega
    have hC := coverFrom_any A2 m c2 (red ws) hB hm6 m [] 0 _ w2 ho.rd List.nodup_nil (fun j hj => by cases hj) (by simp) Bits.nil
    have Hm := Lib.hid hm
    clear hm
    go_wp2_with fail
    refine hC.mono ?_
    rintro e w3 ⟨rfl, hq⟩
    go_wp2_with fail
    go_ret
    exact ⟨ret_int (by rw [Hm.out]), hb.trans ((hq.bel _).mono hb.size)⟩
end Go.Proofs.Ytfppbfhlmbakoaa
