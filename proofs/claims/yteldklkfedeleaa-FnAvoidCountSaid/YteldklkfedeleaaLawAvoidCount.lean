/-
  The law on texts that avoid words (FnAvoidCount): the walk.
-/
import Derived.Test.YteldklkfedeleaaAvoid
import Derived.Test.YteldklkfedeleaaRedPlain
import Derived.Test.YteldklkfedeleaaGen
import Derived.Outline
namespace Go.Proofs.Yteldklkfedeleaa
open Go.RowKit
set_option linter.unusedVariables false
set_option linter.unusedSimpArgs false

set_option maxHeartbeats 1600000 in
theorem walkAvoidCount (A : Option Addr) (nc c : Nat) (zs : List Int) (w : World) (hr : Rd w w.heap.size A nc c (zs.map U8)) (hz : ∀ z ∈ zs, 0 ≤ z ∧ z ≤ 255) (hvr : Vr w) :
    Calls Try.prog 4 #[.slice A nc c] w (RetVal w (.bool true)) := by
  by_cases hbig : 1048576 < nc
  · go_enter Try.func4, Try.ntmps4
    go_wp2_with fail
    go_ret
    exact ⟨rfl, Below.refl _ _⟩
  · have HD := Lib.hid (DrawAvoidCount_any A nc c zs w hr hz)
    go_enter Try.func4, Try.ntmps4
    go_wp2_with fail
    refine HD.out.mono ?_
    rintro e w1 ⟨m, k, A1, n1, c1, ws, rfl, ho1, hsh, hn1, hb1⟩
    have hvr1 := hvr.keep hb1
    have hr1 := ho1.rd
    have hl47 : Len47 ws := fun x hx => by have := hsh x hx; omega
    go_wp2_with fail
    refine (AvoidCount_any m k A1 n1 c1 ws w1 hr1 hl47).mono ?_
    rintro e w2 ⟨rfl, hb2⟩
    have hr2 := (hr1.below hb2).more hb2.size
    have hvr2 := hvr1.keep hb2
    have hB2 : Below w.heap.size w w2 := hb1.trans (hb2.mono hb1.size)
    by_cases hneg : avc m k ws < 0
    · obtain ⟨v, hv⟩ : ∃ v, v = avc m k ws := ⟨_, rfl⟩
      rw [← hv] at hneg ⊢
      have Hv := Lib.hid hv
      clear hv
      have hvv : (v != v) = false := by simp
      have hvv' : (v == v) = true := by simp
      go_wp2_with fail
      refine (specAvoidCount_any m k A1 n1 c1 ws w2 hr2 hl47).mono ?_
      rintro e w' ⟨rfl, rfl⟩
      rw [← Hv.out]
      go_wp2_with fail
      refine (specAvoidCount_any m k A1 n1 c1 ws w2 hr2 hl47).mono ?_
      rintro e w' ⟨rfl, rfl⟩
      rw [← Hv.out]
      go_wp2_with fail
      go_ret
      exact ⟨rfl, hB2⟩
    · have hok : inR m 0 6 = true ∧ inR k 1 4 = true ∧ vw ws = true := by
        unfold avc at hneg
        by_cases h : (inR m 0 6 && inR k 1 4 && vw ws) = true
        · simp only [Bool.and_eq_true] at h
          exact ⟨h.1.1, h.1.2, h.2⟩
        · rw [if_neg h] at hneg
          omega
      obtain ⟨h1, h2, hvw⟩ := hok
      have g1 := inR_true h1
      have g2 := inR_true h2
      obtain ⟨m, rfl⟩ := Int.eq_ofNat_of_zero_le g1.1
      obtain ⟨k, rfl⟩ := Int.eq_ofNat_of_zero_le (show 0 ≤ k by omega)
      have hm6 : m ≤ 6 := by omega
      have hk1 : 1 ≤ k := by omega
      have hk4 : k ≤ 4 := by omega
      clear g1 g2 h1 h2 hneg
      obtain ⟨o, ho⟩ : ∃ o : Nat, o = cnt ws k m [] := ⟨_, rfl⟩
      obtain ⟨p, hp⟩ : ∃ p : Nat, p = k ^ m := ⟨_, rfl⟩
      have hop : o ≤ p := by rw [ho, hp]; exact cnt_le ws k hk4 m []
      have hp4 : p ≤ 4096 := by rw [hp]; exact pow_le hk4 hm6
      have Ho := Lib.hid (show avc m k ws = (o : Int) by rw [avc_yes hm6 hk1 hk4 hvw, ho])
      have Ho2 := Lib.hid ho
      have Hp := Lib.hid hp
      have Hvw := Lib.hid hvw
      clear ho hp hvw
      rw [Ho.out]
      have hvv : ((o : Int) != (o : Int)) = false := by simp
      go_wp2_with fail
      refine (specAvoidCount_any m k A1 n1 c1 ws w2 hr2 hl47).mono ?_
      rintro e w' ⟨rfl, rfl⟩
      rw [Ho.out]
      go_wp2_with fail
      go_loop [7, 8] (fun t x => ∃ j : Nat, j ≤ m ∧ x = .int .i64 j ∧ t = .int .i64 (k ^ j : Nat)) (fun _ x => m - (intOf x).toNat)
      case atStart => exact ⟨0, Nat.zero_le _, rfl, rfl⟩
      case round =>
        obtain ⟨j, hj, rfl, rfl⟩ := hrel
        obtain ⟨u, hu⟩ : ∃ u : Nat, u = k ^ j := ⟨_, rfl⟩
        have hu4 : u ≤ 4096 := by rw [hu]; exact pow_le hk4 (by omega)
        have Hu := Lib.hid hu
        rw [← hu]
        clear hu
        by_cases hjm : j < m
        · have huk : u * k ≤ 16384 := by
            have := Nat.mul_le_mul hu4 hk4
            omega
          have huk' : (u : Int) * (k : Int) ≤ 16384 := by rw [← Int.natCast_mul]; omega
          have huk0 : (0 : Int) ≤ (u : Int) * (k : Int) := Int.mul_nonneg (by omega) (by omega)
          go_wp2_with fail
          go_round
          case rel =>
            have e : Value.int .i64 ((u : Int) * (k : Int)) = .int .i64 ((k ^ (j + 1) : Nat) : Int) := by rw [Nat.pow_succ, ← Hu.out, Int.natCast_mul]
            exact ⟨j + 1, by omega, by congr 1, e⟩
          case measure => simp [intOf]; omega
        · obtain rfl : j = m := by omega
          have hup : u = p := by rw [Hu.out, Hp.out]
          subst hup
          go_wp2_with fail
          refine (ReduceWords_any A1 n1 c1 ws w2 hr2 hl47 hvr2).mono ?_
          rintro e w3 ⟨A3, n3, c3, rfl, ho3, hb3⟩
          have hr3 := (hr2.below hb3).more hb3.size
          have hB3 : Below w.heap.size w w3 := hB2.trans (hb3.mono hB2.size)
          have hn3 : (RW ws).length = n3 := ho3.rd.slen
          have HO := Ho2
          have Hn3 := Lib.hid hn3
          have hr1n := hr3.slen
          have Hr1n := Lib.hid hr1n
          clear hn3 hr1n
          by_cases hj0 : j = 0
          · subst hj0
            go_wp2_with fail
            have hbE : Below w3.heap.size w3 (w3.alloc (.cells #[] 9)) := (Below.refl _ _).alloc (Nat.le_refl _) _
            have hBE := hB3.trans (hbE.mono hB3.size)
            have hrE := (hr3.below hbE).more hbE.size
            refine (AvoidCount_any 0 k _ 0 0 [] _ (Row.nil_ w3 9).rd (fun x hx => by cases hx)).mono ?_
            rintro e w6 ⟨rfl, hb6⟩
            rw [show avc 0 k [] = (u : Int) by rw [show (0 : Int) = ((0 : Nat) : Int) from rfl, avc_yes hm6 hk1 hk4 (by decide), cnt_none k hk4, ← Hp.out]]
            have hB6 := hBE.trans (hb6.mono hBE.size)
            have hr6 := (hrE.below hb6).more hb6.size
            have huu : ((u : Int) == (u : Int)) = true := by simp
            clear hbE hBE hrE hb6
            by_cases hw0 : ws = []
            · have hz3 : n3 = 0 := by have := Hn3.out; rw [hw0] at this; simpa [RW, red, redTo] using this.symm
              subst hz3
              go_wp2_with fail
              go_ret
              exact ⟨rfl, hB6⟩
            · have hz3 : n3 ≠ 0 := by
                have h1 := Hn3.out
                have h2 := red_ne_nil hw0
                unfold RW at h1
                rw [Hvw.out, if_pos rfl] at h1
                intro h0
                rw [h0] at h1
                exact h2 (List.eq_nil_of_length_eq_zero h1)
              have hn10 : 1 ≤ n1 := by
                have h1 := Hr1n.out
                have : ws.length ≠ 0 := fun h => hw0 (List.eq_nil_of_length_eq_zero h)
                omega
              have h3' : ((n3 : Int) == 0) = false := by simp; omega
              obtain ⟨b, oo, rfl, hbb, hcc⟩ := hr6.2.2.2 (by omega)
              have hnc := hr6.2.1
              have Hcc := Lib.hid hcc
              have Hw0 := Lib.hid hw0
              clear hcc hw0 hz3
              have hrt := hr6.take_ (show n1 - 1 ≤ n1 by omega)
              rw [← List.map_take] at hrt
              obtain ⟨o2, ho2⟩ : ∃ o2 : Nat, o2 = cnt (ws.take (n1 - 1)) k 0 [] := ⟨_, rfl⟩
              have ho2' : o ≤ o2 := by rw [ho2, HO.out]; exact cnt_fewer (fun x hx => List.mem_of_mem_take hx) k 0 []
              have hvw2 : vw (ws.take (n1 - 1)) = true := by
                unfold vw
                rw [Bool.and_eq_true]
                exact ⟨List.all_eq_true.2 fun x hx => vw_all' Hvw.out x (List.mem_of_mem_take hx), by have := vw_len Hvw.out; simp; omega⟩
              have Ho3 := Lib.hid (show avc 0 k (ws.take (n1 - 1)) = (o2 : Int) by rw [show (0 : Int) = ((0 : Nat) : Int) from rfl, avc_yes hm6 hk1 hk4 hvw2, ho2])
              clear ho2 hvw2
              go_wp2_with fail
              first
                | (rw [show ((n1 : Int) - 1).toNat = n1 - 1 by omega])
                | skip
              refine (AvoidCount_any 0 k _ (n1 - 1) c1 (ws.take (n1 - 1)) _ hrt (fun x hx => hl47 x (List.mem_of_mem_take hx))).mono ?_
              rintro e w9 ⟨rfl, hb9⟩
              rw [Ho3.out]
              have hB9 := hB6.trans (hb9.mono hB6.size)
              go_wp2_with fail
              go_ret
              exact ⟨rfl, hB9⟩
          · have hj0' : ((j : Int) == 0) = false := by simp; omega
            obtain ⟨q, hq⟩ : ∃ q : Nat, q = cnt ws k (j - 1) [] := ⟨_, rfl⟩
            have hq4 : q ≤ 4096 := by rw [hq]; exact cnt_small ws hk4 (by omega) []
            have hoq : o ≤ k * q := by
              rw [HO.out, hq]
              have := cnt_step ws k hk4 (j - 1) []
              rwa [show j - 1 + 1 = j by omega] at this
            have Hq := Lib.hid (show avc ((j : Int) - 1) k ws = (q : Int) by rw [show (j : Int) - 1 = ((j - 1 : Nat) : Int) by omega, avc_yes (by omega) hk1 hk4 Hvw.out, hq])
            clear hq
            have hkq : k * q ≤ 16384 := by
              have := Nat.mul_le_mul hk4 hq4
              omega
            have hkq1 : (k : Int) * (q : Int) ≤ 16384 := by rw [← Int.natCast_mul]; omega
            have hkq0 : (0 : Int) ≤ (k : Int) * (q : Int) := Int.mul_nonneg (by omega) (by omega)
            have hoq' : (o : Int) ≤ (k : Int) * (q : Int) := by rw [← Int.natCast_mul]; omega
            go_wp2_with fail
            refine (AvoidCount_any _ k A1 n1 c1 ws w3 hr3 hl47).mono ?_
            rintro e w5 ⟨rfl, hb5⟩
            rw [Hq.out]
            have hB5 := hB3.trans (hb5.mono hB3.size)
            have hr5 := (hr3.below hb5).more hb5.size
            go_wp2_with fail
            have hbE : Below w5.heap.size w5 (w5.alloc (.cells #[] 9)) := (Below.refl _ _).alloc (Nat.le_refl _) _
            have hBE := hB5.trans (hbE.mono hB5.size)
            have hrE := (hr5.below hbE).more hbE.size
            refine (AvoidCount_any j k _ 0 0 [] _ (Row.nil_ w5 9).rd (fun x hx => by cases hx)).mono ?_
            rintro e w6 ⟨rfl, hb6⟩
            rw [show avc j k [] = (u : Int) by rw [avc_yes hm6 hk1 hk4 (by decide), cnt_none k hk4, ← Hp.out]]
            have hB6 := hBE.trans (hb6.mono hBE.size)
            have hr6 := (hrE.below hb6).more hb6.size
            have huu : ((u : Int) == (u : Int)) = true := by simp
            clear hbE hBE hrE hb6
            by_cases hw0 : ws = []
            · have hz3 : n3 = 0 := by have := Hn3.out; rw [hw0] at this; simpa [RW, red, redTo] using this.symm
              subst hz3
              go_wp2_with fail
              go_ret
              exact ⟨rfl, hB6⟩
            · have hz3 : n3 ≠ 0 := by
                have h1 := Hn3.out
                have h2 := red_ne_nil hw0
                unfold RW at h1
                rw [Hvw.out, if_pos rfl] at h1
                intro h0
                rw [h0] at h1
                exact h2 (List.eq_nil_of_length_eq_zero h1)
              have hn10 : 1 ≤ n1 := by
                have h1 := Hr1n.out
                have : ws.length ≠ 0 := fun h => hw0 (List.eq_nil_of_length_eq_zero h)
                omega
              have h3' : ((n3 : Int) == 0) = false := by simp; omega
              obtain ⟨b, oo, rfl, hbb, hcc⟩ := hr6.2.2.2 (by omega)
              have hnc := hr6.2.1
              have Hcc := Lib.hid hcc
              have Hw0 := Lib.hid hw0
              clear hcc hw0 hz3
              have hrt := hr6.take_ (show n1 - 1 ≤ n1 by omega)
              rw [← List.map_take] at hrt
              obtain ⟨o2, ho2⟩ : ∃ o2 : Nat, o2 = cnt (ws.take (n1 - 1)) k j [] := ⟨_, rfl⟩
              have ho2' : o ≤ o2 := by rw [ho2, HO.out]; exact cnt_fewer (fun x hx => List.mem_of_mem_take hx) k j []
              have hvw2 : vw (ws.take (n1 - 1)) = true := by
                unfold vw
                rw [Bool.and_eq_true]
                exact ⟨List.all_eq_true.2 fun x hx => vw_all' Hvw.out x (List.mem_of_mem_take hx), by have := vw_len Hvw.out; simp; omega⟩
              have Ho3 := Lib.hid (show avc j k (ws.take (n1 - 1)) = (o2 : Int) by rw [avc_yes hm6 hk1 hk4 hvw2, ho2])
              clear ho2 hvw2
              go_wp2_with fail
              first
                | (rw [show ((n1 : Int) - 1).toNat = n1 - 1 by omega])
                | skip
              refine (AvoidCount_any j k _ (n1 - 1) c1 (ws.take (n1 - 1)) _ hrt (fun x hx => hl47 x (List.mem_of_mem_take hx))).mono ?_
              rintro e w9 ⟨rfl, hb9⟩
              rw [Ho3.out]
              have hB9 := hB6.trans (hb9.mono hB6.size)
              go_wp2_with fail
              go_ret
              exact ⟨rfl, hB9⟩
end Go.Proofs.Yteldklkfedeleaa
