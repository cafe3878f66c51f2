/-
  The reference's StretchesOf.
-/
import Derived.Test.YtfbmcfdmffpfmaaJntL
import Derived.Test.YtfbmcfdmffpfmaaTxtS
import Derived.Test.YtfbmcfdmffpfmaaToldS
namespace Go.Proofs.Ytfbmcfdmffpfmaa
open Go.RowKit
set_option linter.unusedVariables false
set_option linter.unusedSimpArgs false

theorem take_snocS {l : List (List UInt8)} {k : Nat} {x : List UInt8} (h : l[k]? = some x) : l.take (k + 1) = l.take k ++ [x] := take_ats h
theorem endsN_at {l : List (List UInt8)} {j : Nat} {x p : List UInt8} (h : l[j]? = some x) : endsN (l.take (j + 1)) p = endsN (l.take j) p + if x.drop 1 = p then 1 else 0 := by rw [take_ats h, endsN_snoc]
theorem begsN_at {l : List (List UInt8)} {k j : Nat} {x p : List UInt8} (h : l[j]? = some x) : begsN k (l.take (j + 1)) p = begsN k (l.take j) p + if x.take (k - 1) = p then 1 else 0 := by rw [take_ats h, begsN_snoc]
set_option maxRecDepth 8000 in
set_option maxHeartbeats 3200000 in
theorem steps_any (k q : Nat) (hk : 1 ≤ q) (hq : q + 1 = k) (hk6 : k ≤ 6) (A : Option Addr) (n c : Nat) (all : List (List UInt8)) (s : List UInt8) (w : World) (B : Nat) (hr : Rd w B A n c (all.map S)) (hl : ∀ x ∈ all, x.length = k) (hs : s.length = q) (hn : n ≤ 1000) :
    Calls Try.prog 87 #[.slice A n c, .string ⟨s.toArray⟩] w fun e w' => e = .returned (.tuple #[.int .i64 (endsN all s : Nat), .int .i64 (begsN k all s : Nat)]) ∧ w' = w := by
  have Hq := Lib.hid hq
  have Hs := Lib.hid hs
  have Hn := Lib.hid hr.slen
  have Hl := Lib.hid hl
  have hq5 : q ≤ 5 := by omega
  have hsl : s.length ≤ 5 := by omega
  clear hq hs hl
  go_enter Try.func87, Try.ntmps87
  go_wp2_with fail
  go_loopw [6, 7, 9] (fun a b i wr => ∃ j : Nat, j ≤ n ∧ a = .int .i64 (endsN (all.take j) s : Nat) ∧ b = .int .i64 (begsN k (all.take j) s : Nat) ∧ i = .int .i64 j ∧ wr = w) (fun _ _ i _ => n - (intOf i).toNat)
  case atStart => exact ⟨0, Nat.zero_le _, rfl, rfl, rfl, rfl⟩
  case round =>
    obtain ⟨j, hj, rfl, rfl, rfl, rfl⟩ := hrel
    by_cases hlt : j < n
    · obtain ⟨b, o, x, rfl, hb, hx, hcx⟩ := hr.str hlt
      have hxk := Hl.out x (List.mem_of_getElem? hx)
      have E1 := Lib.hid (endsN_at (p := s) hx)
      have E2 := Lib.hid (begsN_at (k := k) (p := s) hx)
      have l1 := endsN_le (all.take j) s
      have l2 := begsN_le k (all.take j) s
      have l3 : (all.take j).length ≤ j := by rw [List.length_take]; omega
      obtain ⟨ea, hea⟩ : ∃ ea, ea = endsN (all.take j) s := ⟨_, rfl⟩
      obtain ⟨ba, hba⟩ : ∃ ba, ba = begsN k (all.take j) s := ⟨_, rfl⟩
      rw [← hea] at l1 E1 ⊢
      rw [← hba] at l2 E2 ⊢
      have h0 : (j : Int) < (n : Int) := by omega
      have h00 : (0 : Int) ≤ (j : Int) := by omega
      have Hx := Lib.hid hxk
      have q1 : 1 ≤ x.length := by have := Hq.out; omega
      have q2 : (1 : Int) ≤ (x.length : Int) := by omega
      have q3 : s.length ≤ x.length := by have := Hq.out; have := Hs.out; omega
      have q4 : (s.length : Int) ≤ (x.length : Int) := by omega
      have f1 : (List.take (x.length - 1) x.tail == s) = decide (x.drop 1 = s) := by
        rw [← List.drop_one, List.take_of_length_le (by rw [List.length_drop]; omega), Bool.eq_iff_iff]
        simp
      have f2 : (List.take s.length x == s) = decide (x.take (k - 1) = s) := by
        rw [show s.length = k - 1 by have := Hq.out; have := Hs.out; omega, Bool.eq_iff_iff]
        simp
      clear hea hba hx hxk
      by_cases h1 : x.drop 1 = s
      all_goals
        by_cases h2 : x.take (k - 1) = s
        all_goals
          (first | (rw [decide_eq_true h1] at f1) | (rw [decide_eq_false h1] at f1))
          (first | (rw [decide_eq_true h2] at f2) | (rw [decide_eq_false h2] at f2))
          have H1 := Lib.hid h1
          have H2 := Lib.hid h2
          clear h1 h2
          go_wp2_with fail
          go_roundw
          case rel => exact ⟨j + 1, by omega, (by first | (rw [E1.out, if_pos H1.out, Int.natCast_add]; rfl) | rw [E1.out, if_neg H1.out, Nat.add_zero]), (by first | (rw [E2.out, if_pos H2.out, Int.natCast_add]; rfl) | rw [E2.out, if_neg H2.out, Nat.add_zero]), by go_num, trivial⟩
          case measure => simp [intOf]; omega
    · obtain rfl : j = n := by omega
      go_wp2_with fail
      go_ret2
      rw [List.take_of_length_le (by rw [Hn.out]; exact Nat.le_refl _)]
      exact ⟨rfl, rfl⟩
def lenT : Value → Nat
  | .string s => s.size
  | _ => 0
theorem psd_two {k : Nat} {all : List (List UInt8)} {p : List UInt8} : psd k all p = (decide (endsN all p = 1) && decide (begsN k all p = 1)) := rfl
theorem SO_len (ws : List (List UInt8)) : (SO ws).length ≤ 100000 := by
  unfold SO
  split
  · next h =>
    rw [Bool.and_eq_true] at h
    rw [stT_len, List.length_map]
    have h1 : (begT (klen ws) (dd ws)).length ≤ (dd ws).length := List.length_filter_le _ _
    have h2 := dd_len ws
    have h3 := (vwd_k h.1).2.2.2.1
    omega
  · simp
set_option maxRecDepth 8000 in
set_option maxHeartbeats 6400000 in
theorem specStretchesOf_any (A : Option Addr) (n c : Nat) (ws : List (List UInt8)) (w : World) (hr : Rd w w.heap.size A n c (ws.map S)) (hl : Len47 ws) :
    Calls Try.prog 47 #[.slice A n c] w (RetRow w 9 ((SO ws).map S)) := by
  have hV := Lib.hid (validWindows_any A n c ws w _ hr hl)
  cases h1 : vwd ws with
  | false =>
    have Hv := Lib.hid (SO_no (.inl h1))
    have H1 := Lib.hid h1
    clear h1
    go_enter Try.func47, Try.ntmps47
    go_wp2_with fail
    refine hV.out.mono ?_
    rintro e w1 ⟨rfl, hq1⟩
    rw [H1.out]
    go_wp2_with fail
    go_ret
    rw [Hv.out]
    exact retRow_nil' _ (hq1.bel _)
  | true =>
  obtain ⟨hk1, hk6, _, hn8, hn1⟩ := vwd_k h1
  have hnn := hr.slen
  have H1 := Lib.hid h1
  obtain ⟨b0, o0, y0, rfl, hb0, hy0, hcy0⟩ := hr.str (k := 0) (by omega)
  rw [Nat.add_zero] at hcy0
  have hK := klen_at hy0
  have hn0 : (0 : Int) < (n : Int) := by omega
  have hn00 : 0 < n := by omega
  by_cases h2 : y0.length < 2
  · have Hv := Lib.hid (SO_no (ws := ws) (.inr (by omega)))
    have h2' : (y0.length : Int) < 2 := by omega
    clear h1 hk1 hk6 hK hy0 h2
    go_enter Try.func47, Try.ntmps47
    go_wp2_with fail
    refine hV.out.mono ?_
    rintro e w1 ⟨rfl, hq1⟩
    rw [H1.out]
    have hcy1 := (hq1.bel w.heap.size).cell (p := ⟨b0, o0, none⟩) hb0 |>.trans hcy0
    go_wp2_with fail
    go_ret
    rw [Hv.out]
    exact retRow_nil' _ (hq1.bel _)
  have h2' : ¬ (y0.length : Int) < 2 := by omega
  have Hv := Lib.hid (SO_go h1 (show 2 ≤ klen ws by omega))
  have HW := Lib.hid (wds_dd h1 (show 2 ≤ klen ws by omega))
  obtain ⟨all, hall⟩ : ∃ all, all = dd ws := ⟨_, rfl⟩
  obtain ⟨k, hkk⟩ : ∃ k, k = klen ws := ⟨_, rfl⟩
  have hal : all.length ≤ 8 := by have := dd_len ws; rw [hall]; omega
  have ham : 1 ≤ all.length := by
    have : y0 ∈ all := by rw [hall, dd_mem]; exact List.mem_of_getElem? hy0
    exact List.length_pos_of_mem this
  rw [← hall, ← hkk] at Hv HW
  have hk2 : 2 ≤ k := by omega
  have hk6' : k ≤ 6 := by omega
  have Hy := Lib.hid (show y0.length = k by omega)
  have Hall := Lib.hid hall
  clear h1 hk1 hk6 hK hy0 h2 hkk hall
  go_enter Try.func47, Try.ntmps47
  go_wp2_with fail
  refine hV.out.mono ?_
  rintro e w1 ⟨rfl, hq1⟩
  rw [H1.out]
  have hb1 := hq1.bel w.heap.size
  have s1 := hb1.size
  have hcy1 := hb1.cell (p := ⟨b0, o0, none⟩) hb0 |>.trans hcy0
  have hD := Lib.hid (distinct_any (some ⟨b0, o0, none⟩) n c ws w1 ((hr.below hb1).more s1) (by omega))
  rw [← Hall.out] at hD
  clear hq1 hV
  go_wp2_with fail
  refine hD.out.mono ?_
  rintro e w2 ⟨A2, n2, c2, rfl, ho2, hb2⟩
  have B2 := hb1.trans (hb2.mono s1)
  have s2 := B2.size
  have o2 := ho2.rd
  have hl2 := o2.slen
  have Hl2 := Lib.hid hl2
  have hn2 : n2 ≤ 8 := by omega
  have hn2a : 1 ≤ n2 := by omega
  have hn2b : (0 : Int) < (n2 : Int) := by omega
  have hn2c : 0 < n2 := by omega
  obtain ⟨b2, o2', x0, rfl, hbb2, hx0, hcx0⟩ := o2.str (k := 0) hn2c
  rw [Nat.add_zero] at hcx0
  have Hx0 := Lib.hid (HW.out.len x0 (List.mem_of_getElem? hx0))
  clear hD ho2 hb1 hb2 hcy0 hcy1 hx0 hl2
  go_wp2_with fail
  rw [Hx0.out]
  obtain ⟨q, hq⟩ : ∃ q, q + 1 = k := ⟨k - 1, by omega⟩
  have Hq := Lib.hid hq
  have hq1 : 1 ≤ q := by omega
  have hq5 : q ≤ 5 := by omega
  have ek1 : IntKind.i64.wrap ((k : Int) - 1) = (q : Int) := by rw [IntKind.wrap_i64]; omega
  have ek2 : (k : Int) - 1 = (q : Int) := by omega
  have ek3 : IntKind.i64.wrap (q : Int) = (q : Int) := by rw [IntKind.wrap_i64]; omega
  obtain ⟨i0, hi, hz0, hz1, hz2⟩ := info_parts Try.infoXs
  clear hq h2'
  go_loopw [5, 6] (fun v i wr => ∃ (j : Nat) (A' : Option Addr) (n' c' : Nat), j ≤ n2 ∧ i = .int .i64 j ∧ v = .slice A' n' c' ∧ Row wr w2.heap.size 9 A' n' c' ((begTo k all j).map S) ∧ Below w2.heap.size w2 wr) (fun _ i _ => n2 - (intOf i).toNat)
  case atStart => exact ⟨0, _, 0, 0, Nat.zero_le _, rfl, rfl, Row.nil_ w2 9, (Below.refl _ _).alloc (Nat.le_refl _) _⟩
  case round =>
    obtain ⟨j, A', n', c', hj, rfl, rfl, hrow, hbr⟩ := hrel
    have hsz := hbr.size
    have o2r := o2.below hbr
    have hrl := hrow.len
    rw [List.length_map] at hrl
    have hbl := begTo_len k all j
    have hn' : n' ≤ 8 := by omega
    clear hrl hbl
    by_cases hlt : j < n2
    · obtain ⟨x, hx, hcx⟩ := o2r.str_at hlt
      have hxm := List.mem_of_getElem? hx
      have Hxk := Lib.hid (HW.out.len x hxm)
      have Hxm := Lib.hid hxm
      have Hx := Lib.hid hx
      have h0 : (j : Int) < (n2 : Int) := by omega
      have h00 : (0 : Int) ≤ (j : Int) := by omega
      have qx1 : q ≤ x.length := by have := Hxk.out; have := Hq.out; omega
      have qx2 : (q : Int) ≤ (x.length : Int) := by omega
      have qx3 : (0 : Int) ≤ (q : Int) := by omega
      have hT := Lib.hid (steps_any k q hq1 Hq.out hk6' (some ⟨b2, o2', none⟩) n2 c2 all (List.take q x) wr _ o2r HW.out.len (by rw [List.length_take]; omega) (by omega))
      have hps := psd_two (k := k) (all := all) (p := List.take q x)
      obtain ⟨ea, hea⟩ : ∃ ea, ea = endsN all (List.take q x) := ⟨_, rfl⟩
      obtain ⟨ba, hba⟩ : ∃ ba, ba = begsN k all (List.take q x) := ⟨_, rfl⟩
      rw [← hea, ← hba] at hT hps
      have hq' : q = k - 1 := by have := Hq.out; omega
      rw [show List.take q x = x.take (k - 1) by rw [hq']] at hps
      clear hx hxm hea hba hq'
      have arms : (ea = 1 ∧ ba = 1) ∨ (ea ≠ 1) ∨ (ea = 1 ∧ ba ≠ 1) := by omega
      rcases arms with ⟨rfl, rfl⟩ | h1 | ⟨rfl, h1⟩
      case inl =>
        have Hst := Lib.hid (begTo_skip Hx.out (show psd k all (x.take (k - 1)) = true by rw [hps]; rfl))
        clear hps
        go_wp2_with fail
        refine hT.out.mono ?_
        rintro e wr ⟨rfl, rfl⟩
        go_wp2_with fail
        go_roundw
        case rel => exact ⟨j + 1, A', n', c', by omega, by go_num, rfl, by rw [Hst.out]; exact hrow, hbr⟩
        case measure => simp [intOf]; omega
      case' inr.inl =>
        have Hnp := Lib.hid (show psd k all (x.take (k - 1)) = false by rw [hps, decide_eq_false h1]; rfl)
        have d1 : ((ea : Int) == 1) = false := by simp; omega
        clear hps h1
        go_wp2_with fail
        refine hT.out.mono ?_
        rintro e wr ⟨rfl, rfl⟩
        go_wp2_with fail
        clear d1
      case' inr.inr =>
        have Hnp := Lib.hid (show psd k all (x.take (k - 1)) = false by rw [hps, decide_eq_false h1]; simp)
        have d1 : ((ba : Int) == 1) = false := by simp; omega
        clear hps h1
        go_wp2_with fail
        refine hT.out.mono ?_
        rintro e wr ⟨rfl, rfl⟩
        go_wp2_with fail
        clear d1
      all_goals
        clear hT hcx qx1 qx2 h0 h00
        go_loopw [9] (fun sv wq => ∃ (vis : List (List UInt8)) (t : List UInt8), sv = .string ⟨t.toArray⟩ ∧ Pth k all x vis t ∧ wq = wr) (fun sv _ => 100 - lenT sv)
        case atStart => exact ⟨[x], x, rfl, Pth.one, rfl⟩
        case round =>
          obtain ⟨vis, t, rfl, hP, rfl⟩ := hrel
          obtain ⟨hkt, htl, hkz⟩ := hP.len HW.out Hxm.out Hnp.out
          clear hkz
          obtain ⟨r, hr1⟩ : ∃ r, r + k = t.length + 1 := ⟨t.length + 1 - k, by omega⟩
          have ht20 : t.length ≤ 20 := by omega
          have HP := Lib.hid hP
          have er1 : IntKind.i64.wrap ((t.length : Int) - (k : Int)) = (t.length : Int) - (k : Int) := by rw [IntKind.wrap_i64]; omega
          have er2 : IntKind.i64.wrap ((t.length : Int) - (k : Int) + 1) = (r : Int) := by rw [IntKind.wrap_i64]; omega
          have er3 : (t.length : Int) - (k : Int) + 1 = (r : Int) := by omega
          have er4 : (r : Int) ≤ (t.length : Int) := by omega
          have er5 : (0 : Int) ≤ (r : Int) := by omega
          have er6 : r ≤ t.length := by omega
          obtain ⟨E, hE⟩ : ∃ E, E = endT k t := ⟨_, rfl⟩
          have hEs : List.take (t.length - r) (List.drop r t) = E := by
            rw [hE, List.take_of_length_le (by rw [List.length_drop]; exact Nat.le_refl _)]
            unfold endT
            rw [show t.length - (k - 1) = r by omega]
          have hEl : E.length = q := by
            rw [← hEs, List.length_take, List.length_drop]
            have := Hq.out
            omega
          have HEs := Lib.hid hEs
          have HE := Lib.hid hE
          have Htl := Lib.hid htl
          have Hr1 := Lib.hid hr1
          have hT := Lib.hid (steps_any k q hq1 Hq.out hk6' (some ⟨b2, o2', none⟩) n2 c2 all E wr _ o2r HW.out.len hEl (by omega))
          have hps := psd_two (k := k) (all := all) (p := E)
          obtain ⟨ea, hea⟩ : ∃ ea, ea = endsN all E := ⟨_, rfl⟩
          obtain ⟨ba, hba⟩ : ∃ ba, ba = begsN k all E := ⟨_, rfl⟩
          rw [← hea, ← hba] at hT hps
          clear hP hkt htl hr1 hE hEs hEl hea hba
          have hrd := hrow.rd
          have hnc := hrow.own.2.1
          have hcm := hrow.own.2.2.1
          unfold maxLen at hcm
          clear hrd
          have arms : (ea = 1 ∧ ba = 1) ∨ (ea ≠ 1) ∨ (ea = 1 ∧ ba ≠ 1) := by omega
          rcases arms with ⟨rfl, rfl⟩ | h1 | ⟨rfl, h1⟩
          case inl =>
            have Hps := Lib.hid (show psd k all E = true by rw [hps]; rfl)
            clear hps
            go_wp2_with fail
            rw [HEs.out]
            refine hT.out.mono ?_
            rintro e wr ⟨rfl, rfl⟩
            go_wp2_with fail
            clear er1 er2 er3 er4 er5 er6 hT
            go_loopw [9, 13] (fun sv jv wz => ∃ m : Nat, m ≤ n2 ∧ jv = .int .i64 m ∧ sv = .string ⟨t.toArray⟩ ∧ (∀ y ∈ all.take m, y.take (k - 1) ≠ E) ∧ wz = wr) (fun _ jv _ => n2 - (intOf jv).toNat)
            case atStart => exact ⟨0, Nat.zero_le _, rfl, rfl, by simp, rfl⟩
            case round =>
              obtain ⟨m, hm, rfl, rfl, hnone, rfl⟩ := hrel
              have Hnone := Lib.hid hnone
              clear hnone
              by_cases hmn : m < n2
              · obtain ⟨y, hy, hcy⟩ := o2r.str_at hmn
                have hym := List.mem_of_getElem? hy
                have Hyk := Lib.hid (HW.out.len y hym)
                have Hym := Lib.hid hym
                have Hyy := Lib.hid hy
                have m0 : (m : Int) < (n2 : Int) := by omega
                have m00 : (0 : Int) ≤ (m : Int) := by omega
                have qy1 : q ≤ y.length := by have := Hyk.out; have := Hq.out; omega
                have qy2 : (q : Int) ≤ (y.length : Int) := by omega
                have qy3 : (0 : Int) ≤ (q : Int) := by omega
                have qy4 : y.length ≤ 6 := by have := Hyk.out; omega
                have Hqk := Lib.hid (show k - 1 = q by have := Hq.out; omega)
                have Hdr := Lib.hid (show List.take (y.length - q) (List.drop q y) = y.drop q by rw [List.take_of_length_le (by rw [List.length_drop]; exact Nat.le_refl _)])
                clear hy hym
                by_cases hyE : List.take q y = E
                · have t1 : (List.take q y == E) = true := by simp [hyE]
                  have Hnx := Lib.hid (begs_uni Hps.out Hym.out (show y.take (k - 1) = E by rw [Hqk.out]; exact hyE))
                  have HP2 := Lib.hid (HP.out.step HW.out Hxm.out (by rw [← HE.out]; exact Hps.out))
                  rw [← HE.out, Hnx.out, Hqk.out] at HP2
                  have Hd1 := Lib.hid (show (y.drop q).length = 1 by rw [List.length_drop]; have := Hyk.out; have := Hq.out; omega)
                  clear hyE
                  go_wp2_with fail
                  go_roundw
                  case rel => exact ⟨y :: vis, t ++ y.drop q, by rw [Hdr.out], HP2.out, trivial⟩
                  case measure =>
                    rw [Hdr.out]
                    have := Hd1.out
                    show 100 - (t ++ y.drop q).length < 100 - t.length
                    rw [List.length_append]
                    omega
                · have t1 : (List.take q y == E) = false := by simp [hyE]
                  have Hne := Lib.hid (show y.take (k - 1) ≠ E by rw [Hqk.out]; exact hyE)
                  clear hyE
                  go_wp2_with fail
                  go_roundw
                  case rel => exact ⟨m + 1, by omega, by go_num, rfl, take_all_snoc Hnone.out Hyy.out Hne.out, trivial⟩
                  case measure => simp [intOf]; omega
              · exfalso
                have hb := begs_one Hps.out
                have h1 := Hnone.out (nxw k all E) (by rw [List.take_of_length_le (by have := Hl2.out; omega)]; exact hb.1)
                exact h1 hb.2
          case inr.inl =>
            have Hps := Lib.hid (show psd k all E = false by rw [hps, decide_eq_false h1]; rfl)
            have Hst := Lib.hid (begTo_go Hx.out Hnp.out)
            have Hfin := Lib.hid (HP.out.stop HW.out Hxm.out Hnp.out (by rw [← HE.out]; exact Hps.out))
            have d1 : ((ea : Int) != 1) = true := by simp; omega
            clear hps h1
            go_wp2_with fail
            rw [HEs.out]
            refine hT.out.mono ?_
            rintro e wr ⟨rfl, rfl⟩
            go_wp2_with (at_builtin; refine wpList_app1 _ rfl _ _ 24 rfl w2.heap.size 9 i0 (.string ⟨#[]⟩) 16 Try.underlying24 hi hz0 hz1 hz2 rfl _ _ _ _ rfl (hrow.alloc _) _ (.string ⟨t.toArray⟩) rfl (cell_one_new _ _ _) rfl (by omega) (by omega) (by simp; omega) ?_; intro A9 c9 w9 hown9 hgrow9)
            have hb9 : Below w2.heap.size w2 w9 := kp_grown (kp_alloc _ hbr (Nat.le_refl _)) (Nat.le_refl _) hgrow9 (row_ge hrow)
            go_roundw
            case rel => exact ⟨j + 1, A9, n' + 1, c9, by omega, by go_num, rfl, by rw [Hst.out, List.map_append, Hfin.out]; exact hown9, hb9⟩
            case measure => simp [intOf]; omega
          case inr.inr =>
            have Hps := Lib.hid (show psd k all E = false by rw [hps, decide_eq_false h1]; simp)
            have Hst := Lib.hid (begTo_go Hx.out Hnp.out)
            have Hfin := Lib.hid (HP.out.stop HW.out Hxm.out Hnp.out (by rw [← HE.out]; exact Hps.out))
            have d1 : ((ba : Int) != 1) = true := by simp; omega
            clear hps h1
            go_wp2_with fail
            rw [HEs.out]
            refine hT.out.mono ?_
            rintro e wr ⟨rfl, rfl⟩
            go_wp2_with (at_builtin; refine wpList_app1 _ rfl _ _ 24 rfl w2.heap.size 9 i0 (.string ⟨#[]⟩) 16 Try.underlying24 hi hz0 hz1 hz2 rfl _ _ _ _ rfl (hrow.alloc _) _ (.string ⟨t.toArray⟩) rfl (cell_one_new _ _ _) rfl (by omega) (by omega) (by simp; omega) ?_; intro A9 c9 w9 hown9 hgrow9)
            have hb9 : Below w2.heap.size w2 w9 := kp_grown (kp_alloc _ hbr (Nat.le_refl _)) (Nat.le_refl _) hgrow9 (row_ge hrow)
            go_roundw
            case rel => exact ⟨j + 1, A9, n' + 1, c9, by omega, by go_num, rfl, by rw [Hst.out, List.map_append, Hfin.out]; exact hown9, hb9⟩
            case measure => simp [intOf]; omega
    · obtain rfl : j = n2 := by omega
      have Hb := Lib.hid (show begTo k all j = (begT k all).map (strT k all) by rw [← Hl2.out]; exact begTo_all k all)
      have hS := Lib.hid (sortTexts_any A' n' c' ((begT k all).map (strT k all)) wr (by rw [← Hb.out]; exact hrow.rd) (by omega))
      have B3 := B2.trans (hbr.mono s2)
      have s3 := B3.size
      clear hrow
      go_wp2_with fail
      refine hS.out.mono ?_
      rintro e w5 ⟨A5, n5, c5, rfl, ho5, hb5⟩
      go_wp2_with fail
      go_ret
      exact ⟨_, _, _, rfl, by rw [Hv.out]; exact ho5.more s3, B3.trans (hb5.mono s3)⟩
end Go.Proofs.Ytfbmcfdmffpfmaa
