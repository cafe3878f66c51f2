/-
  The law on missing words (FnMissingOf): its walk.
-/
import Derived.Test.YtfbmcfdmffpfmaaLawFacs
namespace Go.Proofs.Ytfbmcfdmffpfmaa
open Go.RowKit
set_option linter.unusedVariables false
set_option linter.unusedSimpArgs false

theorem MS_ok {s : List UInt8} (h : MS s ≠ []) : vt s = true ∧ s.length ≤ 12 := by
  unfold MS at h
  split at h
  · next hh =>
    rw [Bool.and_eq_true] at hh
    exact ⟨hh.1, of_decide_eq_true hh.2⟩
  · exact absurd rfl h
theorem has_vt {s x : List UInt8} (hs : vt s = true) (h : hasL s x = true) : vt x = true := by
  have h2 := has_le h
  have h3 := vt_len hs
  rw [hasL_iff] at h
  exact vt_mk (fun c hc => vt_ok hs c (h.subset hc)) (by omega)
theorem L4_vt {a b : UInt8} (ha : a ∈ L4m) (hb : b ∈ L4m) : vt [a, b] = true := by
  unfold L4m at ha hb
  simp only [List.mem_cons, List.not_mem_nil, or_false] at ha hb
  rcases ha with rfl | rfl | rfl | rfl <;> rcases hb with rfl | rfl | rfl | rfl <;> decide
theorem L4_take : ∀ a : Nat, a < 4 → ∃ c, c ∈ L4m ∧ List.take 1 (List.drop a [97, 98, 99, 100]) = [c] := by
  intro a ha
  rcases (show a = 0 ∨ a = 1 ∨ a = 2 ∨ a = 3 by omega) with rfl | rfl | rfl | rfl
  · exact ⟨97, by decide, rfl⟩
  · exact ⟨98, by decide, rfl⟩
  · exact ⟨99, by decide, rfl⟩
  · exact ⟨100, by decide, rfl⟩
/-- None of the first so many is in a word. -/
def cleanTo (L : List (List UInt8)) (x : List UInt8) (i : Nat) : Bool := (L.take i).all fun y => !hasL x y
theorem cleanTo_succ {L : List (List UInt8)} {x y : List UInt8} {i : Nat} (h : L[i]? = some y) : cleanTo L x (i + 1) = (cleanTo L x i && !hasL x y) := by
  obtain ⟨h1, rfl⟩ := List.getElem?_eq_some_iff.1 h
  unfold cleanTo
  rw [List.take_succ_eq_append_getElem h1, List.all_append]
  simp
set_option maxRecDepth 8000 in
set_option maxHeartbeats 3200000 in
theorem walkMissingOf (A : Option Addr) (nc c : Nat) (zs : List Int) (w : World) (hr : Rd w w.heap.size A nc c (zs.map U8)) (hz : ∀ z ∈ zs, 0 ≤ z ∧ z ≤ 255) (hvr : Vr w) :
    Calls Try.prog 16 #[.slice A nc c] w (RetVal w (.bool true)) := by
  by_cases hbig : 1048576 < nc
  · go_enter Try.func16, Try.ntmps16
    go_wp2_with fail
    go_ret
    exact ⟨rfl, Below.refl _ _⟩
  have HD := Lib.hid (DrawMissingOf_any A nc c zs w hr hz)
  clear hr hz
  go_enter Try.func16, Try.ntmps16
  go_wp2_with fail
  refine HD.out.mono ?_
  rintro e w1 ⟨s, rfl, hs, hb1⟩
  have hvr1 := hvr.keep hb1
  have s1 := hb1.size
  clear HD hvr hbig
  obtain ⟨R, hRe⟩ : ∃ R, R = MS s := ⟨_, rfl⟩
  have HR := Lib.hid hRe
  clear hRe
  have H2 := Lib.hid (MissingOf_any s w1 (by omega) hvr1)
  rw [← HR.out] at H2
  go_wp2_with fail
  refine H2.out.mono ?_
  rintro e w2 ⟨A2, n2, c2, rfl, ho2, hb2⟩
  have s2 := hb2.size
  have B2 := hb1.trans (hb2.mono (by omega))
  have o2 := ho2.win
  have hvr2 := hvr1.keep hb2
  have H3 := Lib.hid (specMissingOf_any s w2 (by omega))
  rw [← HR.out] at H3
  clear H2 ho2 hb2 hb1 hvr1
  go_wp2_with fail
  refine H3.out.mono ?_
  rintro e w3 ⟨A3, n3, c3, rfl, ho3, hb3⟩
  have s3 := hb3.size
  have B3 := B2.trans (hb3.mono (by omega))
  have o3 := ho3.win
  have o2 := o2.below hb3 (by omega)
  have hvr3 := hvr2.keep hb3
  clear H3 ho3 hb3 B2 hvr2
  go_wp2_with fail
  refine (equalTexts_same A2 n2 c2 R A3 n3 c3 w3 _ _ o2.rd o3.rd).mono ?_
  rintro e w4 ⟨rfl, hq4⟩
  have hb4 := hq4.bel w3.heap.size
  have s4 := hb4.size
  have B4 := B3.trans (hb4.mono (by omega))
  have o2 := o2.below hb4 (by omega)
  have hvr4 := hvr3.keep hb4
  clear hq4 hb4 B3 hvr3 o3
  by_cases hn0 : n2 = 0
  · subst hn0
    have H5 := Lib.hid (specMissingOf_any s w4 (by omega))
    rw [← HR.out] at H5
    go_wp2_with fail
    refine H5.out.mono ?_
    rintro e w5 ⟨A5, n5, c5, rfl, ho5, hb5⟩
    have s5 := hb5.size
    have B5 := B4.trans (hb5.mono (by omega))
    have o5 := ho5.win
    have o2 := o2.below hb5 (by omega)
    clear H5 ho5 hb5 B4
    go_wp2_with fail
    refine (equalTexts_same A2 0 c2 R A5 n5 c5 w5 _ _ o2.rd o5.rd).mono ?_
    rintro e w6 ⟨rfl, hq6⟩
    have B6 := B5.trans ((hq6.bel w5.heap.size).mono (by omega))
    clear hq6
    go_wp2_with fail
    go_ret
    exact ⟨rfl, B6⟩
  have hl2 := o2.rd.slen
  have hRn : R ≠ [] := by intro h; rw [h] at hl2; simp at hl2; omega
  rw [HR.out] at hRn
  obtain ⟨hv, hs12⟩ := MS_ok hRn
  have hn5 : n2 ≤ 100000 := by have := MS_len s; rw [← HR.out] at this; omega
  have HMem := Lib.hid (show ∀ y ∈ R, hasL s y = false ∧ hasL s (y.drop 1) = true ∧ hasL s y.dropLast = true ∧ 1 ≤ y.length ∧ vt y = true from fun y hy => by
    rw [HR.out] at hy
    obtain ⟨h1, h2, h3, h4, h5, _⟩ := MS_mem hy
    exact ⟨h1, h2, h3, h4, h5⟩)
  have HTwo := Lib.hid (show ∀ a ∈ L4m, ∀ b ∈ L4m, cleanTo R [a, b] n2 = hasL s [a, b] from fun a ha b hb => by
    rw [← MS_two hv hs12 ha hb, ← HR.out]
    unfold cleanTo
    rw [List.take_of_length_le (by omega)])
  have Hv := Lib.hid hv
  clear hRn HR hv
  have hn00 : ((n2 : Int) == 0) = false := by simp; omega
  go_wp2_with fail
  clear hn00
  go_loopw [5, 6] (fun i _ wr => ∃ j : Nat, j ≤ n2 ∧ i = .int .i64 j ∧ w4.heap.size ≤ wr.heap.size ∧ Below w4.heap.size w4 wr) (fun i _ _ => n2 - (intOf i).toNat)
  case atStart => exact ⟨0, by omega, rfl, by omega, Below.refl _ _⟩
  case round =>
    obtain ⟨j, hj, rfl, hsz, hbr⟩ := hrel
    obtain ⟨wq, rfl⟩ : ∃ wq : World, wq = wr := ⟨_, rfl⟩
    have o2 := o2.below hbr (by omega)
    have hvr6 := hvr4.keep hbr
    by_cases hlt : j < n2
    · obtain ⟨b, o, x, rfl, hb, hx, hc⟩ := o2.rd.str hlt
      have hxm := List.mem_of_getElem? hx
      obtain ⟨g1, g2, g3, g4, g5⟩ := HMem.out x hxm
      have hx40 := vt_len g5
      obtain ⟨y0, y1, rfl⟩ : ∃ y0 y1, x = y0 :: y1 := by
        cases x with
        | nil => simp at g4
        | cons a b => exact ⟨a, b, rfl⟩
      have H7 := Lib.hid (HasWord_any s (y0 :: y1) wq (by omega) (by omega) hvr6)
      rw [Hv.out, g5, g1] at H7
      have hxl : y1.length ≤ 39 := by simp at hx40; omega
      have G2 := Lib.hid (show hasL s y1 = true from g2)
      have G3 := Lib.hid g3
      have G5 := Lib.hid g5
      have e1 : IntKind.i64.wrap ((y1.length : Int) + 1 - 1) = (y1.length : Int) := by rw [IntKind.wrap_i64]; omega
      clear hx g1 g2 g3 g4 g5 hxm hx40
      go_wp2_with fail
      refine H7.out.mono ?_
      rintro e w8 ⟨rfl, hb8⟩
      have s8 := hb8.size
      have B8 := hbr.trans (hb8.mono hsz)
      have hvr8 := hvr6.keep hb8
      clear hb8 hbr H7
      have H8 := Lib.hid (HasWord_any s y1 w8 (by omega) (by omega) hvr8)
      rw [Hv.out, has_vt Hv.out G2.out, G2.out] at H8
      go_wp2_with fail
      refine H8.out.mono ?_
      rintro e w9 ⟨rfl, hb9⟩
      have s9 := hb9.size
      have B9 := B8.trans (hb9.mono (by omega))
      have hvr9 := hvr8.keep hb9
      clear hb9 B8 H8 hvr8
      obtain ⟨z, hz⟩ : ∃ z, z = List.take y1.length (y0 :: y1) := ⟨_, rfl⟩
      have hz2 : (y0 :: y1).dropLast = z := by rw [hz, List.dropLast_eq_take]; rfl
      have G3 := G3.out
      rw [hz2] at G3
      have hzv := has_vt Hv.out G3
      have hzl := vt_len hzv
      have H9 := Lib.hid (HasWord_any s z w9 (by omega) (by omega) hvr9)
      rw [Hv.out, hzv, G3] at H9
      have Hz := Lib.hid hz
      clear hz hz2 G3 hzv hzl
      go_wp2_with fail
      rw [← Hz.out]
      refine H9.out.mono ?_
      rintro e w10 ⟨rfl, hb10⟩
      have s10 := hb10.size
      have B10 := B9.trans (hb10.mono (by omega))
      clear hb10 B9 H9
      go_wp2_with fail
      exact ⟨⟨j + 1, by omega, by go_num, by omega, B10⟩, by simp [intOf]; omega⟩
    · have hbr4 := B4.trans (hbr.mono (by omega))
      have s7 : w4.heap.size ≤ wq.heap.size := hsz
      clear B4 hbr
      go_wp2_with fail
      go_loopw [7, 8, 9, 10, 11] (fun i _ _ _ _ wr => ∃ a : Nat, a ≤ 4 ∧ i = .int .i64 a ∧ wq.heap.size ≤ wr.heap.size ∧ Below wq.heap.size wq wr) (fun i _ _ _ _ _ => 4 - (intOf i).toNat)
      case atStart => exact ⟨0, by omega, rfl, by omega, Below.refl _ _⟩
      case round =>
        obtain ⟨a, ha, rfl, hsa, hba⟩ := hrel
        obtain ⟨wa, rfl⟩ : ∃ wa : World, wa = wr := ⟨_, rfl⟩
        have o2 := o2.below hba (by omega)
        have hvra := hvr6.keep hba
        by_cases ha4 : a < 4
        · have ha4' : (a : Int) < 4 := by omega
          go_wp2_with fail
          go_loopw [8, 9, 10, 11] (fun i _ _ _ wr => ∃ b : Nat, b ≤ 4 ∧ i = .int .i64 b ∧ wa.heap.size ≤ wr.heap.size ∧ Below wa.heap.size wa wr) (fun i _ _ _ _ => 4 - (intOf i).toNat)
          case atStart => exact ⟨0, by omega, rfl, by omega, Below.refl _ _⟩
          case round =>
            obtain ⟨b, hb, rfl, hsb, hbb⟩ := hrel
            obtain ⟨wb, rfl⟩ : ∃ wb : World, wb = wr := ⟨_, rfl⟩
            have o2 := o2.below hbb (by omega)
            have hvrb := hvra.keep hbb
            by_cases hb4 : b < 4
            · have hb4' : (b : Int) < 4 := by omega
              obtain ⟨ca, hca, ta⟩ := L4_take a ha4
              obtain ⟨cb, hcb, tb⟩ := L4_take b hb4
              have hadd : ∀ W : World, (Op.stringOp .add ⟨[ca].toArray⟩ ⟨[cb].toArray⟩).run Try.prog W = .ok (.string ⟨[ca, cb].toArray⟩) W := fun W => by
                have h := run_string_add_sum (P := Try.prog) W ⟨[ca].toArray⟩ ⟨[cb].toArray⟩ (by show 1 + 1 ≤ _; omega)
                rw [ba_append] at h
                exact h
              have ea : IntKind.i64.wrap ((a : Int) + 1) = (a : Int) + 1 := by rw [IntKind.wrap_i64]; omega
              have eb : IntKind.i64.wrap ((b : Int) + 1) = (b : Int) + 1 := by rw [IntKind.wrap_i64]; omega
              have ba1 : (a : Int) ≤ (a : Int) + 1 := by omega
              have bb1 : (b : Int) ≤ (b : Int) + 1 := by omega
              have ba2 : (a : Int) + 1 ≤ 4 := by omega
              have bb2 : (b : Int) + 1 ≤ 4 := by omega
              have Hca := Lib.hid hca
              have Hcb := Lib.hid hcb
              clear hca hcb
              go_wp2_with fail
              go_quiet (fail)
              go_wp2_with fail
              obtain ⟨wc, hwc⟩ : ∃ wc : World, wc = wb.drewN nq := ⟨_, rfl⟩
              have hqc : Quiet wb wc := ⟨nq, hwc⟩
              rw [← hwc]
              have hbc := hqc.bel wb.heap.size
              have sc := hbc.size
              have Bc := hbb.trans (hbc.mono hsb)
              have o2 := o2.below hbc (by omega)
              have hvrc := hvrb.keep hbc
              clear hwc hqc hbc hadd ta tb hbb
              go_loopw [10, 11] (fun v i wr => ∃ j2 : Nat, j2 ≤ n2 ∧ i = .int .i64 j2 ∧ v = .bool (cleanTo R [ca, cb] j2) ∧ wc.heap.size ≤ wr.heap.size ∧ Below wc.heap.size wc wr) (fun _ i _ => n2 - (intOf i).toNat)
              case atStart => exact ⟨0, by omega, rfl, rfl, by omega, Below.refl _ _⟩
              case round =>
                obtain ⟨j2, hj2, rfl, rfl, hs2, hb2⟩ := hrel
                obtain ⟨wd, rfl⟩ : ∃ wd : World, wd = wr := ⟨_, rfl⟩
                have o2 := o2.below hb2 (by omega)
                have hvrd := hvrc.keep hb2
                by_cases hlt2 : j2 < n2
                · obtain ⟨b3, o3, y, rfl, hb3, hy, hc3⟩ := o2.rd.str hlt2
                  have hym := List.mem_of_getElem? hy
                  have hyv := (HMem.out y hym).2.2.2.2
                  have hyl := vt_len hyv
                  have Hcl := Lib.hid (cleanTo_succ (x := [ca, cb]) hy)
                  have H7 := Lib.hid (HasWord_any [ca, cb] y wd (by show 2 ≤ _; omega) (by omega) hvrd)
                  rw [L4_vt Hca.out Hcb.out, hyv] at H7
                  clear hy hym hyv
                  cases hcc : cleanTo R [ca, cb] j2 with
                  | true =>
                    rw [hcc] at Hcl
                    have Hcc := Lib.hid hcc
                    clear hcc
                    go_wp2_with fail
                    refine H7.out.mono ?_
                    rintro e w7 ⟨rfl, hb7⟩
                    have B7 := hb2.trans (hb7.mono hs2)
                    have s7 := hb7.size
                    clear hb7 hb2 H7
                    go_wp2_with fail
                    refine ⟨⟨j2 + 1, by omega, ?_, ?_, by omega, B7⟩, ?_⟩
                    · go_num
                    · rw [Hcl.out]
                      cases hasL [ca, cb] y <;> rfl
                    · simp [intOf]
                      omega
                  | false =>
                    rw [hcc] at Hcl
                    have Hcc := Lib.hid hcc
                    clear hcc
                    go_wp2_with fail
                    exact ⟨⟨j2 + 1, by omega, by go_num, by rw [Hcl.out]; rfl, by omega, hb2⟩, by simp [intOf]; omega⟩
                · obtain rfl : j2 = n2 := by omega
                  rw [HTwo.out ca Hca.out cb Hcb.out]
                  have H7 := Lib.hid (HasWord_any s [ca, cb] wd (by omega) (by show 2 ≤ _; omega) hvrd)
                  rw [L4_vt Hca.out Hcb.out, Hv.out] at H7
                  obtain ⟨hh, hhe⟩ : ∃ hh, hh = hasL s [ca, cb] := ⟨_, rfl⟩
                  rw [← hhe] at H7 ⊢
                  have hhb : (hh != (true && true && hh)) = false := by simp
                  have hhb2 : (hh != hh) = false := by simp
                  clear hhe
                  go_wp2_with fail
                  refine H7.out.mono ?_
                  rintro e w7 ⟨rfl, hb7⟩
                  have B7 := Bc.trans ((hb2.trans (hb7.mono hs2)).mono (by omega))
                  have s7 := hb7.size
                  clear hb7 hb2 H7 Bc
                  go_wp2_with fail
                  refine ⟨⟨b + 1, by omega, ?_, by omega, B7⟩, ?_⟩
                  · go_num
                  · simp [intOf]
                    omega
            · go_wp2_with fail
              have B11 := hba.trans (hbb.mono hsa)
              exact ⟨⟨a + 1, by omega, by go_num, by omega, B11⟩, by simp [intOf]; omega⟩
        · have B11 := hbr4.trans (hba.mono (by omega))
          go_wp2_with fail
          go_ret
          exact ⟨rfl, B11⟩
end Go.Proofs.Ytfbmcfdmffpfmaa
