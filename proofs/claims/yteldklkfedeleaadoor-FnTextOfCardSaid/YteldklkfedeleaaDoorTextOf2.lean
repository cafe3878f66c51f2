/-
  The reference's text of phrases.
-/
import Derived.Test.YteldklkfedeleaaDoorTextOf
import Derived.StillTailTactics
namespace Go.Proofs.YteldklkfedeleaaDoor
open Go.RowKit
set_option linter.unusedVariables false
set_option linter.unusedSimpArgs false

def sbh (t : List UInt8) (p : Ph) : Option (List UInt8) :=
  if p.1 == -1 then (if p.2.1 == 1 && decide (p.2.2.length = 1) && vt p.2.2 then some (t ++ p.2.2) else none)
  else if inR p.1 0 (t.length - 1) && inR p.2.1 1 40 && decide (p.2.2 = []) then some (cp t p.1.toNat p.2.1.toNat) else none
def stxt (t : List UInt8) : List Ph → Option (List UInt8)
  | [] => if vt t then some t else none
  | p :: ps => (sbh t p).bind fun u => stxt u ps
theorem sbh_len {t u : List UInt8} {p : Ph} (h : sbh t p = some u) : u.length ≤ t.length + 40 := by
  obtain ⟨f, z, l⟩ := p
  unfold sbh at h
  dsimp only at h
  split at h
  · split at h
    · rename_i h1
      simp only [Bool.and_eq_true, decide_eq_true_eq] at h1
      injection h with h
      subst h
      simp
      omega
    · cases h
  · split at h
    · rename_i h1
      simp only [Bool.and_eq_true, decide_eq_true_eq] at h1
      have h2 := inR_true h1.1.2
      injection h with h
      subst h
      have := cp_len z.toNat t f.toNat
      omega
    · cases h
def SX (ps : List Ph) : Option (List UInt8) := if ps.length ≤ 40 then stxt [] ps else none
set_option maxRecDepth 8000 in
set_option maxHeartbeats 1000000 in
theorem specTextOf_any (A : Option Addr) (n c : Nat) (ps : List Ph) (w : World) (hr : Rd3 w w.heap.size A n c ps) (hok : PhOk ps) :
    Calls Tryd.prog 13 #[.slice A n c] w (RetTx w (SX ps)) := by
  have hm := hr.2.2.1
  have hnc := hr.2.1
  have hpn := hr.1
  unfold maxLen at hm
  by_cases h40 : n ≤ 40
  · have h40' : ¬ (40 : Int) < (n : Int) := by omega
    go_enter Tryd.func13, Tryd.ntmps13
    have HT := Lib.hid (show SX ps = stxt [] ps by unfold SX; rw [if_pos]; omega)
    go_wp2_with fail
    go_loopw [4, 5] (fun u x wr => ∃ (t : List UInt8) (k : Nat), u = .string ⟨t.toArray⟩ ∧ x = .int .i64 k ∧ k ≤ n ∧ t.length ≤ 40 * k ∧ stxt t (ps.drop k) = stxt [] ps ∧ Below w.heap.size w wr) (fun _ x _ => n - (intOf x).toNat)
    case atStart => exact ⟨[], 0, rfl, rfl, Nat.zero_le _, by simp, rfl, Below.refl _ _⟩
    case round =>
      obtain ⟨t, k, rfl, rfl, hk, htl, htx, hbw⟩ := hrel
      have Htx := Lib.hid htx
      clear htx
      by_cases hlt : k < n
      · have hlt' : (k : Int) < (n : Int) := by omega
        have hr' := hr.below hbw
        obtain ⟨b, o, f, z, l, rfl, hb, hx, c1, c2, c3⟩ := hr'.at_ hlt
        obtain ⟨q1, q2, q3⟩ := hok _ (List.mem_of_getElem? hx)
        have Hst := Lib.hid (show stxt t (ps.drop k) = (sbh t (f, z, l)).bind fun u => stxt u (ps.drop (k + 1)) by rw [List.drop_eq_getElem?_toList_append, hx]; rfl)
        clear hx
        cases hf : f == -1 with
        | true =>
          cases hz : z != 1 with
          | true =>
            have hz2 : (z == 1) = false := by simpa using hz
            have Hn := Lib.hid (show SX ps = none by rw [HT.out, ← Htx.out, Hst.out, show sbh t (f, z, l) = none by unfold sbh; dsimp only; rw [hf, hz2]; simp]; rfl)
            go_wp2_with fail
            go_ret2
            rw [Hn.out]
            exact ⟨bel_al hbw _, rfl⟩
          | false =>
            have hz2 : (z == 1) = true := by simpa using hz
            cases hl1 : (l.length : Int) != 1 with
            | true =>
              have hl2 : ¬ l.length = 1 := by simp at hl1; omega
              have Hn := Lib.hid (show SX ps = none by rw [HT.out, ← Htx.out, Hst.out, show sbh t (f, z, l) = none by unfold sbh; dsimp only; rw [hf]; simp [hl2]]; rfl)
              go_wp2_with fail
              go_ret2
              rw [Hn.out]
              exact ⟨bel_al hbw _, rfl⟩
            | false =>
              have hl2 : l.length = 1 := by simp at hl1; omega
              cases hv : vt l with
              | false =>
                have Hn := Lib.hid (show SX ps = none by rw [HT.out, ← Htx.out, Hst.out, show sbh t (f, z, l) = none by unfold sbh; dsimp only; rw [hf, hv]; simp]; rfl)
                go_wp2_with fail
                refine (validText_any _ _ (by omega)).mono ?_
                rintro e w2 ⟨rfl, rfl⟩
                rw [hv]
                go_wp2_with fail
                go_ret2
                rw [Hn.out]
                exact ⟨bel_al hbw _, rfl⟩
              | true =>
                have Hs := Lib.hid (show stxt (t ++ l) (ps.drop (k + 1)) = stxt [] ps by rw [← Htx.out, Hst.out, show sbh t (f, z, l) = some (t ++ l) by unfold sbh; dsimp only; rw [hf, hz2, hv]; simp [hl2]]; rfl)
                go_wp2_with fail
                refine (validText_any _ _ (by omega)).mono ?_
                rintro e w2 ⟨rfl, rfl⟩
                rw [hv]
                go_wp2_with fail
                go_roundw
                case rel => exact ⟨t ++ l, k + 1, rfl, by go_num, by omega, by simp; omega, Hs.out, bel_al hbw _⟩
                case measure => simp [intOf]; omega
        | false =>
          cases hr1 : inR f 0 ((t.length : Int) - 1) with
          | false =>
            have Hn := Lib.hid (show SX ps = none by rw [HT.out, ← Htx.out, Hst.out, show sbh t (f, z, l) = none by unfold sbh; dsimp only; rw [hf, hr1]; simp]; rfl)
            go_wp2_with fail
            refine (inRange_any _ _ _ _).mono ?_
            rintro e w2 ⟨rfl, rfl⟩
            rw [hr1]
            go_wp2_with fail
            go_ret2
            rw [Hn.out]
            exact ⟨bel_al hbw _, rfl⟩
          | true =>
            cases hr2 : inR z 1 40 with
            | false =>
              have Hn := Lib.hid (show SX ps = none by rw [HT.out, ← Htx.out, Hst.out, show sbh t (f, z, l) = none by unfold sbh; dsimp only; rw [hf, hr1, hr2]; simp]; rfl)
              go_wp2_with fail
              refine (inRange_any _ _ _ _).mono ?_
              rintro e w2 ⟨rfl, rfl⟩
              rw [hr1]
              go_wp2_with fail
              refine (inRange_any _ _ _ _).mono ?_
              rintro e w2 ⟨rfl, rfl⟩
              rw [hr2]
              go_wp2_with fail
              go_ret2
              rw [Hn.out]
              exact ⟨bel_al hbw _, rfl⟩
            | true =>
              by_cases hl0 : l = []
              · subst hl0
                have hzr := inR_true hr2
                have hfr := inR_true hr1
                obtain ⟨fn, rfl⟩ : ∃ k : Nat, f = (k : Int) := ⟨f.toNat, by omega⟩
                obtain ⟨zn, rfl⟩ : ∃ k : Nat, z = (k : Int) := ⟨z.toNat, by omega⟩
                have Hs := Lib.hid (show stxt (cp t fn zn) (ps.drop (k + 1)) = stxt [] ps by rw [← Htx.out, Hst.out, show sbh t ((fn : Int), (zn : Int), []) = some (cp t fn zn) by unfold sbh; dsimp only; rw [hf, hr1, hr2]; rfl]; rfl)
                have hcl := cp_len zn t fn
                go_wp2_with fail
                refine (inRange_any _ _ _ _).mono ?_
                rintro e w2 ⟨rfl, rfl⟩
                rw [hr1]
                go_wp2_with fail
                refine (inRange_any _ _ _ _).mono ?_
                rintro e w2 ⟨rfl, rfl⟩
                rw [hr2]
                go_wp2_with fail
                go_loopw [4, 7] (fun u x wz => ∃ (t' : List UInt8) (j : Nat), u = .string ⟨t'.toArray⟩ ∧ x = .int .i64 j ∧ j ≤ zn ∧ t'.length = t.length + j ∧ cp t' (fn + j) (zn - j) = cp t fn zn ∧ Quiet (wr.alloc (.cells #[.int .i64 (fn : Int), .int .i64 (zn : Int), .string ⟨#[]⟩] 37)) wz) (fun _ x _ => zn - (intOf x).toNat)
                case atStart => exact ⟨t, 0, rfl, rfl, Nat.zero_le _, rfl, rfl, Quiet.refl _⟩
                case round =>
                  obtain ⟨t', j, rfl, rfl, hj, htl', hcp, hq⟩ := hrel
                  have Hcp := Lib.hid hcp
                  clear hcp
                  obtain ⟨m, rfl⟩ := hq
                  by_cases hjz : j < zn
                  · have hjz' : (j : Int) < (zn : Int) := by omega
                    have e1 : IntKind.i64.wrap ((fn : Int) + (j : Int)) = ((fn + j : Nat) : Int) := by rw [IntKind.wrap_i64]; omega
                    have e2 : IntKind.i64.wrap (((fn + j : Nat) : Int) + 1) = ((fn + j + 1 : Nat) : Int) := by rw [IntKind.wrap_i64]; omega
                    have Hst := Lib.hid (show cp t' (fn + j) (zn - j) = cp (t' ++ (t'.drop (fn + j)).take 1) (fn + j + 1) (zn - (j + 1)) by rw [show zn - j = (zn - (j + 1)) + 1 by omega]; rfl)
                    go_wp2_with fail
                    go_roundw
                    case rel => exact ⟨t' ++ (t'.drop (fn + j)).take 1, j + 1, by simp [show fn + j + 1 - (fn + j) = 1 by omega], by go_num, by omega, by simp; omega, by rw [← Hcp.out, Hst.out]; rfl, ⟨m, rfl⟩⟩
                    case measure => simp [intOf]; omega
                  · have hjz' : ¬ (j : Int) < (zn : Int) := by omega
                    have hjs : j = zn := by omega
                    subst hjs
                    have Hen := Lib.hid (show cp t fn j = t' by have := Hcp.out; rw [Nat.sub_self] at this; exact this.symm)
                    go_wp2_with fail
                    exact ⟨⟨t', k + 1, rfl, by go_num, by omega, by omega, by rw [← Hen.out]; exact Hs.out, bel_drewN (bel_al hbw _) m⟩, by simp [intOf]; omega⟩
              · have hle : (l == []) = false := by simp [hl0]
                have Hn := Lib.hid (show SX ps = none by rw [HT.out, ← Htx.out, Hst.out, show sbh t (f, z, l) = none by unfold sbh; dsimp only; rw [hf, hr1, hr2]; simp [hl0]]; rfl)
                go_wp2_with fail
                refine (inRange_any _ _ _ _).mono ?_
                rintro e w2 ⟨rfl, rfl⟩
                rw [hr1]
                go_wp2_with fail
                refine (inRange_any _ _ _ _).mono ?_
                rintro e w2 ⟨rfl, rfl⟩
                rw [hr2]
                go_wp2_with fail
                go_ret2
                rw [Hn.out]
                exact ⟨bel_al hbw _, rfl⟩
      · have hlt' : ¬ (k : Int) < (n : Int) := by omega
        have hkn : k = n := by omega
        subst hkn
        cases hv : vt t with
        | true =>
          have Hn := Lib.hid (show SX ps = some t by rw [HT.out, ← Htx.out, List.drop_of_length_le (by omega), stxt, hv]; rfl)
          go_wp2_with fail
          refine (validText_any _ _ (by omega)).mono ?_
          rintro e w2 ⟨rfl, rfl⟩
          rw [hv]
          go_wp2_with fail
          go_ret2
          rw [Hn.out]
          exact ⟨hbw, rfl⟩
        | false =>
          have Hn := Lib.hid (show SX ps = none by rw [HT.out, ← Htx.out, List.drop_of_length_le (by omega), stxt, hv]; rfl)
          go_wp2_with fail
          refine (validText_any _ _ (by omega)).mono ?_
          rintro e w2 ⟨rfl, rfl⟩
          rw [hv]
          go_wp2_with fail
          go_ret2
          rw [Hn.out]
          exact ⟨hbw, rfl⟩
  · have h40' : (40 : Int) < (n : Int) := by omega
    have Ht := Lib.hid (show SX ps = none by unfold SX; rw [if_neg]; omega)
    go_enter Tryd.func13, Tryd.ntmps13
    go_wp2_with fail
    go_ret2
    rw [Ht.out]
    exact ⟨Below.refl _ _, rfl⟩
end Go.Proofs.YteldklkfedeleaaDoor
