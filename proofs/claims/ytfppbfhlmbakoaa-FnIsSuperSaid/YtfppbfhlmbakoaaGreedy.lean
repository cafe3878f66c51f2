/-
  The greedy way: of the program.
-/
import Derived.Test.YtfppbfhlmbakoaaGr
import Derived.Test.YtfppbfhlmbakoaaSup
import Derived.Test.YtfppbfhlmbakoaaPut
import Derived.Lib.SmallJoins
import Derived.Test.YtfppbfhlmbakoaaShort2
import Derived.StillTailTactics
namespace Go.Proofs.Ytfppbfhlmbakoaa
open Go.RowKit Go.Sort
set_option linter.unusedVariables false
set_option linter.unusedSimpArgs false

theorem Own.cur_len {cur : Array Value} {n : Nat} {xs : List Value} (h : cur.toList.take n = xs) (hx : xs.length = n) : n ≤ cur.size := by
  have := congrArg List.length h
  rw [List.length_take, hx] at this
  have h2 : cur.toList.length = cur.size := by simp
  omega
theorem own_set {w : World} {B g n c i : Nat} {t : TypeId} {xs : List Value} (h : Own w B t (some ⟨g, 0, none⟩) n c xs) (v : Value) (hi : i < n) : Own (w.setCell ⟨g, i, none⟩ v) B t (some ⟨g, 0, none⟩) n c (xs.set i v) := by
  obtain ⟨h1, h2, h3, h4⟩ := h
  obtain ⟨g', cur, e, hB, hh, ht⟩ := h4 (by omega)
  injection e with e
  injection e with e
  subst e
  refine ⟨by simpa using h1, h2, h3, fun _ => ⟨g, cur.setIfInBounds i v, rfl, hB, Go.Joins.block_setCell (i := i) hh v, ?_⟩⟩
  rw [Array.toList_setIfInBounds, List.take_set, ht]
/-- One text is taken out of a row of the call's own. -/
theorem DeleteS_any (B : Nat) (A : Option Addr) (n c i : Nat) (ws : List (List UInt8)) (w : World) (h : Own w B 9 A n c (ws.map S)) (hi : i < n) :
    Calls Try.prog 49 #[.slice A n c, .int .i64 i, .int .i64 ((i : Int) + 1)] w fun e w' => e = .returned (.slice A (n - 1) c) ∧ Own w' B 9 A (n - 1) c ((ws.eraseIdx i).map S) ∧ ∃ g, B ≤ g ∧ w.grownBy w' (some g) := by
  obtain ⟨h1, h2, h3, h4⟩ := h
  have hl : ws.length = n := by simpa using h1
  obtain ⟨g, cur, rfl, hB, hh, ht⟩ := h4 (by omega)
  have hcs := Own.cur_len ht h1
  subst hl
  unfold maxLen at h3
  have e1 : ((i : Int) + 1) = ((i + 1 : Nat) : Int) := by omega
  rw [e1]
  refine (Try.slices_Delete_string g 0 c i (i + 1) ws w (holds_blk S hh ht) h2 (by omega) (by omega) (by omega)).mono ?_
  rintro e w' ⟨rfl, k, rfl⟩
  obtain ⟨ts, hts⟩ : ∃ ts, ts = ws.take i ++ ws.drop (i + 1) ++ List.replicate (i + 1 - i) [] := ⟨_, rfl⟩
  have htl : ts.length = ws.length := by rw [hts]; simp; omega
  rw [← hts]
  have e2 : ws.length - (i + 1 - i) = ws.length - 1 := by omega
  rw [e2]
  have h5 := grown_put S (w := w) (g := g) (n := k) (os := #[]) ts.toArray
  have h6 := heap_put S (w := w) (g := g) (n := k) (os := #[]) ts.toArray hh
  rw [grow_none] at h5 h6
  have e : ts.take (ws.length - 1) = ws.eraseIdx i := by
    rw [hts, List.eraseIdx_eq_take_drop_succ, List.take_left' (by simp; omega)]
  refine ⟨rfl, ⟨by simp [List.length_eraseIdx_of_lt hi], by omega, by unfold maxLen; omega, fun _ => ⟨g, _, rfl, hB, h6, ?_⟩⟩, g, hB, h5⟩
  rw [take_put S cur ts (ws.length - 1) (by omega) (by omega), e]
theorem Join01_any (A : Option Addr) (n c B : Nat) (ws : List (List UInt8)) (w : World) (hr : Rd w B A n c (ws.map S)) (hn : n ≤ 1) :
    Calls Try.prog 50 #[.slice A n c, .string ⟨#[]⟩] w fun e w' => e = .returned (.string ⟨(ws.headD []).toArray⟩) ∧ w' = w := by
  have hl : ws.length = n := hr.slen
  rcases (show n = 0 ∨ n = 1 by omega) with rfl | rfl
  · obtain rfl := List.eq_nil_of_length_eq_zero hl
    go_enter Try.func50, Try.ntmps50
    go_wp2_with fail
    go_ret
    exact ⟨rfl, rfl⟩
  · obtain ⟨b, o, x, rfl, _, hx, hc⟩ := hr.str (show 0 < 1 by omega)
    have Hv := Lib.hid (show ws.headD [] = x by cases ws with | nil => simp at hl | cons a t => simp at hx; simpa using hx)
    rw [Nat.add_zero] at hc
    clear hx hr hl
    go_enter Try.func50, Try.ntmps50
    go_wp2_with fail
    go_ret
    exact ⟨by rw [Hv.out]; rfl, rfl⟩
def GST (ws : List (List UInt8)) : List UInt8 := if vw ws then gTxt (red ws) else []
theorem gRow_at (ws : List (List UInt8)) (i : Nat) (st : Int × Int × Int) {k : Nat} {x y : List UInt8} (hx : ws[i]? = some x) (hy : ws[k]? = some y) : gRow ws i st (k + 1) = if i ≠ k ∧ (gRow ws i st k).2.2 < ((ovl x y : Nat) : Int) then ((i : Int), (k : Int), ((ovl x y : Nat) : Int)) else gRow ws i st k := by
  rw [gRow, gSt, wd_at hx, wd_at hy]
set_option maxRecDepth 100000 in
set_option maxHeartbeats 3200000 in
theorem GreedySuper_any (A : Option Addr) (n c : Nat) (ws : List (List UInt8)) (w : World) (hr : Rd w w.heap.size A n c (ws.map S)) (hl : Len47 ws) (hvr : Vr w) :
    Calls Try.prog 22 #[.slice A n c] w (RetTwo w (GST ws) (vw ws)) := by
  have hn := hr.slen
  have Hn := Lib.hid hn
  clear hn
  cases hv : vw ws with
  | false =>
    have Hv := Lib.hid (show GST ws = [] by unfold GST; rw [hv]; rfl)
    have HV := Lib.hid hv
    clear hv
    go_enter Try.func22, Try.ntmps22
    go_wp2_with fail
    refine (wordsOk_any A n c ws _ hr hl).mono ?_
    rintro e w' ⟨rfl, hb1⟩
    rw [HV.out]
    go_wp2_with fail
    go_ret2
    rw [Hv.out]
    exact ⟨rfl, hb1⟩
  | true =>
    have h6 := vw_len hv
    rw [Hn.out] at h6
    have Hv := Lib.hid (show GST ws = gTxt (red ws) by unfold GST; rw [hv]; rfl)
    have hl6 : ∀ x ∈ ws, x.length ≤ 1048576 := fun x hx => by have := (wOk_len (vw_all' hv x hx)).2; omega
    have hl7 : ∀ x ∈ red ws, x.length ≤ 6 := fun x hx => (wOk_len (vw_all' hv x (red_mem hx))).2
    have HV := Lib.hid hv
    clear hv
    go_enter Try.func22, Try.ntmps22
    go_wp2_with fail
    refine (wordsOk_any A n c ws _ hr hl).mono ?_
    rintro e w1 ⟨rfl, hb1⟩
    rw [HV.out]
    have hr1 := (hr.below hb1).more hb1.size
    have hvr1 := hvr.keep hb1
    go_wp2_with fail
    refine (reduced_any A n c ws _ hr1 hl6 (by omega) hvr1).mono ?_
    rintro e w2 ⟨A2, m, c2, rfl, ho2, hb2⟩
    have hm : (red ws).length = m := by have := ho2.1; simpa using this
    have hm6 : m ≤ 6 := by rw [← hm]; have := redTo_le ws ws.length; unfold red; have := Hn.out; omega
    have hlt : ltr (red ws) ≤ 36 := by
      have h1 : ∀ l : List (List UInt8), (∀ x ∈ l, x.length ≤ 6) → ltr l ≤ 6 * l.length := by
        intro l
        induction l with
        | nil => intro _; simp [ltr]
        | cons a l ih =>
          intro h
          have := ih (fun x hx => h x (by simp [hx]))
          have := h a (by simp)
          rw [ltr_cons, List.length_cons]
          omega
      have := h1 _ hl7
      omega
    obtain ⟨R, hR⟩ : ∃ R, R = red ws := ⟨_, rfl⟩
    rw [← hR] at hm hlt ho2 Hv hl7
    have Hm := Lib.hid hm
    have hbw2 := hb1.trans (hb2.mono hb1.size)
    have hrow2 := ho2
    clear hm hR hr1 hvr1 hl6 hr hvr
    go_wp2_with fail
    go_loopw [4] (fun v wr => ∃ (j k : Nat) (A' : Option Addr) (c' : Nat), j + k = m ∧ (j = 0 ∨ 1 ≤ k) ∧ v = .slice A' k c' ∧ Own wr w1.heap.size 9 A' k c' ((gIt R j).map S) ∧ Below w.heap.size w wr) (fun v _ => match v with | .slice _ k _ => k | _ => 0)
    case atStart => exact ⟨0, m, A2, c2, by omega, .inl rfl, rfl, ho2, hbw2⟩
    case round =>
      obtain ⟨j, k, A', c', hjk, hj1, rfl, hown, hbw⟩ := hrel
      have hown1 := hown.1
      have hgl : (gIt R j).length = k := by simpa using hown1
      have hk6 : k ≤ 6 := by omega
      by_cases hk1 : k ≤ 1
      · have hk1' : ¬ ((k : Int) > 1) := by omega
        obtain ⟨hd, hhd⟩ : ∃ hd, hd = (gIt R j).headD [] := ⟨_, rfl⟩
        have Hg := Lib.hid (show gTxt R = hd by rw [hhd]; unfold gTxt; rw [Hm.out, show m - 1 = j by omega])
        have hJ := Join01_any A' k c' _ _ _ hown.rd hk1
        rw [← hhd] at hJ
        clear hown hown1 hgl hhd
        go_wp2_with fail
        refine hJ.mono ?_
        rintro e w' ⟨rfl, rfl⟩
        go_wp2_with fail
        go_ret2
        exact ⟨by rw [Hv.out, Hg.out]; rfl, hbw⟩
      · have hk1' : (k : Int) > 1 := by omega
        have hUl : ∀ x ∈ gIt R j, x.length ≤ 36 := fun x hx => by
          have h1 := ltr_mem hx
          have h2 := gIt_ltr R j (by rw [Hm.out]; omega)
          omega
        obtain ⟨U, hU⟩ : ∃ U, U = gIt R j := ⟨_, rfl⟩
        rw [← hU] at hown hgl hUl
        have HU := Lib.hid hU
        have Hgl := Lib.hid hgl
        obtain ⟨g, cur, rfl, hgB, hgh, hgt⟩ := hown.2.2.2 (by omega)
        have hrd := hown.rd
        have hm0 := hown.2.2.1
        have hkc := hown.2.1
        have Hown := Lib.hid hown
        unfold maxLen at hm0
        clear hown hown1 hgh hgt hU hgl
        go_wp2_with fail
        go_loopw [5, 6, 7, 22] (fun p q r i wz => ∃ i' : Nat, i' ≤ k ∧ i = .int .i64 i' ∧ p = .int .i64 (gAll U i').1 ∧ q = .int .i64 (gAll U i').2.1 ∧ r = .int .i64 (gAll U i').2.2 ∧ wz = wr) (fun _ _ _ i _ => k - (intOf i).toNat)
        case atStart => exact ⟨0, Nat.zero_le _, rfl, rfl, rfl, rfl, rfl⟩
        case round =>
          obtain ⟨i, hi, rfl, rfl, rfl, rfl, rfl⟩ := hrel
          by_cases hin : i < k
          · have hin' : (i : Int) < (k : Int) := by omega
            have i0' : (0 : Int) ≤ (i : Int) := by omega
            obtain ⟨x, hx, hcx⟩ := hrd.str_at hin
            rw [Nat.zero_add] at hcx
            have hxl := hUl x (List.mem_of_getElem? hx)
            have Hx := Lib.hid hx
            clear hx
            go_wp2_with fail
            go_loopw [5, 6, 7, 29] (fun p q r i2 wz => ∃ i' : Nat, i' ≤ k ∧ i2 = .int .i64 i' ∧ p = .int .i64 (gRow U i (gAll U i) i').1 ∧ q = .int .i64 (gRow U i (gAll U i) i').2.1 ∧ r = .int .i64 (gRow U i (gAll U i) i').2.2 ∧ wz = wr) (fun _ _ _ i _ => k - (intOf i).toNat)
            case atStart => exact ⟨0, Nat.zero_le _, rfl, rfl, rfl, rfl, rfl⟩
            case round =>
              obtain ⟨t, ht, rfl, rfl, rfl, rfl, rfl⟩ := hrel
              by_cases htn : t < k
              · have htn' : (t : Int) < (k : Int) := by omega
                have t0' : (0 : Int) ≤ (t : Int) := by omega
                obtain ⟨y, hy, hcy⟩ := hrd.str_at htn
                rw [Nat.zero_add] at hcy
                have hyl := hUl y (List.mem_of_getElem? hy)
                have Hst := Lib.hid (gRow_at U i (gAll U i) Hx.out hy)
                obtain ⟨p, q, r, hpqr⟩ : ∃ p q r, gRow U i (gAll U i) t = (p, q, r) := ⟨_, _, _, rfl⟩
                rw [hpqr]
                have Hp := Lib.hid hpqr
                have hO : ∀ w, Calls Try.prog 44 #[.string ⟨x.toArray⟩, .string ⟨y.toArray⟩] w fun e w' => e = .returned (.int .i64 (ovl x y : Nat)) ∧ w = w' := fun w => overlap_any x y w (by omega) (by omega)
                obtain ⟨o, ho⟩ : ∃ o, o = ovl x y := ⟨_, rfl⟩
                rw [← ho] at hO
                have Ho := Lib.hid ho
                clear hy hpqr ho
                by_cases hit : i = t
                · subst hit
                  have Hs := Lib.hid (show gRow U i (gAll U i) (i + 1) = (p, q, r) by have := Hst.out; rw [if_neg (by simp), Hp.out] at this; exact this)
                  go_wp2_with fail
                  go_roundw
                  case rel => exact ⟨i + 1, by omega, by go_num, by rw [Hs.out], by rw [Hs.out], by rw [Hs.out], trivial⟩
                  case measure => simp [intOf]; omega
                · have hit' : ((i : Int) != (t : Int)) = true := by simp; omega
                  by_cases hor : (o : Int) > r
                  · have Hs := Lib.hid (show gRow U i (gAll U i) (t + 1) = ((i : Int), (t : Int), (o : Int)) by have := Hst.out; rw [Hp.out, ← Ho.out, if_pos ⟨hit, hor⟩] at this; exact this)
                    go_wp2_with (go_at_call 44; refine (hO _).mono ?_; rintro e w' ⟨rfl, rfl⟩)
                    go_roundw
                    case rel => exact ⟨t + 1, by omega, by go_num, by rw [Hs.out], by rw [Hs.out], by rw [Hs.out], trivial⟩
                    case measure => simp [intOf]; omega
                  · have Hs := Lib.hid (show gRow U i (gAll U i) (t + 1) = (p, q, r) by have := Hst.out; rw [Hp.out, ← Ho.out, if_neg (fun h => hor h.2)] at this; exact this)
                    go_wp2_with (go_at_call 44; refine (hO _).mono ?_; rintro e w' ⟨rfl, rfl⟩)
                    go_roundw
                    case rel => exact ⟨t + 1, by omega, by go_num, by rw [Hs.out], by rw [Hs.out], by rw [Hs.out], trivial⟩
                    case measure => simp [intOf]; omega
              · have htn' : ¬ (t : Int) < (k : Int) := by omega
                obtain rfl : t = k := by omega
                have Hs := Lib.hid (show gAll U (i + 1) = gRow U i (gAll U i) t by rw [gAll, Hgl.out])
                go_wp2_with fail
                go_roundw
                case rel => exact ⟨i + 1, by omega, by go_num, by rw [Hs.out], by rw [Hs.out], by rw [Hs.out], trivial⟩
                case measure => simp [intOf]; omega
          · have hin' : ¬ (i : Int) < (k : Int) := by omega
            obtain rfl : i = k := by omega
            obtain ⟨hall, ha, hb, hne, _⟩ := gAll_two (ws := U) (by rw [Hgl.out]; omega)
            rw [Hgl.out] at hall ha hb
            rw [hall]
            have Hstep := Lib.hid (show gStep U = (U.set (min (gA U) (gB U)) (gMid U)).eraseIdx (max (gA U) (gB U)) from rfl)
            obtain ⟨x, hx, hcx⟩ := hrd.str_at ha
            obtain ⟨y, hy, hcy⟩ := hrd.str_at hb
            rw [Nat.zero_add] at hcx hcy
            have Hmid := Lib.hid (show gMid U = mrg x y by unfold gMid; rw [wd_at hx, wd_at hy])
            have hxl := hUl x (List.mem_of_getElem? hx)
            have hyl := hUl y (List.mem_of_getElem? hy)
            obtain ⟨a, hA⟩ : ∃ a, a = gA U := ⟨_, rfl⟩
            obtain ⟨b, hB⟩ : ∃ b, b = gB U := ⟨_, rfl⟩
            obtain ⟨o, hO⟩ : ∃ o, o = ovl (wd U (gA U)) (wd U (gB U)) := ⟨_, rfl⟩
            rw [← hO, ← hA, ← hB] at hall
            rw [← hO]
            rw [← hA, ← hB] at Hstep hne
            rw [← hA] at ha hx hcx ⊢
            rw [← hB] at hb hy hcy ⊢
            have hown := Hown.out
            have hownB := hown.below (Below.refl _ _) (Nat.le_refl _)
            have hfz : ∀ q, wr.drew.frozen? ⟨g, q, none⟩ = false := by
              obtain ⟨g', cur', e, _, hh, _⟩ := hown.2.2.2 (by omega)
              injection e with e
              injection e with e
              subst e
              intro q
              show wr.frozen? _ = false
              simp [World.frozen?, hh]
            have hcx' : wr.drew.cell? ⟨g, a, none⟩ = some (.string ⟨x.toArray⟩) := hcx
            have hcy' : wr.drew.cell? ⟨g, b, none⟩ = some (.string ⟨y.toArray⟩) := hcy
            have hJ := joined_any x y wr.drew (by omega) (by omega)
            rw [← Hmid.out] at hJ
            obtain ⟨M, hM⟩ : ∃ M, M = gMid U := ⟨_, rfl⟩
            rw [← hM] at hJ Hstep
            have a1 : (a : Int) < (i : Int) := by omega
            have a0 : (0 : Int) ≤ (a : Int) := by omega
            have b1 : (b : Int) < (i : Int) := by omega
            have b0 : (0 : Int) ≤ (b : Int) := by omega
            clear hx hy hO hA hB hM hall hown hownB
            obtain ⟨lo, hlo⟩ : ∃ lo, lo = min a b := ⟨_, rfl⟩
            obtain ⟨hi, hhi⟩ : ∃ hi, hi = max a b := ⟨_, rfl⟩
            rw [← hlo, ← hhi] at Hstep
            have e1 : min (a : Int) (b : Int) = (lo : Int) := by omega
            have e2 : max (a : Int) (b : Int) = (hi : Int) := by omega
            have l1 : (lo : Int) < (i : Int) := by omega
            have l0 : (0 : Int) ≤ (lo : Int) := by omega
            have l2 : lo < i := by omega
            have h2 : hi < i := by omega
            obtain ⟨z, _, hcz⟩ := hrd.str_at l2
            rw [Nat.zero_add] at hcz
            have hcz' : wr.drew.cell? ⟨g, lo, none⟩ = some (.string ⟨z.toArray⟩) := hcz
            have hfl := hfz lo
            clear hlo hhi hfz
            go_wp2_with fail
            go_still_tail 14, (by kernel_rfl)
            still_call (hJ.mono (fun e w' h => ⟨h.1, h.2.symm⟩))
            repeat still_step
            refine wpStill_nil ?_
            go_wp2_with fail
            have hown4 : Own (wr.setCell ⟨g, lo, none⟩ (.string ⟨M.toArray⟩)).drew w1.heap.size 9 (some ⟨g, 0, none⟩) i c' ((U.set lo M).map S) := by
              have := own_set (show Own wr w1.heap.size 9 (some ⟨g, 0, none⟩) i c' (U.map S) from Hown.out) (.string ⟨M.toArray⟩) l2
              rw [List.map_set]
              exact this
            have hbw4 : Below w.heap.size w (wr.setCell ⟨g, lo, none⟩ (.string ⟨M.toArray⟩)).drew := (hbw.setCell (Nat.le_trans hb1.size hgB) _).drew
            refine (DeleteS_any w1.heap.size _ i c' hi (U.set lo M) _ hown4 h2).mono ?_
            rintro e w5 ⟨rfl, hown5, g5, hg5, hgr5⟩
            have hbw5 : Below w.heap.size w w5 := kp_grown hbw4 (Nat.le_refl _) hgr5 (fun k' hk' => by injection hk' with hk'; have := hb1.size; omega)
            go_wp2_with fail
            go_roundw
            case rel => exact ⟨j + 1, i - 1, some ⟨g, 0, none⟩, c', by omega, .inr (by omega), rfl, by rw [gIt, ← HU.out, Hstep.out]; exact hown5, hbw5⟩
            case measure => simp; omega
end Go.Proofs.Ytfppbfhlmbakoaa
