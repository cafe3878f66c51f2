/-
  Phrases: the reference's phrases; equal phrases; texts of phrases.
-/
import Derived.Test.YteldklkfedeleaaDoorPhr
namespace Go.Proofs.YteldklkfedeleaaDoor
open Go.RowKit
set_option linter.unusedVariables false
set_option linter.unusedSimpArgs false

theorem Row3.al1 {w : World} {B : Nat} {A : Option Addr} {n c : Nat} {ps : List Ph} (h : Row3 w B A n c ps) (m : Nat) (o2 : Obj) : Row3 ((w.drewN m).alloc o2) B A n c ps := by
  have h1 : Row3 (w.drewN m) B A n c ps := h
  exact h1.alloc o2
/-- The ending of a call that hands back a row of phrases of its own. -/
def RetRow3 (w : World) (ps : List Ph) (e : Ending) (w' : World) : Prop :=
  ∃ A n c, e = .returned (.slice A n c) ∧ Row3 w' w.heap.size A n c ps ∧ Below w.heap.size w w'
theorem RetRow3.ph {w : World} {ps : List Ph} {e : Ending} {w' : World} (h : RetRow3 w ps e w') : RetPh w ps e w' := by
  obtain ⟨A, n, c, h1, h2, h3⟩ := h
  exact ⟨A, n, c, h1, h2.rd, h3⟩
set_option maxHeartbeats 1000000 in
theorem specPhrases_row (s : List UInt8) (w : World) (hs : s.length ≤ 1000) :
    Calls Tryd.prog 18 #[.string ⟨s.toArray⟩] w (RetRow3 w (phr s s.length 0)) := by
  go_enter Tryd.func18, Tryd.ntmps18
  go_wp2_with fail
  go_loopw [3, 4] (fun v x wr => ∃ (A : Option Addr) (n c : Nat) (ps : List Ph) (q f : Nat), v = .slice A n c ∧ x = .int .i64 q ∧ q ≤ s.length ∧ s.length ≤ q + f ∧ n ≤ q ∧ Row3 wr w.heap.size A n c ps ∧ ps ++ phr s f q = phr s s.length 0 ∧ Below w.heap.size w wr) (fun _ x _ => s.length - (intOf x).toNat)
  case atStart => exact ⟨_, 0, 0, [], 0, s.length, rfl, rfl, Nat.zero_le _, by omega, Nat.le_refl _, Row3.nil_ w, rfl, (Below.refl _ _).alloc (Nat.le_refl _) _⟩
  case round =>
    obtain ⟨A, n, c, ps, q, f, rfl, rfl, hq, hf, hnq, hrow, hps, hbw⟩ := hrel
    have Hps := Lib.hid hps
    have hwsz := hbw.size
    clear hps
    by_cases hlt : q < s.length
    · go_wp2_with fail
      refine (specLongest_any s q _ hs hlt).mono ?_
      rintro e w2 ⟨rfl, m, rfl⟩
      obtain ⟨fr, hfr⟩ : ∃ fr, fr = (lng s q q).1 := ⟨_, rfl⟩
      obtain ⟨sz, hsz⟩ : ∃ sz, sz = (lng s q q).2 := ⟨_, rfl⟩
      have hszl : q + sz ≤ s.length := by have := lng_le s q (by omega) q; omega
      rw [← hfr, ← hsz]
      obtain ⟨f', rfl⟩ : ∃ f', f = f' + 1 := ⟨f - 1, by omega⟩
      have Hst := Lib.hid (show phr s (f' + 1) q = if 0 < sz then (fr, (sz : Int), []) :: phr s f' (q + sz) else (-1, 1, (s.drop q).take 1) :: phr s f' (q + 1) by rw [phr, if_pos hlt, hfr, hsz])
      clear hfr hsz
      have hbw' : Below w.heap.size w (wr.drewN m) := bel_drewN hbw m
      by_cases hz : 0 < sz
      · have hz' : ((sz : Int) == 0) = false := by simp; omega
        go_wp2_with (at_builtin; refine wpList_app3 _ rfl _ _ 24 rfl Tryd.underlying24 w.heap.size _ _ _ ps rfl (hrow.al1 _ _) _ (fr, (sz : Int), []) rfl [.int .i64 fr, .int .i64 sz, .string ⟨#[]⟩] rfl (cells_new _ _ [.int .i64 fr, .int .i64 sz, .string ⟨#[]⟩] _ (by simp)) (by omega) (by simp; omega) ?_; intro A2 c2 w3 hrow3 hgrow3)
        go_roundw
        case rel => exact ⟨A2, n + 1, c2, ps ++ [(fr, (sz : Int), [])], q + sz, f', rfl, by go_num, by omega, by omega, by omega, hrow3, by rw [← Hps.out, Hst.out, if_pos hz]; simp, (hrow.al1 _ _).grown (hbw'.alloc hwsz _) hgrow3 (Nat.le_refl _) (by simp; omega)⟩
        case measure => simp [intOf]; omega
      · have hz0 : sz = 0 := by omega
        subst hz0
        go_wp2_with (at_builtin; refine wpList_app3 _ rfl _ _ 24 rfl Tryd.underlying24 w.heap.size _ _ _ ps rfl (hrow.al1 _ _) _ (-1, 1, (s.drop q).take 1) rfl [.int .i64 (-1), .int .i64 1, .string ⟨(List.take 1 (List.drop q s)).toArray⟩] rfl (cells_new _ _ [.int .i64 (-1), .int .i64 1, .string ⟨(List.take 1 (List.drop q s)).toArray⟩] _ (by simp)) (by omega) (by simp; omega) ?_; intro A2 c2 w3 hrow3 hgrow3)
        go_roundw
        case rel => exact ⟨A2, n + 1, c2, ps ++ [(-1, 1, (s.drop q).take 1)], q + 1, f', rfl, by go_num, by omega, by omega, by omega, hrow3, by rw [← Hps.out, Hst.out, if_neg hz]; simp, (hrow.al1 _ _).grown (hbw'.alloc hwsz _) hgrow3 (Nat.le_refl _) (by simp; omega)⟩
        case measure => simp [intOf]; omega
    · have hend : ps = phr s s.length 0 := by
        rw [← Hps.out]
        cases f with
        | zero => simp [phr]
        | succ f => rw [phr, if_neg hlt]; simp
      have Hend := Lib.hid hend
      clear hend
      go_wp2_with fail
      go_ret
      exact ⟨A, n, c, rfl, by rw [← Hend.out]; exact hrow, hbw⟩
set_option maxHeartbeats 400000 in
theorem specPhrasesOf_row (s : List UInt8) (w : World) (hs : s.length ≤ 1000) :
    Calls Tryd.prog 8 #[.string ⟨s.toArray⟩] w (RetRow3 w (PO s)) := by
  cases hv : vt s with
  | true =>
    have Hv := Lib.hid (show PO s = phr s s.length 0 by unfold PO; rw [hv]; rfl)
    have HV := Lib.hid hv
    clear hv
    go_enter Tryd.func8, Tryd.ntmps8
    go_wp2_with fail
    refine (validText_any _ _ (by omega)).mono ?_
    rintro e w1 ⟨rfl, rfl⟩
    rw [HV.out]
    go_wp2_with fail
    refine (specPhrases_row s _ hs).mono ?_
    rintro e w2 ⟨A, n, c, rfl, hr, hb2⟩
    go_wp2_with fail
    go_ret
    exact ⟨A, n, c, rfl, by rw [Hv.out]; exact hr, hb2⟩
  | false =>
    have Hv := Lib.hid (show PO s = [] by unfold PO; rw [hv]; rfl)
    have HV := Lib.hid hv
    clear hv
    go_enter Tryd.func8, Tryd.ntmps8
    go_wp2_with fail
    refine (validText_any _ _ (by omega)).mono ?_
    rintro e w1 ⟨rfl, rfl⟩
    rw [HV.out]
    go_wp2_with fail
    go_ret
    rw [Hv.out]
    exact ⟨none, 0, 0, rfl, World.ownsRow_nil _ _ _ _, Below.refl _ _⟩
theorem specPhrasesOf_any (s : List UInt8) (w : World) (hs : s.length ≤ 1000) :
    Calls Tryd.prog 8 #[.string ⟨s.toArray⟩] w (RetPh w (PO s)) := (specPhrasesOf_row s w hs).mono fun _ _ h => h.ph
theorem take_eq_succ' {α : Type} {us bs : List α} {k : Nat} {x : α} (hx : us[k]? = some x) (hy : bs[k]? = some x) (h : us.take k = bs.take k) : us.take (k + 1) = bs.take (k + 1) := by
  obtain ⟨h1, rfl⟩ := List.getElem?_eq_some_iff.1 hx
  obtain ⟨h2, h3⟩ := List.getElem?_eq_some_iff.1 hy
  rw [List.take_succ_eq_append_getElem h1, List.take_succ_eq_append_getElem h2, h, h3]
set_option maxHeartbeats 800000 in
/-- Equal phrases: the law asks it of one list alone. -/
theorem equalPhrases_any (A : Option Addr) (n c : Nat) (A2 : Option Addr) (c2 : Nat) (us : List Ph) (w : World) (B : Nat) (hr : Rd3 w B A n c us) (hr2 : Rd3 w B A2 n c2 us) :
    Calls Tryd.prog 7 #[.slice A n c, .slice A2 n c2] w fun e w' => e = .returned (.bool true) ∧ Quiet w w' := by
  have hm := hr.2.2.1
  have hnc := hr.2.1
  have hm2 := hr2.2.2.1
  have hnc2 := hr2.2.1
  unfold maxLen at hm hm2
  have hnn : ((n : Int) != (n : Int)) = false := by simp
  go_enter Tryd.func7, Tryd.ntmps7
  go_wp2
  go_loopw [5] (fun i wr => ∃ k : Nat, k ≤ n ∧ i = .int .i64 k ∧ Quiet w wr) (fun i _ => n - (intOf i).toNat)
  case atStart => exact ⟨0, Nat.zero_le _, rfl, Quiet.refl _⟩
  case round =>
    obtain ⟨k, hk, rfl, hq⟩ := hrel
    by_cases hlt : k < n
    · obtain ⟨b, o, f, z, l, rfl, hb, hx, h1, h2, h3⟩ := (hr.quiet hq).at_ hlt
      obtain ⟨b2, o2, f2, z2, l2, rfl, hb2, hy, k1, k2, k3⟩ := (hr2.quiet hq).at_ hlt
      rw [hx] at hy
      injection hy with hy
      injection hy with e1 e2
      injection e2 with e2 e3
      subst e1 e2 e3
      clear hx
      have hlt' : (k : Int) < (n : Int) := by omega
      go_wp2_with fail
      go_quiet (fail)
      go_wp2_with fail
      go_roundw
      case rel => exact ⟨k + 1, by omega, by go_num, hq.drewN _⟩
      case measure => simp [intOf]; omega
    · go_wp2
      go_ret
      exact ⟨rfl, hq⟩
end Go.Proofs.YteldklkfedeleaaDoor
