/-
  The reference's ShortestSuper.
-/
import Derived.Test.YtfppbfhlmbakoaaShort2
namespace Go.Proofs.Ytfppbfhlmbakoaa
open Go.RowKit
set_option linter.unusedVariables false
set_option linter.unusedSimpArgs false

set_option maxHeartbeats 1600000 in
theorem specShortest_any (A : Option Addr) (n c : Nat) (ws : List (List UInt8)) (w : World) (hr : Rd w w.heap.size A n c (ws.map S)) (hl : Len47 ws) (hv : vw ws = true) :
    Calls Try.prog 40 #[.slice A n c] w (RetVal w (.string ⟨(shT (red ws)).toArray⟩)) := by
  have Hn := Lib.hid hr.slen
  have h6 := vw_len hv
  rw [Hn.out] at h6
  have hB : ∀ i, (wd (red ws) i).length ≤ 6 := fun i => by
    unfold wd
    rw [List.getD_eq_getElem?_getD]
    cases h : (red ws)[i]? with
    | none => simp
    | some y => exact (wOk_len (vw_all' hv y (red_mem (List.mem_of_getElem? h)))).2
  clear hv
  go_enter Try.func40, Try.ntmps40
  go_wp2_with fail
  refine (reduce_any A n c ws _ hr hl (by omega)).mono ?_
  rintro e w2 ⟨A2, m, c2, rfl, ho, hb⟩
  have hm : (red ws).length = m := by have := ho.1; simpa using this
  have hm6 : m ≤ 6 := by rw [← hm]; have := redTo_le ws ws.length; unfold red; have := Hn.out; omega
  have hS := fun W h1 h2 => shortestFrom_any A2 m c2 (red ws) hB hm6 m [] w2.heap.size 0 0 W h1 h2 List.nodup_nil (fun j hj => by cases hj) (by simp)
  have Hm := Lib.hid (show shT (red ws) = shF (red ws) m m [] by rw [← hm]; rfl)
  clear hm
  go_wp2_with fail
  refine (hS _ ((ho.rd.alloc (Nat.le_refl _) _).more (by simp)) ⟨rfl, Nat.le_refl _, by unfold maxLen; omega, fun h => absurd h (by omega)⟩).mono ?_
  rintro e w3 ⟨rfl, hb3⟩
  go_wp2_with fail
  go_ret
  exact ⟨by rw [Hm.out]; rfl, (hb.alloc hb.size _).trans (hb3.mono (by have := hb.size; simp; omega))⟩
set_option maxHeartbeats 1600000 in
theorem specShortestSuper_any (A : Option Addr) (n c : Nat) (ws : List (List UInt8)) (w : World) (hr : Rd w w.heap.size A n c (ws.map S)) (hl : Len47 ws) :
    Calls Try.prog 19 #[.slice A n c] w (RetTwo w (SST ws) (vw ws)) := by
  cases hv : vw ws with
  | false =>
    have Hv := Lib.hid (show SST ws = [] by unfold SST; rw [hv]; rfl)
    have HV := Lib.hid hv
    clear hv
    go_enter Try.func19, Try.ntmps19
    go_wp2_with fail
    refine (validWords_any A n c ws w _ hr hl).mono ?_
    rintro e w1 ⟨rfl, rfl⟩
    rw [HV.out]
    go_wp2_with fail
    go_ret2
    rw [Hv.out]
    exact ⟨rfl, Below.refl _ _⟩
  | true =>
    have Hv := Lib.hid (show SST ws = shT (red ws) by unfold SST; rw [hv]; rfl)
    have hS := specShortest_any A n c ws w hr hl hv
    have HV := Lib.hid hv
    clear hv
    go_enter Try.func19, Try.ntmps19
    go_wp2_with fail
    refine (validWords_any A n c ws w _ hr hl).mono ?_
    rintro e w1 ⟨rfl, rfl⟩
    rw [HV.out]
    go_wp2_with fail
    refine hS.mono ?_
    rintro e w2 ⟨rfl, hb⟩
    go_wp2_with fail
    go_ret2
    rw [Hv.out]
    exact ⟨rfl, hb⟩
end Go.Proofs.Ytfppbfhlmbakoaa
