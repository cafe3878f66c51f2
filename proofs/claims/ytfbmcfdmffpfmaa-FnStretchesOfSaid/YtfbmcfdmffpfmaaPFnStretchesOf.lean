/-
  Stretches have no word twice. Conditions: none.
-/
import Derived.Test.YtfbmcfdmffpfmaaFrame
import Derived.Test.YtfbmcfdmffpfmaaHead
import Derived.Test.YtfbmcfdmffpfmaaLawStrM
namespace Go.Proofs.Ytfbmcfdmffpfmaa.fnStretchesOf
open Go.ChangeShapes Go.WideShapes Go.ChangeAt Go.RowKit
set_option linter.unusedVariables false
set_option linter.unusedSimpArgs false

set_option maxRecDepth 100000 in
theorem lifted (os : Os) (started : os.Started) (H : Type) (enc : TypeId × Value → H) :
    ReturnsInHanded {} Try.checked os 18 .any (Rows.fnStretchesOfSpec.pre6 enc Try.prog Try.f18 Rows.fnStretchesOfRow.domain false) (Rows.fnStretchesOfSpec.post enc Try.prog Try.f18 false true false false) := by
  refine returnsInHanded_of_change_shaped (C := Try.checked) own started (by kernel_rfl) Try.func18
    (ChangeSpec.witness6 (enc := enc) (C := Try.checked) false ⟨#[], #[.slice none 0 0], []⟩ 8 (by kernel_rfl) (by kernel_rfl) (by kernel_rfl) (by kernel_rfl)) ?_
  intro W base args ds gs before hval0 hW hcnd _ hsh _
  have hval : ∀ (j : Nat) t v, Try.f18.params[j]? = some t → args[j]? = some v → Value.okWide Try.prog W .any base t v := hval0
  have hW' := hW
  obtain ⟨p, q, hA0, hV, rfl, hfz, hnd⟩ := hW
  have hA : DataW.TrodAll enc Try.prog W 0 (fun _ => true) true Try.f18.params.toList args.toList ds p := hA0
  rw [Try.params18] at hA hval
  obtain ⟨v0, vs0, d0, ds0, p0, q0, hargs, rfl, rfl, h0, r0⟩ := trodAll_cons hA
  obtain ⟨rfl, rfl, rfl⟩ := trodAll_nil r0
  obtain rfl : args = #[v0] := by cases args; simp_all
  obtain ⟨rfl, rfl⟩ := trodVars_none hV
  have k0 := h0
  have lt0 : ∀ x ∈ p0, x.block < W.heap.size := by obtain ⟨m, hm⟩ := k0; exact DataW.trod_lt m _ _ _ hm
  obtain ⟨a0, len0, cap0, zs0, rfl, hr0, hz0⟩ := bytes_in (hval 0 29 v0 rfl rfl) h0
  clear hA0 hval0
  have hvr : Vr W := vr_of_shaped W hsh
  refine (walkStretchesOf a0 len0 cap0 zs0 W hr0 hz0 hvr).mono fun e W' ⟨he, bel⟩ => ?_
  subst he
  exact ⟨_, rfl, _, _, _, [], _, [], hW', trodAll_mk1 (shut_bool Try.underlying4 _), (trodAll_cons_mk (Below.trod laidOut (by kernel_rfl) (of_decide_eq_true (by kernel_rfl)) k0 bel lt0) trodAll_mk0), rfl, bel.frame _, fun h => by cases h⟩

set_option maxRecDepth 100000 in
theorem facts : joinedFacts Try.prog 18 Try.f18 Rows.fnStretchesOfSpec Rows.fnStretchesOfRow = true := by
  unfold joinedFacts
  repeat' (with_reducible refine Bool.and_eq_true_iff.2 ⟨?_, ?_⟩)
  all_goals first | with_reducible exact mayEnters | (rw [liftsNot]; kernel_rfl) | (rw [makes]; kernel_rfl) | as_aux_lemma => kernel_rfl
theorem named : Try.prog.funcNamed Rows.fnStretchesOfRow.func = some 18 := by kernel_rfl
set_option maxHeartbeats 4000000 in
theorem over : Rows.fnStretchesOfRow.holds Try.pinned (OpenSpec.ofChange Rows.fnStretchesOfSpec) :=
  OpenClaim.holds_of_wide 18 Try.f18 rfl rfl rfl rfl rfl rfl rfl ⟨rfl, rfl, rfl, rfl, rfl⟩ rfl rfl rfl rfl rfl named Try.func18 facts
    (by as_aux_lemma => exact of_decide_eq_true (by kernel_rfl)) (by as_aux_lemma => unfold Func.isWrapper; first | (rw [if_pos (by decide +kernel)]; kernel_rfl) | (rw [if_neg (by decide +kernel)]; exact ⟨rfl, rfl⟩))
    (fun os started H enc _ => lifted os started H enc)

theorem proved : Rows.FnStretchesOfSaid := over
end Go.Proofs.Ytfbmcfdmffpfmaa.fnStretchesOf
