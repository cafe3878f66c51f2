/-
  A text turned in one place; what is drawn for IsSuper.
-/
import Derived.Test.YtfppbfhlmbakoaaLawShort
import Derived.Deep.RegionHeld3
namespace Go.Proofs.Ytfppbfhlmbakoaa
open Go.RowKit
set_option linter.unusedVariables false
set_option linter.unusedSimpArgs false

def Mutated (B R : Nat) (zs : List Int) (w : World) (most : Nat) (e : Ending) (w' : World) : Prop :=
  ∃ (l : List UInt8) (q : Nat), e = .returned (.string ⟨l.toArray⟩) ∧ l.length ≤ most ∧ Rdr w' B R zs q ∧ w.grownBy w' (some R)
set_option maxHeartbeats 1600000 in
theorem mutate_any (B R : Nat) (zs : List Int) (p : Nat) (s : List UInt8) (w : World) (hR : Rdr w B R zs p) (hp : p + 100 ≤ 1099511627776) (hs : s.length ≤ 1000) :
    Calls Try.prog 54 #[.pointer (some ⟨R, 0, none⟩), .string ⟨s.toArray⟩] w (Mutated B R zs w (s.length + 1)) := by
  have hlt := hR.lt
  have hP := pick_any B R zs p ((s.length : Int) + 1) w hR (by omega) (by omega) (by omega)
  go_enter Try.func54, Try.ntmps54
  go_wp2_with fail
  refine hP.mono ?_
  rintro e w1 ⟨k, rfl, hk, _, hR1, hg1⟩
  have hk' : k < s.length + 1 := by have := hk (by omega); omega
  clear hk hP
  go_wp2_with fail
  refine (pick_any B R zs (p + 1) 5 _ hR1 (by omega) (by omega) (by omega)).mono ?_
  rintro e w2 ⟨v, rfl, hv, _, hR2, hg2⟩
  have hv' : v < 5 := by have := hv (by omega); omega
  have hG2 := grown_trans hg1 hg2
  clear hv hg1 hg2 hR1
  by_cases h01 : v = 0 ∨ v = 1
  · by_cases hks : k < s.length
    · have hks' : (k : Int) < (s.length : Int) := by omega
      have k0 : (0 : Int) ≤ (k : Int) := by omega
      have hadd1 : ∀ (W : World) (x : List UInt8), x.length = 1 → (Op.stringOp .add ⟨(List.take k s).toArray⟩ ⟨x.toArray⟩).run Try.prog W = .ok (.string ⟨(List.take k s ++ x).toArray⟩) W := fun W x hx => by
        have h := run_string_add_sum (P := Try.prog) W ⟨(List.take k s).toArray⟩ ⟨x.toArray⟩ (by show (List.take k s).length + x.length ≤ _; rw [List.length_take]; omega)
        rw [ba_append] at h
        exact h
      have k1 : (k : Int) ≤ (s.length : Int) := by omega
      have hw : IntKind.i64.wrap ((k : Int) + 1) = (k : Int) + 1 := by rw [IntKind.wrap_i64]; omega
      have kk0 : (0 : Int) ≤ (k : Int) + 1 := by omega
      have kk1 : (k : Int) + 1 ≤ (s.length : Int) := by omega
      have hn : ((k : Int) + 1).toNat = k + 1 := by omega
      have hadd2 : ∀ (W : World) (x : List UInt8), x.length = 1 → (Op.stringOp .add ⟨(List.take k s ++ x).toArray⟩ ⟨(List.take (s.length - (k + 1)) (List.drop (k + 1) s)).toArray⟩).run Try.prog W = .ok (.string ⟨(List.take k s ++ x ++ List.take (s.length - (k + 1)) (List.drop (k + 1) s)).toArray⟩) W := fun W x hx => by
        have h := run_string_add_sum (P := Try.prog) W ⟨(List.take k s ++ x).toArray⟩ ⟨(List.take (s.length - (k + 1)) (List.drop (k + 1) s)).toArray⟩ (by show (List.take k s ++ x).length + (List.take (s.length - (k + 1)) (List.drop (k + 1) s)).length ≤ _; rw [List.length_append, List.length_take, List.length_take, List.length_drop]; omega)
        rw [ba_append] at h
        exact h
      have hne7 : ∀ (j : Nat) (b o : Nat), (some ⟨w2.heap.size + j, 0, none⟩ : Option Addr) = some ⟨b, o, none⟩ → b ≠ R := fun j b o e => by
        injection e with e
        injection e with e1 e2
        have := hR2.lt
        omega
      have hone : ∀ x : List UInt8, x ∈ ([[97], [98], [99], [101], [50], [44], [32]] : List (List UInt8)) → x.length = 1 := fun x hx => by
        simp at hx
        rcases hx with rfl | rfl | rfl | rfl | rfl | rfl | rfl <;> rfl
      have hgl : w2.grownBy (w2.alloc (.cells #[.string ⟨#[97]⟩, .string ⟨#[98]⟩, .string ⟨#[99]⟩, .string ⟨#[101]⟩, .string ⟨#[50]⟩, .string ⟨#[44]⟩, .string ⟨#[32]⟩] 9)).drew (some R) := grown_drewN (grown_alloc (grown_refl w2 _) _) 1
      have hOf := of_any B R zs (p + 1 + 1) (some ⟨w2.heap.size, 0, none⟩) 7 7 [[97], [98], [99], [101], [50], [44], [32]] (w2.alloc (.cells #[.string ⟨#[97]⟩, .string ⟨#[98]⟩, .string ⟨#[99]⟩, .string ⟨#[101]⟩, .string ⟨#[50]⟩, .string ⟨#[44]⟩, .string ⟨#[32]⟩] 9)).drew
        (show Rdr (w2.alloc _) B R zs _ from hR2.alloc _) (by omega) (show Rd (w2.alloc _) _ _ 7 7 _ from rd_lit w2 #[.string ⟨#[97]⟩, .string ⟨#[98]⟩, .string ⟨#[99]⟩, .string ⟨#[101]⟩, .string ⟨#[50]⟩, .string ⟨#[44]⟩, .string ⟨#[32]⟩] _ 7 _ rfl rfl (by omega)) (by omega) (by omega) (hne7 0)
      rcases h01 with rfl | rfl
      · go_wp2_with fail
        go_region_held3 (fun w' => True) (trivial)
          (first
          | (go_at_call 83
             refine hOf.mono ?_
             rintro e w4 ⟨x, hx, rfl, hR4, hg4⟩
             have hx1 := hone x hx
             clear hx))
        have hG4 := grown_trans hG2 (grown_trans hgl hg4)
        go_wp2_with fail
        go_ret
        exact ⟨_, _, rfl, by rw [List.length_append, List.length_append, List.length_take, List.length_take, List.length_drop]; omega, hR4, hG4⟩
      · go_wp2_with fail
        go_region_held3 (fun w' => True) (trivial)
          (first
          | (go_at_call 83
             refine hOf.mono ?_
             rintro e w4 ⟨x, hx, rfl, hR4, hg4⟩
             have hx1 := hone x hx
             clear hx))
        have hG4 := grown_trans hG2 (grown_trans hgl hg4)
        go_wp2_with fail
        go_ret
        exact ⟨_, _, rfl, by rw [List.length_append, List.length_append, List.length_take, List.length_take, List.length_drop]; omega, hR4, hG4⟩
    · have hks' : ¬ (k : Int) < (s.length : Int) := by omega
      rcases h01 with rfl | rfl
      · go_wp2_with fail
        go_ret
        exact ⟨s, _, rfl, by omega, hR2, hG2⟩
      · go_wp2_with fail
        go_ret
        exact ⟨s, _, rfl, by omega, hR2, hG2⟩
  · by_cases h2 : v = 2
    · subst h2
      have k0 : (0 : Int) ≤ (k : Int) := by omega
      have k1 : (k : Int) ≤ (s.length : Int) := by omega
      go_wp2_with fail
      go_ret
      exact ⟨s.take k, _, rfl, by rw [List.length_take]; omega, hR2, hG2⟩
    · by_cases h3 : v = 3
      · subst h3
        go_wp2_with fail
        refine (of_any B R zs (p + 1 + 1) _ 5 5 [[97], [100], [51], [44], [32]] _ (hR2.alloc _) (by omega) (rd_lit _ _ _ 5 _ rfl rfl (by omega)) (by omega) (by omega) (fun b o e => by injection e with e; injection e with e1 e2; have := hR2.lt; omega)).mono ?_
        rintro e w4 ⟨x, hx, rfl, hR4, hg4⟩
        have hx1 : x.length = 1 := by
          simp at hx
          rcases hx with rfl | rfl | rfl | rfl | rfl <;> rfl
        have hG4 := grown_trans hG2 (grown_trans (grown_alloc (grown_refl w2 _) _) hg4)
        clear hx hg4
        go_wp2_with fail
        go_ret
        exact ⟨s ++ x, _, rfl, by simp; omega, hR4, hG4⟩
      · have h4 : v = 4 := by omega
        subst h4
        go_wp2_with fail
        go_ret
        exact ⟨s, _, rfl, by omega, hR2, hG2⟩
end Go.Proofs.Ytfppbfhlmbakoaa
