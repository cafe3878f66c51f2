/-
  Plain laws of the search: turned round, and with the points in another order, it finds the same.
-/
import Derived.Test.YtopmifidhabobaaPla
namespace Go.Proofs.Ytopmifidhabobaa
set_option linter.unusedVariables false
set_option linter.unusedSimpArgs false

theorem wo_two (a b : Int) (l L : List Int) : wo L (a :: b :: l) = if a ∈ L ∧ b ∈ L.erase a then wo ((L.erase a).erase b) l else none := by
  rw [wo]
  by_cases ha : a ∈ L
  · rw [if_pos ha, wo]
    by_cases hb : b ∈ L.erase a
    · rw [if_pos hb, if_pos ⟨ha, hb⟩]
    · rw [if_neg hb, if_neg (fun h => hb h.2)]
  · rw [if_neg ha, if_neg (fun h => ha h.1)]
theorem wo_perm {gs hs : List Int} (h : gs.Perm hs) : ∀ L, wo L gs = wo L hs := by
  induction h with
  | nil => intro L; rfl
  | cons a h ih =>
    intro L
    rw [wo, wo]
    split
    · exact ih _
    · rfl
  | swap a b l =>
    intro L
    by_cases hab : a = b
    · rw [hab]
    · rw [wo_two, wo_two, List.erase_comm]
      have e : (b ∈ L ∧ a ∈ L.erase b) ↔ (a ∈ L ∧ b ∈ L.erase a) := by
        rw [List.mem_erase_of_ne hab, List.mem_erase_of_ne (fun e => hab e.symm)]
        exact And.comm
      by_cases h : a ∈ L ∧ b ∈ L.erase a
      · rw [if_pos h, if_pos (e.2 h)]
      · rw [if_neg h, if_neg (fun h2 => h (e.1 h2))]
  | trans _ _ ih1 ih2 => intro L; rw [ih1, ih2]
theorem lvS_perm (f : Nat) (top : Int) : ∀ {pts qts : List Int} (left : List Int), pts.Perm qts → lvS f top pts left = lvS f top qts left := by
  induction f with
  | zero => intro pts qts left h; rw [lvS, lvS, srt_of_perm h]
  | succ f ih =>
    intro pts qts left h
    have key : ∀ x, tryS (lvS f top) pts left x = tryS (lvS f top) qts left x := by
      intro x
      unfold tryS
      rw [wo_perm (gaps_perm h)]
      split
      · rfl
      · exact ih _ (h.append_right [x])
    rw [lvS, lvS, srt_of_perm h, key, key]
/-- Points seen from the other end. -/
def rfl_ (top : Int) (l : List Int) : List Int := l.map fun p => top - p
theorem gaps_rfl (top x : Int) (pts : List Int) : gaps (top - x) (rfl_ top pts) = gaps x pts := by
  unfold gaps rfl_
  rw [List.map_map]
  refine List.map_congr_left fun p _ => ?_
  show max (top - x - (top - p)) (top - p - (top - x)) = max (x - p) (p - x)
  omega
theorem lvS_rfl (f : Nat) (top : Int) : ∀ (pts left y : List Int), y ∈ lvS f top pts left → srt (rfl_ top y) ∈ lvS f top (rfl_ top pts) left := by
  have hend : ∀ pts : List Int, srt (rfl_ top (srt pts)) = srt (rfl_ top pts) := fun pts => srt_of_perm ((srt_perm pts).map _)
  induction f with
  | zero =>
    intro pts left y hy
    rw [lvS] at hy ⊢
    split at hy
    · next h =>
      rw [List.mem_singleton] at hy
      rw [if_pos h, hy, hend]
      simp
    · cases hy
  | succ f ih =>
    intro pts left y hy
    have key : ∀ x, y ∈ tryS (lvS f top) pts left x → srt (rfl_ top y) ∈ tryS (lvS f top) (rfl_ top pts) left (top - x) := by
      intro x hx
      unfold tryS at hx ⊢
      rw [gaps_rfl]
      split at hx
      · cases hx
      · next r hw =>
        have h := ih _ _ _ hx
        have e : rfl_ top (pts ++ [x]) = rfl_ top pts ++ [top - x] := by unfold rfl_; rw [List.map_append]; rfl
        rw [e] at h
        exact h
    rw [lvS] at hy ⊢
    split at hy
    · next h =>
      rw [List.mem_singleton] at hy
      rw [if_pos h, hy, hend]
      simp
    · next h =>
      rw [if_neg h]
      rw [List.mem_append] at hy ⊢
      rcases hy with hy | hy
      · have h1 := key _ hy
        split
        · next he => rw [← he] at h1; exact .inl h1
        · exact .inr h1
      · split at hy
        · cases hy
        · next he =>
          have h1 := key _ hy
          rw [show top - (top - left.getLastD 0) = left.getLastD 0 by omega] at h1
          exact .inl h1
end Go.Proofs.Ytopmifidhabobaa
