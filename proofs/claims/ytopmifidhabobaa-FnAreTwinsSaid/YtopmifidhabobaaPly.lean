/-
  Points with distances: the reference.
-/
import Derived.Test.YtopmifidhabobaaPlx
namespace Go.Proofs.Ytopmifidhabobaa
open Go.RowKit Go.Sort
set_option linter.unusedVariables false
set_option linter.unusedSimpArgs false

/-- Rows of rows returned. -/
def RetRR (w : World) (L : List (List Int)) (e : Ending) (w' : World) : Prop :=
  ∃ (A : Option Addr) (n c : Nat) (P : List SP), e = .returned (.slice A n c) ∧ Own w' w.heap.size 22 A n c (P.map V) ∧ OwnP w' w.heap.size P ∧ P.map Prod.snd = L ∧ Below w.heap.size w w'
set_option maxRecDepth 8000 in
set_option maxHeartbeats 3200000 in
theorem specPlacesFor_any (A : Option Addr) (n c : Nat) (zs : List Int) (w : World) (hr : Rd w w.heap.size A n c (zs.map I)) (hn20 : n ≤ 1048576) :
    Calls Try.prog 15 #[.slice A n c] w (RetRR w (PL zs)) := by
  have hl := hr.ilen
  have Hl := Lib.hid hl
  have hm := hr.2.2.1
  have hnc := hr.2.1
  unfold maxLen at hm
  have hV := validDistances_any A n c zs w _ hr
  cases hv : vd zs with
  | false =>
    have Hv := Lib.hid (PL_no hv)
    rw [hv] at hV
    clear hv
    go_enter Try.func15, Try.ntmps15
    go_wp2_with fail
    refine hV.mono ?_
    rintro e w2 ⟨rfl, hq⟩
    go_wp2_with fail
    go_ret
    rw [Hv.out]
    exact ⟨none, 0, 0, [], rfl, ⟨rfl, Nat.le_refl _, Nat.zero_le _, fun h => absurd h (Nat.lt_irrefl 0)⟩, fun p hp => absurd hp List.not_mem_nil, rfl, hq.bel _⟩
  | true =>
    rw [hv] at hV
    rcases Nat.eq_zero_or_pos n with h0 | h0
    · subst h0
      have Hv := Lib.hid (show PL zs = [[0]] by unfold PL; rw [if_neg (by rw [hv]; simp), if_pos (List.eq_nil_of_length_eq_zero hl)])
      clear hv
      go_enter Try.func15, Try.ntmps15
      go_wp2_with fail
      refine hV.mono ?_
      rintro e w2 ⟨rfl, hq⟩
      have hs2 : w.heap.size ≤ w2.heap.size := by have := hq.size; omega
      go_wp2_with fail
      go_ret
      rw [Hv.out]
      refine ⟨_, 1, 1, [((some ⟨w2.heap.size, 0, none⟩, 1, 1), [0])], rfl, (Row.of_block #[.slice (some ⟨w2.heap.size, 0, none⟩) 1 1] 1 ?_ (by omega) rfl (by omega)).own, ?_, rfl, ?_⟩
      · rw [heap_al, if_pos (by simp)]
      · intro p hp
        rw [List.mem_singleton] at hp
        subst hp
        exact (Row.of_block (g := w2.heap.size) #[.int .i64 0] 1 (heap_al1 w2 _ _) (by omega) rfl (by omega)).own
      · exact kp_alloc _ (kp_alloc _ (hq.bel _) (Nat.le_refl _)) (Nat.le_refl _)
    · obtain ⟨m, rfl⟩ : ∃ m, n = m + 1 := ⟨n - 1, by omega⟩
      have hne : zs ≠ [] := fun e => by rw [e] at hl; simp at hl
      obtain ⟨b, o, x, rfl, hb, hx, hcx⟩ := hr.int (show m < m + 1 by omega)
      have htop : topOf zs = x := last_at hl hx
      have hx60 := vd_in hv x (by rw [← htop]; exact last_mem hne)
      have hm15 := vd_len hv
      have Hgot := Lib.hid (show Got x [0, x] zs.dropLast by rw [← htop]; exact got0 hv hne)
      have Hpl := Lib.hid (show (lvS m x [0, x] zs.dropLast).foldl insU [] = PL zs by
        unfold PL
        rw [if_neg (by rw [hv]; simp), if_neg hne, hl, htop]
        rfl)
      have Hdl := Lib.hid (show (zs.map I).take m = zs.dropLast.map I by rw [← List.map_take, List.dropLast_eq_take, hl]; rfl)
      have h2m : 2 ^ m ≤ 16384 := by
        calc 2 ^ m ≤ 2 ^ 14 := Nat.pow_le_pow_right (by omega) (by omega)
          _ = 16384 := by decide
      have hdl : zs.dropLast.length = m := by rw [List.length_dropLast, hl]; rfl
      have k0 : (m : Int) < (m : Int) + 1 := by omega
      have k1 : (0 : Int) ≤ (m : Int) := by omega
      have k2 : (m : Int) ≤ (c : Int) := by omega
      have e1 : IntKind.i64.wrap ((m : Int) + 1 - 1) = (m : Int) := by rw [IntKind.wrap_i64]; omega
      have e2 : ((m : Int) + 1 - 1) = (m : Int) := by omega
      have e3 : IntKind.i64.wrap (m : Int) = (m : Int) := by rw [IntKind.wrap_i64]; omega
      have hz2 : (((m : Int) + 1) == 0) = false := by simpa using (by omega : ¬ (m : Int) + 1 = 0)
      clear hv hx htop
      go_enter Try.func15, Try.ntmps15
      go_wp2_with fail
      refine hV.mono ?_
      rintro e w2 ⟨rfl, hq⟩
      have hs2 : w.heap.size ≤ w2.heap.size := by have := hq.size; omega
      have hcx2 : w2.cell? ⟨b, o + m, none⟩ = some (.int .i64 x) := by obtain ⟨q, rfl⟩ := hq; exact hcx
      have hW : ∀ W, W = (w2.alloc (.cells #[.int .i64 0, .int .i64 x] 3)).alloc (.cells #[] 22) → Calls Try.prog 48 #[.slice (some ⟨w2.heap.size, 0, none⟩) 2 2, .slice (some ⟨b, o, none⟩) m c, .int .i64 x, .slice (some ⟨w2.heap.size + 1, 0, none⟩) 0 0] W (PF W w.heap.size (PL zs)) ∧ Below w.heap.size w W := by
        intro W hW
        have hbW : Below w.heap.size w W := by rw [hW]; exact kp_alloc _ (kp_alloc _ (hq.bel _) (Nat.le_refl _)) (Nat.le_refl _)
        have hr0 : Rd W W.heap.size (some ⟨b, o, none⟩) m c (zs.dropLast.map I) := by
          rw [← Hdl.out]
          exact ((hr.below hbW).more hbW.size).take_ (by omega)
        refine ⟨?_, hbW⟩
        have h := place_any m (some ⟨w2.heap.size, 0, none⟩) 2 2 [0, x] (some ⟨b, o, none⟩) m c zs.dropLast x (w2.heap.size + 1) 0 0 [] w.heap.size W ?_ hr0 ?_ (fun p hp => absurd hp List.not_mem_nil) List.Pairwise.nil Hgot.out hx60.2 (by rw [hdl]; simp; omega) (by omega) (by simp; omega) hbW.size
        · rw [List.map_nil, Hpl.out] at h
          exact h
        · have h1 : Row W w2.heap.size 3 (some ⟨w2.heap.size, 0, none⟩) 2 2 [.int .i64 0, .int .i64 x] := by rw [hW]; exact Row.of_block #[.int .i64 0, .int .i64 x] 2 (heap_al1 w2 _ _) (Nat.le_refl _) rfl (by omega)
          exact h1.rd
        · rw [hW]; exact Row.of_block #[] 0 (heap_al2 w2 _ _) (by omega) rfl (Nat.zero_le _)
      clear hV hr hcx hdl hx60 h2m
      go_wp2_with fail
      obtain ⟨hC, hbW⟩ := hW _ rfl
      refine hC.mono ?_
      rintro e w3 ⟨g, n3, c3, P, rfl, hrow, hin, hP, hb3⟩
      clear hC hW
      go_wp2_with fail
      go_ret
      exact ⟨_, n3, c3, P, rfl, hrow.own, hin, hP, hbW.trans (hb3.mono hbW.size)⟩
end Go.Proofs.Ytopmifidhabobaa
