/-
  Points with distances: the small functions on the way.
-/
import Derived.Test.YtopmifidhabobaaPla
import Derived.Test.YtopmifidhabobaaSpl
import Derived.Test.YtopmifidhabobaaCut4
namespace Go.Proofs.Ytopmifidhabobaa
open Go.RowKit Go.Sort
set_option linter.unusedVariables false
set_option linter.unusedSimpArgs false

theorem erase_at : ∀ {L : List Int} {x : Int}, L.Pairwise (fun a b => a ≤ b) → x ∈ L → L.take (L.countP fun y => decide (y < x)) ++ L.drop ((L.countP fun y => decide (y < x)) + 1) = L.erase x := by
  intro L
  induction L with
  | nil => intro x _ h; cases h
  | cons a L ih =>
    intro x h hx
    obtain ⟨h1, h2⟩ := List.pairwise_cons.1 h
    by_cases ha : a = x
    · subst ha
      have h0 : (a :: L).countP (fun y => decide (y < a)) = 0 := by
        rw [List.countP_eq_zero]
        intro b hb
        rw [List.mem_cons] at hb
        rcases hb with rfl | hb
        · simp
        · have := h1 b hb; simp; omega
      rw [h0]
      simp
    · have hxL : x ∈ L := by
        rw [List.mem_cons] at hx
        rcases hx with rfl | hx
        · exact absurd rfl ha
        · exact hx
      have hax : a < x := by have := h1 x hxL; omega
      have h0 : (a :: L).countP (fun y => decide (y < x)) = L.countP (fun y => decide (y < x)) + 1 := by
        rw [List.countP_cons_of_pos (by simpa using hax)]
      rw [h0, List.take_succ_cons, List.drop_succ_cons, List.erase_cons_tail (by simpa using ha), List.cons_append, ih h2 hxL]
theorem count_lt {L : List Int} {x : Int} (hs : L.Pairwise (fun a b => a ≤ b)) (hx : x ∈ L) : (L.countP fun y => decide (y < x)) < L.length := by
  have h1 := congrArg List.length (erase_at hs hx)
  rw [List.length_erase_of_mem hx, List.length_append, List.length_take, List.length_drop] at h1
  have h2 := List.countP_le_length (p := fun y : Int => decide (y < x)) (l := L)
  have h3 := List.length_pos_of_mem hx
  rcases Nat.lt_or_ge (L.countP fun y => decide (y < x)) L.length with h | h
  · exact h
  · omega
theorem wo_app (a b L : List Int) : wo L (a ++ b) = (wo L a).bind fun r => wo r b := by
  induction a generalizing L with
  | nil => rfl
  | cons g a ih =>
    rw [List.cons_append, wo, wo]
    split
    · exact ih _
    · rfl
theorem wo_one (r : List Int) (x : Int) : wo r [x] = if x ∈ r then some (r.erase x) else none := by
  rw [wo]
  split <;> rfl
theorem DeleteI_any (N g n c i : Nat) (zs : List Int) (w : World) (h : Row w N 3 (some ⟨g, 0, none⟩) n c (zs.map I)) (hi : i < n) (hn : n ≤ 1000000) :
    Calls Try.prog 107 #[.slice (some ⟨g, 0, none⟩) n c, .int .i64 i, .int .i64 (i + 1 : Nat)] w fun e w' => e = .returned (.slice (some ⟨g, 0, none⟩) (n - 1) c) ∧ Row w' N 3 (some ⟨g, 0, none⟩) (n - 1) c ((zs.take i ++ zs.drop (i + 1)).map I) ∧ w.grownBy w' (some g) := by
  have hl := h.len
  simp at hl
  subst hl
  obtain ⟨g', cur, e, hB, hh, ht, hc, hm⟩ := Row.blk (g := 0) h (by omega)
  injection e with e
  injection e with e
  subst e
  have hm' := hm
  unfold maxLen at hm'
  refine (Try.slices_Delete_int g 0 c i (i + 1) zs w (holds_blk _ hh ht) hc (by omega) (by omega) (by omega)).mono ?_
  rintro e w' ⟨rfl, k, rfl⟩
  have e1 : zs.length - (i + 1 - i) = zs.length - 1 := by omega
  have e2 : i + 1 - i = 1 := by omega
  rw [e1, e2]
  have hp := row_put (Value.int .i64) (n := k) (os := #[]) h (by omega) (zs.take i ++ zs.drop (i + 1) ++ List.replicate 1 0) (m := zs.length - 1) (by simp; omega) (by simp; omega)
  rw [grow_none, List.take_left' (by simp; omega)] at hp
  have hg := grown_put (Value.int .i64) (w := w) (g := g) (n := k) (os := #[]) (zs.take i ++ zs.drop (i + 1) ++ List.replicate 1 0).toArray
  rw [grow_none] at hg
  exact ⟨rfl, hp, hg⟩
/-- What is handed back: the numbers without the others, if all were there. -/
def WoRet (w : World) (L gs : List Int) (e : Ending) (w' : World) : Prop :=
  ∃ (A' : Option Addr) (n' c' : Nat) (ok : Bool), e = .returned (.tuple #[.slice A' n' c', .bool ok]) ∧ Below w.heap.size w w' ∧ ((wo L gs = none ∧ ok = false) ∨ ∃ r, wo L gs = some r ∧ ok = true ∧ Row w' w.heap.size 3 A' n' c' (r.map I))
set_option maxRecDepth 8000 in
set_option maxHeartbeats 1600000 in
theorem without_any (A : Option Addr) (n c : Nat) (L : List Int) (A2 : Option Addr) (n2 c2 : Nat) (gs : List Int) (w : World) (hr : Rd w w.heap.size A n c (L.map I)) (hr2 : Rd w w.heap.size A2 n2 c2 (gs.map I)) (hs : L.Pairwise (fun a b => a ≤ b)) (hn1 : 1 ≤ n) (hn3 : n ≤ 1000) (hn4 : n2 ≤ 1000) :
    Calls Try.prog 87 #[.slice A n c, .slice A2 n2 c2] w (WoRet w L gs) := by
  have Hn2 := Lib.hid hr2.ilen
  have hm2 := hr2.2.2.1
  have hnc2 := hr2.2.1
  unfold maxLen at hm2
  have Hs := Lib.hid hs
  have hC := CloneI_any A n c L w _ hr (by omega)
  clear hs
  go_enter Try.func87, Try.ntmps87
  go_wp2_with fail
  refine hC.mono ?_
  rintro e w1 ⟨A1, c1, rfl, hrow1, hb1⟩
  obtain ⟨g, _, rfl, _⟩ := hrow1.blk (g := 0) (by omega)
  clear hC
  go_wp2_with fail
  go_loopw [6, 15] (fun v i wr => ∃ (k n' : Nat) (r : List Int), k ≤ n2 ∧ i = .int .i64 k ∧ v = .slice (some ⟨g, 0, none⟩) n' c1 ∧ Row wr w.heap.size 3 (some ⟨g, 0, none⟩) n' c1 (r.map I) ∧ wo L (gs.take k) = some r ∧ n' ≤ 1000 ∧ Below w.heap.size w wr) (fun _ i _ => n2 - (intOf i).toNat)
  case atStart => exact ⟨0, n, L, Nat.zero_le _, rfl, rfl, hrow1, rfl, hn3, hb1⟩
  case round =>
    obtain ⟨k, n', r, hk, rfl, rfl, hrow, hwo, hn', hbw⟩ := hrel
    have Hwo := Lib.hid hwo
    have Hsr := Lib.hid (wo_sorted hwo Hs.out)
    have hlr := hrow.len
    simp at hlr
    clear hwo
    by_cases hlt : k < n2
    · obtain ⟨b2, o2, x, rfl, hb2, hx, hcx⟩ := (hr2.below hbw).int hlt
      have hlt' : (k : Int) < (n2 : Int) := by omega
      have k0 : (0 : Int) ≤ (k : Int) := by omega
      have e5 : IntKind.i64.wrap ((k : Int) + 1) = (k : Int) + 1 := by rw [IntKind.wrap_i64]; omega
      have Hx := Lib.hid hx
      have htk : gs.take (k + 1) = gs.take k ++ [x] := take_snoc hx
      have hstep : wo L (gs.take (k + 1)) = if x ∈ r then some (r.erase x) else none := by rw [htk, wo_app, Hwo.out]; exact wo_one r x
      have Hstep := Lib.hid hstep
      clear hx htk hstep
      by_cases hin : x ∈ r
      · have hcl := count_lt Hsr.out hin
        have her := erase_at Hsr.out hin
        obtain ⟨i, hi⟩ : ∃ i, i = r.countP fun y => decide (y < x) := ⟨_, rfl⟩
        rw [← hi] at hcl her
        have hB := Try.slices_BinarySearch_int g 0 n' c1 r x wr (by omega) (by omega) (hrow.rd.getD) (by rw [List.take_of_length_le (by omega)]; exact Hsr.out)
        rw [List.take_of_length_le (by omega), ← hi, show r.contains x = true by simpa using hin] at hB
        have hD := fun w' hr => DeleteI_any w.heap.size g n' c1 i r w' hr (by omega) (by omega)
        have Her := Lib.hid her
        have Hst := Lib.hid (show wo L (gs.take (k + 1)) = some (r.erase x) by rw [Hstep.out, if_pos hin])
        have hi1 : IntKind.i64.wrap ((i : Int) + 1) = (i : Int) + 1 := by rw [IntKind.wrap_i64]; omega
        have hin' := hin
        clear hi her hin hlr
        go_wp2_with fail
        refine hB.mono ?_
        rintro e w2 ⟨rfl, q, rfl⟩
        go_wp2_with fail
        refine (hD _ (Row.quiet hrow ⟨q, rfl⟩)).mono ?_
        rintro e w3 ⟨rfl, hrow3, hg3⟩
        rw [Her.out] at hrow3
        have hb3 : Below w.heap.size w w3 := kp_grown (bel_drewN hbw q) (Nat.le_refl _) hg3 (fun k hk => by cases hk; exact row_ge hrow _ rfl)
        clear hB hD
        go_wp2_with fail
        go_roundw
        case rel => exact ⟨k + 1, n' - 1, r.erase x, by omega, by go_num, rfl, hrow3, Hst.out, by omega, hb3⟩
        case measure => simp [intOf]; omega
      · have Hno := Lib.hid (show wo L gs = none by
          conv => lhs; rw [← List.take_append_drop (k + 1) gs]
          rw [wo_app, Hstep.out, if_neg hin]
          rfl)
        have hB : Calls Try.prog 106 #[.slice (some ⟨g, 0, none⟩) n' c1, .int .i64 x] wr fun e w' => ∃ i : Nat, e = .returned (.tuple #[.int .i64 i, .bool false]) ∧ ∃ q, w' = wr.drewN q := by
          rcases Nat.eq_zero_or_pos n' with h0 | h0
          · subst h0
            refine (Try.slices_BinarySearch_int_empty (some ⟨g, 0, none⟩) c1 x wr).mono ?_
            rintro e w' ⟨rfl, rfl⟩
            exact ⟨0, rfl, 0, rfl⟩
          · refine (Try.slices_BinarySearch_int g 0 n' c1 r x wr (by omega) (by omega) (hrow.rd.getD) (by rw [List.take_of_length_le (by omega)]; exact Hsr.out)).mono ?_
            rintro e w' ⟨rfl, q, rfl⟩
            rw [List.take_of_length_le (by omega), show r.contains x = false by simpa using hin]
            exact ⟨_, rfl, q, rfl⟩
        clear hin hlr
        go_wp2_with fail
        refine hB.mono ?_
        rintro e w2 ⟨i, rfl, q, rfl⟩
        go_wp2_with fail
        go_ret2
        exact ⟨none, 0, 0, false, rfl, bel_drewN hbw q, .inl ⟨Hno.out, rfl⟩⟩
    · obtain rfl : k = n2 := by omega
      have hlt' : ¬ (k : Int) < (k : Int) := by omega
      have Hall := Lib.hid (show wo L gs = some r by have h := Hwo.out; rw [List.take_of_length_le (by have := Hn2.out; omega)] at h; exact h)
      go_wp2_with fail
      go_ret2
      exact ⟨some ⟨g, 0, none⟩, n', c1, true, rfl, hbw, .inr ⟨r, Hall.out, rfl, hrow⟩⟩
/-- How many pairs points may have. -/
def prs (m : Nat) : Bool := m == 0 || m == 1 || m == 3 || m == 6 || m == 10 || m == 15
set_option maxHeartbeats 1600000 in
theorem pairsOf_any (m : Nat) (hm : m ≤ 4611686018427387904) (w : World) :
    Calls Try.prog 49 #[.int .i64 m] w fun e w' => ∃ r : Int, e = .returned (.int .i64 r) ∧ (r == 0) = !prs m ∧ w' = w := by
  go_enter Try.func49, Try.ntmps49
  go_wp2_with fail
  go_loopw [3] (fun i wr => ∃ k : Nat, 1 ≤ k ∧ k ≤ 7 ∧ i = .int .i64 k ∧ (1 < k → m ≠ 0) ∧ (2 < k → m ≠ 1) ∧ (3 < k → m ≠ 3) ∧ (4 < k → m ≠ 6) ∧ (5 < k → m ≠ 10) ∧ (6 < k → m ≠ 15) ∧ wr = w) (fun i _ => 7 - (intOf i).toNat)
  case atStart => exact ⟨1, by omega, by omega, rfl, by omega, by omega, by omega, by omega, by omega, by omega, rfl⟩
  case round =>
    obtain ⟨k, h1, h7, rfl, g1, g2, g3, g4, g5, g6, rfl⟩ := hrel
    rcases (show k = 7 ∨ k = 1 ∨ k = 2 ∨ k = 3 ∨ k = 4 ∨ k = 5 ∨ k = 6 by omega) with rfl | rfl | rfl | rfl | rfl | rfl | rfl
    · have hp : prs m = false := by
        unfold prs
        simp
        omega
      have Hp := Lib.hid hp
      clear g1 g2 g3 g4 g5 g6 hp
      go_wp2_with fail
      go_ret
      exact ⟨0, rfl, by rw [Hp.out]; rfl, rfl⟩
    · by_cases hm0 : m = 0
      · subst hm0
        clear g1 g2 g3 g4 g5 g6
        go_wp2_with fail
        go_ret
        exact ⟨1, rfl, by decide, rfl⟩
      · have b0 : ¬ (0 : Int) = (m : Int) := by omega
        have b1 : ((0 : Int) == (m : Int)) = false := by simpa using b0
        have G := Lib.hid (And.intro g1 (And.intro g2 (And.intro g3 (And.intro g4 (And.intro g5 g6)))))
        clear g1 g2 g3 g4 g5 g6
        go_wp2_with fail
        go_roundw
        case rel =>
          obtain ⟨g1, g2, g3, g4, g5, g6⟩ := G.out
          exact ⟨2, by omega, by omega, rfl, by omega, by omega, by omega, by omega, by omega, by omega, trivial⟩
        case measure => simp [intOf]
    · by_cases hm0 : m = 1
      · subst hm0
        clear g1 g2 g3 g4 g5 g6
        go_wp2_with fail
        go_ret
        exact ⟨2, rfl, by decide, rfl⟩
      · have b0 : ¬ (1 : Int) = (m : Int) := by omega
        have b1 : ((1 : Int) == (m : Int)) = false := by simpa using b0
        have G := Lib.hid (And.intro g1 (And.intro g2 (And.intro g3 (And.intro g4 (And.intro g5 g6)))))
        clear g1 g2 g3 g4 g5 g6
        go_wp2_with fail
        go_roundw
        case rel =>
          obtain ⟨g1, g2, g3, g4, g5, g6⟩ := G.out
          exact ⟨3, by omega, by omega, rfl, by omega, by omega, by omega, by omega, by omega, by omega, trivial⟩
        case measure => simp [intOf]
    · by_cases hm0 : m = 3
      · subst hm0
        clear g1 g2 g3 g4 g5 g6
        go_wp2_with fail
        go_ret
        exact ⟨3, rfl, by decide, rfl⟩
      · have b0 : ¬ (3 : Int) = (m : Int) := by omega
        have b1 : ((3 : Int) == (m : Int)) = false := by simpa using b0
        have G := Lib.hid (And.intro g1 (And.intro g2 (And.intro g3 (And.intro g4 (And.intro g5 g6)))))
        clear g1 g2 g3 g4 g5 g6
        go_wp2_with fail
        go_roundw
        case rel =>
          obtain ⟨g1, g2, g3, g4, g5, g6⟩ := G.out
          exact ⟨4, by omega, by omega, rfl, by omega, by omega, by omega, by omega, by omega, by omega, trivial⟩
        case measure => simp [intOf]
    · by_cases hm0 : m = 6
      · subst hm0
        clear g1 g2 g3 g4 g5 g6
        go_wp2_with fail
        go_ret
        exact ⟨4, rfl, by decide, rfl⟩
      · have b0 : ¬ (6 : Int) = (m : Int) := by omega
        have b1 : ((6 : Int) == (m : Int)) = false := by simpa using b0
        have G := Lib.hid (And.intro g1 (And.intro g2 (And.intro g3 (And.intro g4 (And.intro g5 g6)))))
        clear g1 g2 g3 g4 g5 g6
        go_wp2_with fail
        go_roundw
        case rel =>
          obtain ⟨g1, g2, g3, g4, g5, g6⟩ := G.out
          exact ⟨5, by omega, by omega, rfl, by omega, by omega, by omega, by omega, by omega, by omega, trivial⟩
        case measure => simp [intOf]
    · by_cases hm0 : m = 10
      · subst hm0
        clear g1 g2 g3 g4 g5 g6
        go_wp2_with fail
        go_ret
        exact ⟨5, rfl, by decide, rfl⟩
      · have b0 : ¬ (10 : Int) = (m : Int) := by omega
        have b1 : ((10 : Int) == (m : Int)) = false := by simpa using b0
        have G := Lib.hid (And.intro g1 (And.intro g2 (And.intro g3 (And.intro g4 (And.intro g5 g6)))))
        clear g1 g2 g3 g4 g5 g6
        go_wp2_with fail
        go_roundw
        case rel =>
          obtain ⟨g1, g2, g3, g4, g5, g6⟩ := G.out
          exact ⟨6, by omega, by omega, rfl, by omega, by omega, by omega, by omega, by omega, by omega, trivial⟩
        case measure => simp [intOf]
    · by_cases hm0 : m = 15
      · subst hm0
        clear g1 g2 g3 g4 g5 g6
        go_wp2_with fail
        go_ret
        exact ⟨6, rfl, by decide, rfl⟩
      · have b0 : ¬ (15 : Int) = (m : Int) := by omega
        have b1 : ((15 : Int) == (m : Int)) = false := by simpa using b0
        have G := Lib.hid (And.intro g1 (And.intro g2 (And.intro g3 (And.intro g4 (And.intro g5 g6)))))
        clear g1 g2 g3 g4 g5 g6
        go_wp2_with fail
        go_roundw
        case rel =>
          obtain ⟨g1, g2, g3, g4, g5, g6⟩ := G.out
          exact ⟨7, by omega, by omega, rfl, by omega, by omega, by omega, by omega, by omega, by omega, trivial⟩
        case measure => simp [intOf]
end Go.Proofs.Ytopmifidhabobaa
