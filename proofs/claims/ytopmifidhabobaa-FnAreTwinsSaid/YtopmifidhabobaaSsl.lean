/-
  The exact laws' own small functions on rows of rows of numbers.
-/
import Derived.Test.YtopmifidhabobaaPlq
namespace Go.Proofs.Ytopmifidhabobaa
open Go.RowKit Go.Sort
set_option linter.unusedVariables false
set_option linter.unusedSimpArgs false

/-- Rows of rows in the blocks from lo on and below hi; the i-th holds F i. -/
structure SS (w : World) (lo hi : Nat) (A : Option Addr) (n c : Nat) (P : List SP) (F : Nat → SP → List Value) : Prop where
  outer : OwnW w lo hi 22 A n c (P.map V)
  inner : ∀ i p, P[i]? = some p → OwnW w lo hi 3 p.1.1 p.1.2.1 p.1.2.2 (F i p)
def FI : Nat → SP → List Value := fun _ p => p.2.map I
/-- How many numbers lie ahead of the j-th row. -/
def off (P : List SP) (j : Nat) : Nat := ((P.take j).map fun p => p.1.2.1).sum
theorem off_succ {P : List SP} {j : Nat} {p : SP} (h : P[j]? = some p) : off P (j + 1) = off P j + p.1.2.1 := by
  unfold off
  rw [List.take_add_one, h, Option.toList_some, List.map_append, List.sum_append]
  simp
theorem off_le (P : List SP) : ∀ (d j : Nat), off P j ≤ off P (j + d) := by
  intro d
  induction d with
  | zero => intro j; exact Nat.le_refl _
  | succ d ih =>
    intro j
    refine Nat.le_trans (ih j) ?_
    rw [← Nat.add_assoc]
    cases h : P[j + d]? with
    | none =>
      unfold off
      rw [List.take_add_one, h]
      simp
    | some p => rw [off_succ h]; omega
def FM (P : List SP) (k : Int) : Nat → SP → List Value := fun i p => mk (k + (off P i : Int)) p.1.2.1
theorem SS.below {w w' : World} {lo hi B : Nat} {A : Option Addr} {n c : Nat} {P : List SP} {F : Nat → SP → List Value} (h : SS w lo hi A n c P F) (hb : Below B w w') (hB : hi ≤ B) : SS w' lo hi A n c P F :=
  ⟨h.outer.below hb hB, fun i p hp => (h.inner i p hp).below hb hB⟩
theorem SS.turn {w w' : World} {lo hi l k : Nat} {A : Option Addr} {n c : Nat} {P : List SP} {F : Nat → SP → List Value} (h : SS w lo hi A n c P F) (hb : Turn l k w w') (hB : hi ≤ l ∨ k ≤ lo) : SS w' lo hi A n c P F :=
  ⟨h.outer.turn hb hB, fun i p hp => (h.inner i p hp).turn hb hB⟩
theorem SS.of {w : World} {lo : Nat} {A : Option Addr} {n c : Nat} {P : List SP} (h : Own w lo 22 A n c (P.map V)) (hi : OwnP w lo P) : SS w lo w.heap.size A n c P FI :=
  ⟨h.win, fun i p hp => (hi p (List.mem_of_getElem? hp)).win⟩
theorem SS.cell {w : World} {lo hi : Nat} {A : Option Addr} {n c : Nat} {P : List SP} {F : Nat → SP → List Value} (h : SS w lo hi A n c P F) {i : Nat} {p : SP} (hp : P[i]? = some p) : ∃ g : Nat, A = some ⟨g, 0, none⟩ ∧ g < hi ∧ w.cell? ⟨g, i, none⟩ = some (.slice p.1.1 p.1.2.1 p.1.2.2) := by
  obtain ⟨h1, h2, h3, h4⟩ := h.outer
  have hi1 : i < P.length := (List.getElem?_eq_some_iff.1 hp).1
  rw [List.length_map] at h1
  obtain ⟨g, cur, e, _, hg, hh, ht⟩ := h4 (by omega)
  refine ⟨g, e, hg, ?_⟩
  rw [cell_of_row w g i cur _ (0, 0) hh]
  have h5 : (cur.toList.take n)[i]? = (P.map V)[i]? := by rw [ht]
  rw [List.getElem?_take_of_lt (by omega), map_at hp] at h5
  simpa using h5
theorem SS.len {w : World} {lo hi : Nat} {A : Option Addr} {n c : Nat} {P : List SP} {F : Nat → SP → List Value} (h : SS w lo hi A n c P F) : P.length = n := by have := h.outer.1; simpa using this
theorem SS.quiet {w w' : World} {lo hi : Nat} {A : Option Addr} {n c : Nat} {P : List SP} {F : Nat → SP → List Value} (h : SS w lo hi A n c P F) (hq : Quiet w w') : SS w' lo hi A n c P F := h.below (hq.bel hi) (Nat.le_refl _)
/-- The same slice, in the window of its own block. -/
theorem OwnW.one {w : World} {lo hi : Nat} {t : TypeId} {A : Option Addr} {n c : Nat} {xs : List Value} (h : OwnW w lo hi t A n c xs) : ∃ l k, OwnW w l k t A n c xs ∧ ((n = 0 ∧ l = 0 ∧ k = 0) ∨ ∃ cur, 0 < n ∧ A = some ⟨l, 0, none⟩ ∧ k = l + 1 ∧ lo ≤ l ∧ l < hi ∧ w.heap[l]? = some (.cells cur t (0, 0))) := by
  obtain ⟨h1, h2, h3, h4⟩ := h
  rcases Nat.eq_zero_or_pos n with h0 | h0
  · exact ⟨0, 0, ⟨h1, h2, h3, fun h => absurd h (by omega)⟩, .inl ⟨h0, rfl, rfl⟩⟩
  · obtain ⟨g, cur, e, hg, hk, hh, ht⟩ := h4 h0
    exact ⟨g, g + 1, ⟨h1, h2, h3, fun _ => ⟨g, cur, e, Nat.le_refl _, Nat.lt_succ_self _, hh, ht⟩⟩, .inr ⟨cur, h0, e, rfl, hg, hk, hh⟩⟩
theorem OwnW.wide {w : World} {l k lo hi : Nat} {t : TypeId} {A : Option Addr} {n c : Nat} {xs : List Value} (h : OwnW w l k t A n c xs) (hc : (n = 0 ∧ l = 0 ∧ k = 0) ∨ ∃ cur : Array Value, 0 < n ∧ A = some ⟨l, 0, none⟩ ∧ k = l + 1 ∧ lo ≤ l ∧ l < hi ∧ w.heap.size = w.heap.size) : OwnW w lo hi t A n c xs := by
  obtain ⟨h1, h2, h3, h4⟩ := h
  refine ⟨h1, h2, h3, fun h0 => ?_⟩
  obtain ⟨g, cur, e, hg, hk, hh, ht⟩ := h4 h0
  rcases hc with ⟨h5, _⟩ | ⟨_, _, _, rfl, hl, hl2, _⟩
  · omega
  · obtain rfl : g = l := by omega
    exact ⟨g, cur, e, hl, hl2, hh, ht⟩
theorem Turn.wide {w w' : World} {l k lo hi : Nat} (h : Turn l k w w') (hc : (l = 0 ∧ k = 0) ∨ (k = l + 1 ∧ lo ≤ l ∧ l < hi)) : Turn lo hi w w' :=
  ⟨h.os, h.tape, h.output, h.size, fun b hb hl => h.block b hb (by omega)⟩
theorem Turn.refl (lo hi : Nat) (w : World) : Turn lo hi w w := ⟨rfl, rfl, rfl, Nat.le_refl _, fun _ _ _ => rfl⟩
theorem Turn.trans {lo hi : Nat} {w w1 w2 : World} (h : Turn lo hi w w1) (k : Turn lo hi w1 w2) : Turn lo hi w w2 :=
  ⟨k.os.trans h.os, k.tape.trans h.tape, k.output.trans h.output, Nat.le_trans h.size k.size, fun b hb hl => (k.block b (Nat.lt_of_lt_of_le hb h.size) hl).trans (h.block b hb hl)⟩
/-- What lies in other blocks abides. -/
theorem OwnW.other {w w' : World} {l k lo hi : Nat} {t : TypeId} {A : Option Addr} {n c : Nat} {xs : List Value} (h : OwnW w lo hi t A n c xs) (hb : Turn l k w w') (hne : ∀ g cur, 0 < n → A = some ⟨g, 0, none⟩ → w.heap[g]? = some (.cells cur t (0, 0)) → g < l ∨ k ≤ g) : OwnW w' lo hi t A n c xs :=
  ⟨h.1, h.2.1, h.2.2.1, fun hn => by obtain ⟨g, cur, e, hg, hl, hh, ht⟩ := h.2.2.2 hn; exact ⟨g, cur, e, hg, hl, (hb.block g (Array.getElem?_eq_some_iff.1 hh).1 (hne g cur hn e hh)).trans hh, ht⟩⟩
set_option maxHeartbeats 1600000 in
theorem eqIntSS_same (A : Option Addr) (n c : Nat) (P : List SP) (A2 : Option Addr) (n2 c2 : Nat) (P2 : List SP) (w : World) (lo hi lo2 hi2 : Nat) (hs : SS w lo hi A n c P FI) (hs2 : SS w lo2 hi2 A2 n2 c2 P2 FI) (he : P.map Prod.snd = P2.map Prod.snd) :
    Calls Try.prog 18 #[.slice A n c, .slice A2 n2 c2] w fun e w' => e = .returned (.bool true) ∧ Quiet w w' := by
  obtain rfl : n = n2 := by
    have := congrArg List.length he
    rw [List.length_map, List.length_map, hs.len, hs2.len] at this
    exact this
  have hnc := hs.outer.2.1
  have hcm := hs.outer.2.2.1
  have hnc2 := hs2.outer.2.1
  have hcm2 := hs2.outer.2.2.1
  unfold maxLen at hcm hcm2
  have hne : ((n : Int) != (n : Int)) = false := by simp
  go_enter Try.func18, Try.ntmps18
  go_wp2_with fail
  go_loopw [5] (fun i wr => ∃ k : Nat, k ≤ n ∧ i = .int .i64 k ∧ Quiet w wr) (fun i _ => n - (intOf i).toNat)
  case atStart => exact ⟨0, Nat.zero_le _, rfl, Quiet.refl _⟩
  case round =>
    obtain ⟨k, hk, rfl, hq⟩ := hrel
    by_cases hlt : k < n
    · obtain ⟨p, hp⟩ : ∃ p, P[k]? = some p := ⟨_, List.getElem?_eq_getElem (by have := hs.len; omega)⟩
      obtain ⟨p2, hp2⟩ : ∃ p2, P2[k]? = some p2 := ⟨_, List.getElem?_eq_getElem (by have := hs2.len; omega)⟩
      have hpe : p2.2 = p.2 := by
        have h1 := congrArg (fun l => l[k]?) he
        simp only [List.getElem?_map, hp, hp2, Option.map_some] at h1
        injection h1 with h1
        exact h1.symm
      obtain ⟨g, rfl, _, hc1⟩ := (hs.quiet hq).cell hp
      obtain ⟨g2, rfl, _, hc2⟩ := (hs2.quiet hq).cell hp2
      have hE : ∀ m, Calls Try.prog 19 #[.slice p.1.1 p.1.2.1 p.1.2.2, .slice p2.1.1 p2.1.2.1 p2.1.2.2] (wr.drewN m) fun e w' => e = .returned (.bool true) ∧ Quiet (wr.drewN m) w' := fun m =>
        eqIntS_same _ _ _ p.2 _ _ _ (wr.drewN m) _ _ (((hs.quiet hq).inner k p hp).rd) (by
          have h := ((hs2.quiet hq).inner k p2 hp2).rd
          unfold FI at h
          rw [hpe] at h
          exact h)
      obtain ⟨⟨pa, pn, pc⟩, pl⟩ := p
      obtain ⟨⟨qa, qn, qc⟩, ql⟩ := p2
      dsimp only at hE hc1 hc2
      have hlt' : (k : Int) < (n : Int) := by omega
      have k0 : (0 : Int) ≤ (k : Int) := by omega
      have e5 : IntKind.i64.wrap ((k : Int) + 1) = (k : Int) + 1 := by rw [IntKind.wrap_i64]; omega
      clear hp hp2 hpe he
      go_wp2_with fail
      go_quiet ((go_at_call 19; exact Calls.quiet_of (hE _)))
      go_wp2_with fail
      go_roundw
      case rel => exact ⟨k + 1, by omega, by go_num, hq.drewN _⟩
      case measure => simp [intOf]; omega
    · have hlt' : ¬ (k : Int) < (n : Int) := by omega
      go_wp2_with fail
      go_ret
      exact ⟨rfl, hq⟩
set_option maxHeartbeats 1600000 in
theorem heldIntSS_any (A : Option Addr) (n c : Nat) (P : List SP) (k : Int) (w : World) (lo hi : Nat) (hs : SS w lo hi A n c P (FM P k)) (hk : 0 ≤ k ∧ k ≤ 1000000000) (ho : off P n ≤ 100000000000) :
    Calls Try.prog 22 #[.slice A n c, .int .i64 k] w fun e w' => e = .returned (.int .i64 (k + (off P n : Int))) ∧ Quiet w w' := by
  have hnc := hs.outer.2.1
  have hcm := hs.outer.2.2.1
  unfold maxLen at hcm
  go_enter Try.func22, Try.ntmps22
  go_wp2_with fail
  go_loopw [1, 5] (fun q i wr => ∃ j : Nat, j ≤ n ∧ q = .int .i64 (k + (off P j : Int)) ∧ i = .int .i64 j ∧ Quiet w wr) (fun _ i _ => n - (intOf i).toNat)
  case atStart => exact ⟨0, Nat.zero_le _, by simp [off], rfl, Quiet.refl _⟩
  case round =>
    obtain ⟨j, hj, rfl, rfl, hq⟩ := hrel
    by_cases hlt : j < n
    · obtain ⟨p, hp⟩ : ∃ p, P[j]? = some p := ⟨_, List.getElem?_eq_getElem (by have := hs.len; omega)⟩
      obtain ⟨g, rfl, _, hc1⟩ := (hs.quiet hq).cell hp
      have h1 := off_le P (n - j) j
      have h2 := off_le P (n - (j + 1)) (j + 1)
      have h3 := off_succ hp
      rw [show j + (n - j) = n by omega] at h1
      rw [show j + 1 + (n - (j + 1)) = n by omega] at h2
      have hH := heldIntS_any p.1.1 p.1.2.1 p.1.2.2 (k + (off P j : Int)) wr _ (((hs.quiet hq).inner j p hp).rd) (by omega) (by omega)
      have Hst := Lib.hid (show k + (off P j : Int) + (p.1.2.1 : Int) = k + (off P (j + 1) : Int) by rw [h3]; omega)
      have hng : ¬ (k + (off P j : Int) + (p.1.2.1 : Int) < 0) := by omega
      obtain ⟨⟨pa, pn, pc⟩, pl⟩ := p
      dsimp only at hH hc1 Hst hng
      have hlt' : (j : Int) < (n : Int) := by omega
      have k0 : (0 : Int) ≤ (j : Int) := by omega
      have e5 : IntKind.i64.wrap ((j : Int) + 1) = (j : Int) + 1 := by rw [IntKind.wrap_i64]; omega
      clear hp h1 h2 h3
      go_wp2_with fail
      refine hH.mono ?_
      rintro e w2 ⟨rfl, hq2⟩
      have hqq : Quiet w w2 := by obtain ⟨m, rfl⟩ := hq2; exact hq.drewN m
      clear hH hq2
      go_wp2_with fail
      go_roundw
      case rel => exact ⟨j + 1, by omega, by rw [Hst.out], by go_num, hqq⟩
      case measure => simp [intOf]; omega
    · have Hjn := Lib.hid (show j = n by omega)
      have hlt' : ¬ (j : Int) < (n : Int) := by omega
      go_wp2_with fail
      go_ret
      rw [Hjn.out]
      exact ⟨rfl, hq⟩
set_option maxHeartbeats 1600000 in
theorem markIntSS_any (A : Option Addr) (n c : Nat) (P : List SP) (k : Int) (w : World) (lo hi : Nat) (hs : SS w lo hi A n c P FI) (hd : DistP P) (hk : 0 ≤ k ∧ k ≤ 1000000000) (ho : off P n ≤ 100000000000) :
    Calls Try.prog 21 #[.slice A n c, .int .i64 k] w fun e w' => e = .returned (.int .i64 (k + (off P n : Int))) ∧ SS w' lo hi A n c P (FM P k) ∧ Turn lo hi w w' := by
  have hnc := hs.outer.2.1
  have hcm := hs.outer.2.2.1
  have hlen := hs.len
  unfold maxLen at hcm
  go_enter Try.func21, Try.ntmps21
  go_wp2_with fail
  go_loopw [1, 5] (fun q i wr => ∃ j : Nat, j ≤ n ∧ q = .int .i64 (k + (off P j : Int)) ∧ i = .int .i64 j ∧ SS wr lo hi A n c P (fun i p => if i < j then FM P k i p else FI i p) ∧ Turn lo hi w wr) (fun _ i _ => n - (intOf i).toNat)
  case atStart => exact ⟨0, Nat.zero_le _, by simp [off], rfl, ⟨hs.outer, fun i p hp => by rw [if_neg (by omega)]; exact hs.inner i p hp⟩, Turn.refl _ _ _⟩
  case round =>
    obtain ⟨j, hj, rfl, rfl, hsr, htr⟩ := hrel
    by_cases hlt : j < n
    · obtain ⟨p, hp⟩ : ∃ p, P[j]? = some p := ⟨_, List.getElem?_eq_getElem (by omega)⟩
      obtain ⟨g, rfl, _, hc1⟩ := hsr.cell hp
      have h1 := off_le P (n - j) j
      have h2 := off_le P (n - (j + 1)) (j + 1)
      have h3 := off_succ hp
      rw [show j + (n - j) = n by omega] at h1
      rw [show j + 1 + (n - (j + 1)) = n by omega] at h2
      have hin := hsr.inner j p hp
      rw [if_neg (Nat.lt_irrefl j)] at hin
      obtain ⟨l, h, hone, hcase⟩ := hin.one
      have hM := markIntS_any p.1.1 p.1.2.1 p.1.2.2 p.2 (k + (off P j : Int)) wr l h hone (by omega) (by omega)
      have Hst := Lib.hid (show k + (off P j : Int) + (p.1.2.1 : Int) = k + (off P (j + 1) : Int) by rw [h3]; omega)
      have Hnew := Lib.hid (show ∀ w2, OwnW w2 l h 3 p.1.1 p.1.2.1 p.1.2.2 (mk (k + (off P j : Int)) p.1.2.1) → Turn l h wr w2 → SS w2 lo hi (some ⟨g, 0, none⟩) n c P (fun i p => if i < j + 1 then FM P k i p else FI i p) ∧ Turn lo hi wr w2 by
        intro w2 ho2 ht2
        refine ⟨⟨?_, fun i q hq => ?_⟩, ht2.wide ?_⟩
        · refine hsr.outer.other ht2 fun g' cur _ e hh => ?_
          rcases hcase with ⟨_, rfl, rfl⟩ | ⟨cur2, _, _, rfl, _, _, hh2⟩
          · omega
          · rcases (show g' = l ∨ g' ≠ l by omega) with rfl | hne
            · rw [hh] at hh2
              injection hh2 with hh2
              injection hh2 with _ hh2
              exact absurd hh2 (by decide)
            · omega
        · by_cases hij : i = j
          · subst hij
            rw [hp] at hq
            injection hq with hq
            subst hq
            rw [if_pos (Nat.lt_succ_self _)]
            refine ho2.wide ?_
            rcases hcase with hc | ⟨cur2, c1, c2, c3, c4, c5, _⟩
            · exact .inl hc
            · exact .inr ⟨cur2, c1, c2, c3, c4, c5, rfl⟩
          · have hi0 := hsr.inner i q hq
            have he : (if i < j + 1 then FM P k i q else FI i q) = (if i < j then FM P k i q else FI i q) := by
              by_cases h7 : i < j
              · rw [if_pos h7, if_pos (by omega)]
              · rw [if_neg h7, if_neg (by omega)]
            rw [he]
            refine hi0.other ht2 fun g' cur hq0 e hh => ?_
            rcases hcase with ⟨_, rfl, rfl⟩ | ⟨cur2, hp0, e2, rfl, _, _, hh2⟩
            · omega
            · rcases (show g' = l ∨ g' ≠ l by omega) with rfl | hne
              · exfalso
                obtain ⟨b1, rfl⟩ := List.getElem?_eq_some_iff.1 hp
                obtain ⟨b2, rfl⟩ := List.getElem?_eq_some_iff.1 hq
                rcases (show i < j ∨ j < i by omega) with h8 | h8
                · exact (List.pairwise_iff_getElem.1 hd) i j b2 b1 h8 g' hq0 hp0 e e2
                · exact (List.pairwise_iff_getElem.1 hd) j i b1 b2 h8 g' hp0 hq0 e2 e
              · omega
        · rcases hcase with ⟨_, h5, h6⟩ | ⟨_, _, _, h5, h6, h7, _⟩
          · exact .inl ⟨h5, h6⟩
          · exact .inr ⟨h5, h6, h7⟩)
      obtain ⟨⟨pa, pn, pc⟩, pl⟩ := p
      dsimp only at hM hc1 Hst Hnew
      have hlt' : (j : Int) < (n : Int) := by omega
      have k0 : (0 : Int) ≤ (j : Int) := by omega
      have e5 : IntKind.i64.wrap ((j : Int) + 1) = (j : Int) + 1 := by rw [IntKind.wrap_i64]; omega
      clear hp h1 h2 h3 hin hone hcase hsr
      go_wp2_with fail
      refine hM.mono ?_
      rintro e w2 ⟨rfl, ho2, ht2⟩
      obtain ⟨hs2, ht3⟩ := Hnew.out w2 ho2 ht2
      clear hM ho2 ht2
      go_wp2_with fail
      go_roundw
      case rel => exact ⟨j + 1, by omega, by rw [Hst.out], by go_num, hs2, htr.trans ht3⟩
      case measure => simp [intOf]; omega
    · have Hjn := Lib.hid (show j = n by omega)
      have hlt' : ¬ (j : Int) < (n : Int) := by omega
      go_wp2_with fail
      go_ret
      rw [Hjn.out]
      refine ⟨rfl, ⟨hsr.outer, fun i p hp => ?_⟩, htr⟩
      have h1 := hsr.inner i p hp
      have hi1 : i < P.length := (List.getElem?_eq_some_iff.1 hp).1
      have := Hjn.out
      rw [if_pos (by omega)] at h1
      exact h1
end Go.Proofs.Ytopmifidhabobaa
