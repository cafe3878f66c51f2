/-
  Contracts of the generator that draws points.
-/
import Derived.Test.YtopmifidhabobaaGen
import Derived.Test.YtopmifidhabobaaRegn
import Derived.Test.YtopmifidhabobaaExactI
import Derived.Test.YtopmifidhabobaaDist2
namespace Go.Proofs.Ytopmifidhabobaa
open Go.RowKit
set_option linter.unusedVariables false
set_option linter.unusedSimpArgs false

/-- What is drawn: some small numbers. -/
def Drn (zs : List Int) : Prop := zs.length ≤ 7 ∧ ∀ z ∈ zs, 0 ≤ z ∧ z ≤ 61
/-- A slice that reads as it says, in blocks that were not there. -/
def NewI (w w' : World) (A : Option Addr) (n c : Nat) (zs : List Int) : Prop := Rd w' w'.heap.size A n c (zs.map I) ∧ (0 < n → ∀ b o, A = some ⟨b, o, none⟩ → w.heap.size ≤ b)
theorem NewI.below {w w1 w2 : World} {A : Option Addr} {n c : Nat} {zs : List Int} (h : NewI w w1 A n c zs) (hb : Below w1.heap.size w1 w2) : NewI w w2 A n c zs := ⟨(h.1.below hb).more hb.size, h.2⟩
theorem NewI.grown {w w1 w2 : World} {A : Option Addr} {n c R : Nat} {zs : List Int} (h : NewI w w1 A n c zs) (hb : w1.grownBy w2 (some R)) (hR : R < w.heap.size) : NewI w w2 A n c zs := by
  refine ⟨?_, h.2⟩
  have h1 := h.1
  refine ⟨h1.1, h1.2.1, h1.2.2.1, fun hn => ?_⟩
  obtain ⟨b, o, e, hb', hc⟩ := h1.2.2.2 hn
  have hge := h.2 hn b o e
  exact ⟨b, o, e, Nat.lt_of_lt_of_le hb' hb.size, fun j u hu => (World.cell?_of_block (hb.block b hb' (by simp; omega))).trans (hc j u hu)⟩
theorem NewI.of_own {w w' : World} {A : Option Addr} {n c : Nat} {zs : List Int} (h : Own w' w.heap.size 3 A n c (zs.map I)) : NewI w w' A n c zs := by
  refine ⟨h.rd, fun hn b o e => ?_⟩
  obtain ⟨g, cur, e', hb, _⟩ := h.2.2.2 hn
  rw [e'] at e
  injection e with e
  injection e with e1 e2
  omega
theorem NewI.tail {w w' : World} {b o n c : Nat} {zs : List Int} (h : NewI w w' (some ⟨b, o, none⟩) n c zs) (hn : 1 ≤ n) : NewI w w' (some ⟨b, o + 1, none⟩) (n - 1) (c - 1) (zs.drop 1) := by
  obtain ⟨⟨h1, h2, h3, h4⟩, h5⟩ := h
  refine ⟨⟨by simp at h1 ⊢; omega, by omega, by omega, fun hn' => ?_⟩, fun hn' b' o' e => ?_⟩
  · obtain ⟨b', o', e, hb, hc⟩ := h4 (by omega)
    injection e with e
    injection e with e1 e2
    subst e1 e2
    refine ⟨b, o + 1, rfl, hb, fun j u hu => ?_⟩
    rw [show o + 1 + j = o + (j + 1) by omega]
    refine hc (j + 1) u ?_
    rw [List.map_drop, List.getElem?_drop] at hu
    rw [← hu, Nat.add_comm]
  · injection e with e
    injection e with e1 e2
    exact e1 ▸ h5 (by omega) b o rfl
def SomePts (B R : Nat) (zs : List Int) (w : World) (p : Nat) (e : Ending) (w' : World) : Prop :=
  ∃ (A : Option Addr) (n c : Nat) (ls : List Int) (q : Nat), e = .returned (.slice A n c) ∧ NewI w w' A n c ls ∧ Drn ls ∧ q ≤ p + 20 ∧ Rdr w' B R zs q ∧ w.grownBy w' (some R)
theorem rd_litAt {w : World} (b : Nat) (hb : b = w.heap.size) (cs : Array Value) (t : TypeId) (n : Nat) (xs : List Value) (h : cs.toList = xs) (hn : xs.length = n) (hm : n ≤ 1000) :
    Rd (w.alloc (.cells cs t)) (w.alloc (.cells cs t)).heap.size (some ⟨b, 0, none⟩) n n xs := by
  subst hb
  exact rd_lit w cs t n xs h hn hm
set_option maxRecDepth 8000 in
set_option maxHeartbeats 3200000 in
theorem somePoints_any (B R : Nat) (zs : List Int) (p : Nat) (w : World) (hR : Rdr w B R zs p) (hp : p + 100 ≤ 1099511627776) :
    Calls Try.prog 62 #[.pointer (some ⟨R, 0, none⟩)] w (SomePts B R zs w p) := by
  have hlt := hR.lt
  have hBR := hR.1
  obtain ⟨i0, hi, hz0, hz1, hz2⟩ := info_parts Try.infoI
  have hrow0 : Row (w.alloc (.cells #[.int .i64 0] 3)) w.heap.size 3 (some ⟨w.heap.size, 0, none⟩) 1 1 [.int .i64 0] := Row.of_block #[.int .i64 0] 1 (heap_al0 w _) (Nat.le_refl _) rfl (by omega)
  go_enter Try.func62, Try.ntmps62
  go_wp2_with fail
  refine (one_any B R zs p _ 6 6 [3, 4, 2, 5, 1, 0] _ ((hR.alloc _).alloc _) (by omega) (rd_litAt _ (by simp) _ _ 6 _ rfl rfl (by omega)) (by omega) (by omega) (fun b o e => by injection e with e; injection e with e1 e2; omega)).mono ?_
  rintro e w1 ⟨rounds, hn, rfl, hR1, hg1⟩
  have hn1 : 0 ≤ rounds ∧ rounds ≤ 5 := by simp at hn; omega
  obtain ⟨hn1a, hn1b⟩ := hn1
  have hrow1 := (hrow0.alloc _).drawn hg1 (hrow0.ne_of_lt hlt)
  have hG1 : w.grownBy w1 (some R) := grown_trans (grown_alloc (grown_alloc (grown_refl w _) _) _) hg1
  clear hn hg1 hrow0
  obtain ⟨r0, rfl⟩ := Int.eq_ofNat_of_zero_le hn1a
  go_wp2_with fail
  go_loopw [3, 4, 5] (fun v t k wr => ∃ (A' : Option Addr) (n' c' : Nat) (ls : List Int) (a r q : Nat), v = .slice A' n' c' ∧ t = .int .i64 a ∧ k = .int .i64 r ∧ Row wr w.heap.size 3 A' n' c' (ls.map I) ∧ (∀ z ∈ ls, 0 ≤ z ∧ z ≤ 57) ∧ 1 ≤ n' ∧ n' + r ≤ 6 ∧ a ≤ 57 ∧ q + r ≤ p + 6 ∧ Rdr wr B R zs q ∧ w.grownBy wr (some R)) (fun _ _ k _ => (intOf k).toNat)
  case atStart => exact ⟨_, 1, 1, [0], 0, r0, p + 1, rfl, rfl, rfl, hrow1, by simp, by omega, by omega, by omega, by omega, hR1, hG1⟩
  case round =>
    obtain ⟨A', n', c', ls, a, r, q, rfl, rfl, rfl, hrow, hls, h1, h2, h3, h4, hRr, hGr⟩ := hrel
    have hlen := hrow.len
    simp at hlen
    have hwr := hGr.size
    clear hR1 hG1 hrow1
    by_cases hgo : 0 < r ∧ a < 50
    · obtain ⟨h1a, h1b⟩ := hgo
      go_wp2_with fail
      refine (pick_any B R zs q 8 _ hRr (by omega) (by omega) (by omega)).mono ?_
      rintro e w3 ⟨v, rfl, hv, _, hR3, hg3⟩
      have hv4 : v < 8 := by have := hv (by omega); omega
      have hG3 := grown_trans hGr hg3
      have hrow3 := hrow.drawn hg3 (hrow.ne_of_lt hlt)
      have hs3 := hG3.size
      have e1 : IntKind.i64.wrap ((a : Int) + 1) = (a : Int) + 1 := by rw [IntKind.wrap_i64]; omega
      have e2 : IntKind.i64.wrap ((a : Int) + 1 + (v : Int)) = (a : Int) + 1 + (v : Int) := by rw [IntKind.wrap_i64]; omega
      clear hv hg3
      go_wp2_with (at_builtin; refine wpList_app1 _ rfl _ _ 22 rfl w.heap.size 3 i0 (.int .i64 0) 8 Try.underlying22 hi hz0 hz1 hz2 rfl _ _ _ _ rfl (hrow3.alloc _) _ (.int .i64 ((a : Int) + 1 + (v : Int))) rfl (cell_one_new _ _ _) rfl (by omega) (by omega) (by simp; omega) ?_; intro A2 c2 w4 hown2 hgrow2)
      have hG4 := grown_app hlt hG3 hrow3 hgrow2
      have hR4 := (hR3.alloc (.cells #[.int .i64 ((a : Int) + 1 + (v : Int))] 3)).grown hgrow2 (fun k hk => by have := row_ge hrow3 k hk; omega)
      clear hgrow2
      go_wp2_with fail
      go_roundw
      case rel =>
        refine ⟨A2, n' + 1, c2, ls ++ [(a : Int) + 1 + (v : Int)], a + 1 + v, r - 1, q + 1, rfl, by go_num, by go_num, by rw [map_snocI]; exact hown2, ?_, by omega, by omega, by omega, by omega, hR4, hG4⟩
        intro z hz
        rw [List.mem_append, List.mem_singleton] at hz
        rcases hz with hz | rfl
        · exact hls z hz
        · omega
      case measure => simp [intOf]; omega
    · have hend : ∀ (K : Prop), (¬ 0 < r → K) → (0 < r → ¬ a < 50 → K) → K := fun K k1 k2 => by
        by_cases hr0 : 0 < r
        · exact k2 hr0 (fun h => hgo ⟨hr0, h⟩)
        · exact k1 hr0
      refine hend _ (fun hr0 => ?_) (fun hr0 ha0 => ?_)
      all_goals
        go_wp2_with fail
        refine (pick_any B R zs q 30 _ hRr (by omega) (by omega) (by omega)).mono ?_
        rintro e w3 ⟨v, rfl, hv, _, hR3, hg3⟩
        have hG3 := grown_trans hGr hg3
        have hrow3 := hrow.drawn hg3 (hrow.ne_of_lt hlt)
        have hs3 := hG3.size
        have hrd3 := hrow3.rd
        have hlt3 := hR3.lt
        clear hv hg3
        have hnew : NewI w w3 A' n' c' ls := .of_own hrow3.own
        have hnc := hrd3.2.1
        have hcm := hrd3.2.2.1
        unfold maxLen at hcm
        obtain ⟨m, rfl⟩ : ∃ m, n' = m + 1 := ⟨n' - 1, by omega⟩
        obtain ⟨b, o, y, rfl, hb, hy, hcy⟩ := hrd3.int (show m < m + 1 by omega)
        have hy57 := hls y (List.mem_of_getElem? hy)
        have e1 : IntKind.i64.wrap ((m : Int) + 1 - 1) = (m : Int) := by rw [IntKind.wrap_i64]; omega
        have e2 : ((m : Int) + 1 - 1) = (m : Int) := by omega
        have b1 : (0 : Int) ≤ (m : Int) := by omega
        have b2 : (m : Int) < (m : Int) + 1 := by omega
        have hcyA : ∀ o1, (w3.alloc o1).cell? ⟨b, o + m, none⟩ = some (.int .i64 y) := fun o1 => (World.cell?_alloc_lt w3 o1 _ hb).trans hcy
        clear hy
        rcases Nat.lt_or_ge v 3 with hv3 | hv3
        · rcases (show v = 0 ∨ v = 1 ∨ v = 2 by omega) with rfl | rfl | rfl
          · by_cases hc1 : c' = 1
            · obtain rfl : m = 0 := by omega
              subst hc1
              go_wp2_with fail
              go_ret
              exact ⟨_, _, _, [], q + 1, rfl, ⟨⟨rfl, Nat.le_refl _, by unfold maxLen; omega, fun h => absurd h (by omega)⟩, fun h => absurd h (by omega)⟩, ⟨by simp, fun z hz => by cases hz⟩, by omega, hR3, hG3⟩
            have hc2 : ¬ c' ≤ 1 := by omega
            go_wp2_with fail
            go_ret
            refine ⟨_, _, _, _, q + 1, rfl, hnew.tail (by omega), ⟨by simp; omega, fun z hz => ?_⟩, by omega, hR3, hG3⟩
            have := hls z (List.mem_of_mem_drop hz)
            omega
          · go_wp2_with (at_builtin; refine wpList_app1 _ rfl _ _ 22 rfl w.heap.size 3 i0 (.int .i64 0) 8 Try.underlying22 hi hz0 hz1 hz2 rfl _ _ _ _ rfl (hrow3.alloc _) _ (.int .i64 y) rfl (cell_one_new _ _ _) rfl (by omega) (by omega) (by simp; omega) ?_; intro A2 c2 w4 hown2 hgrow2)
            have hG4 := grown_app hlt hG3 hrow3 hgrow2
            have hR4 := (hR3.alloc (.cells #[.int .i64 y] 3)).grown hgrow2 (fun k hk => by have := row_ge hrow3 k hk; omega)
            rw [← map_snocI] at hown2
            clear hgrow2
            go_wp2_with fail
            go_ret
            refine ⟨_, _, _, _, q + 1, rfl, .of_own hown2.own, ⟨by simp; omega, fun z hz => ?_⟩, by omega, hR4, hG4⟩
            rw [List.mem_append, List.mem_singleton] at hz
            rcases hz with hz | rfl
            · have := hls z hz
              omega
            · omega
          · go_wp2_with (at_builtin; refine wpList_app1 _ rfl _ _ 22 rfl w.heap.size 3 i0 (.int .i64 0) 8 Try.underlying22 hi hz0 hz1 hz2 rfl _ _ _ _ rfl (hrow3.alloc _) _ (.int .i64 61) rfl (cell_one_new _ _ _) rfl (by omega) (by omega) (by simp; omega) ?_; intro A2 c2 w4 hown2 hgrow2)
            have hG4 := grown_app hlt hG3 hrow3 hgrow2
            have hR4 := (hR3.alloc (.cells #[.int .i64 61] 3)).grown hgrow2 (fun k hk => by have := row_ge hrow3 k hk; omega)
            rw [← map_snocI] at hown2
            clear hgrow2
            go_wp2_with fail
            go_ret
            refine ⟨_, _, _, _, q + 1, rfl, .of_own hown2.own, ⟨by simp; omega, fun z hz => ?_⟩, by omega, hR4, hG4⟩
            rw [List.mem_append, List.mem_singleton] at hz
            rcases hz with hz | rfl
            · have := hls z hz
              omega
            · omega
        · have v0 : ¬ (v : Int) = 0 := by omega
          have v1 : ¬ (v : Int) = 1 := by omega
          have v2 : ¬ (v : Int) = 2 := by omega
          go_wp2_with fail
          go_ret
          refine ⟨_, _, _, _, q + 1, rfl, hnew, ⟨by omega, fun z hz => ?_⟩, by omega, hR3, hG3⟩
          have := hls z hz
          omega
end Go.Proofs.Ytopmifidhabobaa
