/-
  The law of PlacesFor: what is drawn answers as it says.
-/
import Derived.Test.YtopmifidhabobaaSsl
import Derived.Test.YtopmifidhabobaaPlq
import Derived.Test.YtopmifidhabobaaPlr
import Derived.Test.YtopmifidhabobaaPly
import Derived.Test.YtopmifidhabobaaLawsI
import Derived.Test.YtopmifidhabobaaPut
import Derived.Deep.RegionWith
namespace Go.Proofs.Ytopmifidhabobaa
open Go.RowKit Go.Sort
set_option linter.unusedVariables false
set_option linter.unusedSimpArgs false

theorem equalInts_same_ (A : Option Addr) (n c : Nat) (us : List Int) (A2 : Option Addr) (n2 c2 : Nat) (w : World) (B B2 : Nat) (hr : Rd w B A n c (us.map I)) (hr2 : Rd w B2 A2 n2 c2 (us.map I)) :
    Calls Try.prog 28 #[.slice A n c, .slice A2 n2 c2] w fun e w' => e = .returned (.bool true) ∧ Quiet w w' :=
  (equalInts_any A n c us A2 n2 c2 us w B B2 hr hr2).mono fun _ _ ⟨h1, h2⟩ => ⟨h1.trans (ret_bool (by simp)), h2⟩
set_option maxHeartbeats 1600000 in
theorem equalLists_same (A : Option Addr) (n c : Nat) (P : List SP) (A2 : Option Addr) (n2 c2 : Nat) (P2 : List SP) (w : World) (lo hi lo2 hi2 : Nat) (hs : SS w lo hi A n c P FI) (hs2 : SS w lo2 hi2 A2 n2 c2 P2 FI) (he : P.map Prod.snd = P2.map Prod.snd) :
    Calls Try.prog 31 #[.slice A n c, .slice A2 n2 c2] w fun e w' => e = .returned (.bool true) ∧ Quiet w w' := by
  obtain rfl : n = n2 := by
    have := congrArg List.length he
    rw [List.length_map, List.length_map, hs.len, hs2.len] at this
    exact this
  have hnc := hs.outer.2.1
  have hcm := hs.outer.2.2.1
  have hnc2 := hs2.outer.2.1
  have hcm2 := hs2.outer.2.2.1
  unfold maxLen at hcm hcm2
  have hne : ((n : Int) != (n : Int)) = false := by simp
  go_enter Try.func31, Try.ntmps31
  go_wp2_with fail
  go_loopw [5] (fun i wr => ∃ k : Nat, k ≤ n ∧ i = .int .i64 k ∧ Quiet w wr) (fun i _ => n - (intOf i).toNat)
  case atStart => exact ⟨0, Nat.zero_le _, rfl, Quiet.refl _⟩
  case round =>
    obtain ⟨k, hk, rfl, hq⟩ := hrel
    by_cases hlt : k < n
    · obtain ⟨p, hp⟩ : ∃ p, P[k]? = some p := ⟨_, List.getElem?_eq_getElem (by have := hs.len; omega)⟩
      obtain ⟨p2, hp2⟩ : ∃ p2, P2[k]? = some p2 := ⟨_, List.getElem?_eq_getElem (by have := hs2.len; omega)⟩
      have hpe : p2.2 = p.2 := by
        have h1 := congrArg (fun l => l[k]?) he
        simp only [List.getElem?_map, hp, hp2, Option.map_some] at h1
        injection h1 with h1
        exact h1.symm
      obtain ⟨g, rfl, _, hc1⟩ := (hs.quiet hq).cell hp
      obtain ⟨g2, rfl, _, hc2⟩ := (hs2.quiet hq).cell hp2
      have hE : ∀ m, Calls Try.prog 28 #[.slice p.1.1 p.1.2.1 p.1.2.2, .slice p2.1.1 p2.1.2.1 p2.1.2.2] (wr.drewN m) fun e w' => e = .returned (.bool true) ∧ Quiet (wr.drewN m) w' := fun m =>
        equalInts_same_ _ _ _ p.2 _ _ _ (wr.drewN m) _ _ (((hs.quiet hq).inner k p hp).rd) (by
          have h := ((hs2.quiet hq).inner k p2 hp2).rd
          unfold FI at h
          rw [hpe] at h
          exact h)
      obtain ⟨⟨pa, pn, pc⟩, pl⟩ := p
      obtain ⟨⟨qa, qn, qc⟩, ql⟩ := p2
      dsimp only at hE hc1 hc2
      have hlt' : (k : Int) < (n : Int) := by omega
      have k0 : (0 : Int) ≤ (k : Int) := by omega
      have e5 : IntKind.i64.wrap ((k : Int) + 1) = (k : Int) + 1 := by rw [IntKind.wrap_i64]; omega
      clear hp hp2 hpe he
      go_wp2_with fail
      go_quiet ((go_at_call 28; exact Calls.quiet_of (hE _)))
      go_wp2_with fail
      go_roundw
      case rel => exact ⟨k + 1, by omega, by go_num, hq.drewN _⟩
      case measure => simp [intOf]; omega
    · have hlt' : ¬ (k : Int) < (n : Int) := by omega
      go_wp2_with fail
      go_ret
      exact ⟨rfl, hq⟩
end Go.Proofs.Ytopmifidhabobaa

namespace Go.Proofs.Ytopmifidhabobaa
set_option linter.unusedVariables false
set_option linter.unusedSimpArgs false

theorem turn_srt {top : Int} {y : List Int} (hs : y.Pairwise (fun a b => a ≤ b)) (hl : y.getD (y.length - 1) 0 = top) : turn y = srt (rfl_ top y) := by
  unfold turn
  rw [hl]
  refine sorted_eq ?_ ?_ (srt_sorted _)
  · unfold trn rfl_
    exact (((List.reverse_perm y).map _).trans (srt_perm _).symm)
  · unfold trn
    rw [List.pairwise_map, List.pairwise_reverse]
    exact hs.imp (fun {a b} h => by omega)
theorem PL_mem {zs : List Int} (h : vd zs = true) (hne : zs ≠ []) (y : List Int) : y ∈ PL zs ↔ y ∈ lvS (zs.length - 1) (topOf zs) [0, topOf zs] zs.dropLast := by
  unfold PL
  rw [if_neg (by rw [h]; simp), if_neg hne, (fold_insU _ [] (by simp [Asc])).2]
  simp
theorem PL_rfl {zs : List Int} (h : vd zs = true) (hne : zs ≠ []) {y : List Int} (hy : y ∈ PL zs) : srt (rfl_ (topOf zs) y) ∈ PL zs := by
  rw [PL_mem h hne] at hy ⊢
  have h1 := lvS_rfl _ _ _ _ _ hy
  have e : (rfl_ (topOf zs) [0, topOf zs]).Perm [0, topOf zs] := by
    unfold rfl_
    simp only [List.map_cons, List.map_nil]
    rw [show topOf zs - 0 = topOf zs by omega, show topOf zs - topOf zs = 0 by omega]
    exact List.Perm.swap _ _ _
  rw [lvS_perm _ _ _ e] at h1
  exact h1
/-- All that is found is points with the distances. -/
theorem PL_vp {zs : List Int} (h : vd zs = true) (hne : zs ≠ []) {y : List Int} (hy : y ∈ PL zs) : vp y = true ∧ dsr y = zs ∧ y.getD (y.length - 1) 0 = topOf zs := by
  rw [PL_mem h hne] at hy
  have hm : topOf zs ∈ zs := last_mem hne
  have ht := vd_in h _ hm
  have hl0 : zs.dropLast.length ≤ zs.length - 1 := by rw [List.length_dropLast]; exact Nat.le_refl _
  obtain ⟨q, rfl, hg, hap, hnd⟩ := lvS_mem (topOf zs) _ [0, topOf zs] zs.dropLast (got0 h hne) hl0 (by simp; omega) y hy
  have hsy := srt_sorted q
  have hpy := srt_perm q
  have hap2 : (apd q).Perm zs := by
    refine hap.trans ?_
    have e : apd [0, topOf zs] = [topOf zs] := by simp [apd, gaps]; omega
    rw [e]
    have h2 : zs = zs.dropLast ++ [topOf zs] := by
      conv => lhs; rw [← List.dropLast_concat_getLast hne]
      unfold topOf
      rw [List.getLastD_eq_getLast?, List.getLast?_eq_some_getLast hne]
      rfl
    conv => rhs; rw [h2]
    exact List.perm_append_comm
  have hdst : (dst (srt q)).Perm zs := (dst_apd hsy).trans ((apd_perm hpy).trans hap2)
  have hlen : (srt q).length ≤ 6 := by
    have h1 := dTo_len (srt q) (srt q).length (Nat.le_refl _)
    have h2 := hdst.length_eq
    have h3 := vd_len h
    unfold dst at h2
    rcases Nat.lt_or_ge 6 (srt q).length with h4 | h4
    · have h5 := Nat.mul_le_mul_right (srt q).length h4
      omega
    · exact h4
  have h0 : (0 : Int) ∈ srt q := hpy.mem_iff.2 hg.zero
  have hall : ∀ x ∈ srt q, 0 ≤ x ∧ x ≤ topOf zs := fun x hx => hg.all x (hpy.mem_iff.1 hx)
  have hnd2 : (srt q).Nodup := hpy.nodup_iff.2 hnd
  refine ⟨(vp_iff _).2 ⟨hlen, ?_, fun x hx => ⟨(hall x hx).1, by have := (hall x hx).2; omega⟩, ?_⟩, ?_, ?_⟩
  · cases hq : srt q with
    | nil => rw [hq] at h0; cases h0
    | cons a r =>
      rw [hq] at h0 hsy hall
      refine ⟨r, ?_⟩
      have h1 := (hall a (by simp)).1
      rw [List.mem_cons] at h0
      rcases h0 with h0 | h0
      · rw [h0]
      · have := (List.pairwise_cons.1 hsy).1 0 h0
        rw [show a = 0 by omega]
  · exact (hsy.and hnd2).imp (fun {a b} h => by have := h.1; have := h.2; omega)
  · unfold dsr
    rw [srt_of_perm hdst]
    exact srt_of_sorted (vd_asc h)
  · have hne2 : srt q ≠ [] := fun e => by rw [e] at h0; cases h0
    have h1 : topOf (srt q) = (srt q).getD ((srt q).length - 1) 0 := by
      unfold topOf
      rw [List.getLastD_eq_getLast?, List.getLast?_eq_getElem?, List.getD_eq_getElem?_getD]
    rw [← h1]
    have h2 := le_last hsy _ (hpy.mem_iff.2 hg.top_)
    have h3 := (hall _ (last_mem hne2)).2
    show topOf (srt q) = topOf zs
    unfold topOf at h2 h3 ⊢
    omega
end Go.Proofs.Ytopmifidhabobaa

namespace Go.Proofs.Ytopmifidhabobaa
open Go.RowKit
set_option linter.unusedVariables false
set_option linter.unusedSimpArgs false

def NewNums (w : World) (e : Ending) (w' : World) : Prop := ∃ (A : Option Addr) (n c : Nat) (ls : List Int), e = .returned (.slice A n c) ∧ Rd w' w'.heap.size A n c (ls.map I) ∧ n ≤ 1000 ∧ Below w.heap.size w w'
theorem DO_le36 (zs : List Int) : (DO zs).length ≤ 36 := by
  unfold DO
  split
  · next h => exact dsr_len zs h
  · simp
set_option maxHeartbeats 1600000 in
theorem DrawPlacesFor_any (A : Option Addr) (n c : Nat) (zs : List Int) (w : World) (hr : Rd w w.heap.size A n c (zs.map U8)) (hz : ∀ z ∈ zs, 0 ≤ z ∧ z ≤ 255) :
    Calls Try.prog 30 #[.slice A n c] w (NewNums w) := by
  have H := Lib.hid (newReader_any A n c zs w hr hz)
  clear hr hz
  go_enter Try.func30, Try.ntmps30
  go_wp2_with fail
  refine H.out.mono ?_
  rintro e w1 ⟨R, rs, rfl, hR, hb1⟩
  have hge := hR.1
  have hlt := hR.lt
  have s1 := hb1.size
  go_wp2_with fail
  refine (somePoints_any _ R rs 0 w1 hR (by omega)).mono ?_
  rintro e w2 ⟨A2, n2, c2, ls, q, rfl, hn, hd, hq, hR2, hg⟩
  have s2 := hg.size
  have B2 : Below w.heap.size w w2 := kp_grown hb1 (Nat.le_refl _) hg (fun k hk => by cases hk; exact hge)
  clear H hR hg hb1
  go_wp2_with fail
  refine (specDistancesOf_any A2 n2 c2 ls w2 hn.1).mono ?_
  rintro e w3 ⟨A4, n4, c4, rfl, ho4, hb3⟩
  have s3 := hb3.size
  have B3 := B2.trans (hb3.mono B2.size)
  have hR3 := hR2.kept hb3
  have hR3lt := hR2.lt
  have o4 := ho4.win
  have hn4 : n4 ≤ 36 := by have h1 := o4.rd.ilen; have h2 := DO_le36 ls; omega
  have hnc := o4.rd.2.1
  obtain ⟨L, hL⟩ : ∃ L, L = DO ls := ⟨_, rfl⟩
  rw [← hL] at o4
  clear ho4 hR2 hb3 hn hL
  by_cases h0 : n4 = 0
  · subst h0
    go_wp2_with fail
    go_ret
    exact ⟨_, _, _, _, rfl, o4.rd, by omega, B3⟩
  · have hpos : (0 : Int) < (n4 : Int) := by omega
    have hposn : 0 < n4 := by omega
    go_wp2_with fail
    refine (pick_any w.heap.size R rs q 5 w3 hR3 (by omega) (by omega) (by omega)).mono ?_
    rintro e w4 ⟨v, rfl, hv, _, hR4, hg4⟩
    have s4 := hg4.size
    have o4 := o4.grown hg4 (fun k hk => by cases hk; omega)
    have B4 : Below w.heap.size w w4 := kp_grown B3 (Nat.le_refl _) hg4 (fun k hk => by cases hk; exact hge)
    clear hv hR3 hg4 B3
    rcases Nat.eq_zero_or_pos v with hv0 | hv0
    · subst hv0
      go_wp2_with fail
      refine (pick_any w.heap.size R rs (q + 1) n4 w4 hR4 (by omega) (by omega) (by omega)).mono ?_
      rintro e w5 ⟨v, rfl, hv, _, hR5, hg5⟩
      have hvn : v < n4 := by have := hv (by omega); omega
      have s5 := hg5.size
      have o5 := o4.grown hg5 (fun k hk => by cases hk; omega)
      have B5 : Below w.heap.size w w5 := kp_grown B4 (Nat.le_refl _) hg5 (fun k hk => by cases hk; exact hge)
      clear hv hR4 hg5 B4 o4
      obtain ⟨g, cur, rfl, hg1, hg2, hh, ht⟩ := o5.2.2.2 hposn
      have hll : L.length = n4 := o5.rd.ilen
      have hvl : v < L.length := by omega
      obtain ⟨y, hy⟩ : ∃ y, L[v]? = some y := ⟨_, List.getElem?_eq_getElem hvl⟩
      have hcv : cur[v]? = some (.int .i64 y) := by
        have h1 : (cur.toList.take n4)[v]? = some (.int .i64 y) := by rw [ht, List.getElem?_map, hy]; rfl
        rw [List.getElem?_take_of_lt hvn] at h1
        simpa using h1
      have hcell : ∀ W : World, W.heap[g]? = w5.heap[g]? → W.cell? ⟨g, v, none⟩ = some (.int .i64 y) ∧ W.frozen? ⟨g, v, none⟩ = false := fun W hW => by
        have h2 := hW.trans hh
        exact ⟨by rw [cell_of_row W g v cur _ (0, 0) h2, hcv], frozen_of_row W g v cur _ h2⟩
      have hgl : g < w5.heap.size := (Array.getElem?_eq_some_iff.1 hh).1
      have hRg : R ≠ g := by have := hR3lt; omega
      have hv0 : (0 : Int) ≤ (v : Int) := by omega
      have hv1 : (v : Int) < (n4 : Int) := by omega
      have hR5' : Rdr (w5.alloc (.cells #[.int .i64 1, .int .i64 (-1), .int .i64 60] 3)).drew w.heap.size R rs (q + 1 + 1) := hR5.alloc _
      have hlit : Rd (w5.alloc (.cells #[.int .i64 1, .int .i64 (-1), .int .i64 60] 3)).drew (w5.alloc (.cells #[.int .i64 1, .int .i64 (-1), .int .i64 60] 3)).drew.heap.size (some ⟨w5.heap.size, 0, none⟩) 3 3 ([1, -1, 60].map I) := rd_lit w5 _ _ 3 _ rfl rfl (by omega)
      have hone := Lib.hid (one_any w.heap.size R rs (q + 1 + 1) _ 3 3 [1, -1, 60] _ hR5' (by omega) hlit (by omega) (by omega) (fun b o e => by have := hR5.lt; injection e with e; injection e with e1 e2; omega))
      have hc5 : w5.drew.cell? ⟨g, v, none⟩ = some (.int .i64 y) := (hcell w5.drew rfl).1
      have hcA : ∀ o1, (w5.alloc o1).drew.cell? ⟨g, v, none⟩ = some (.int .i64 y) := fun o1 => (hcell (w5.alloc o1).drew (Below.heap_alloc w5 o1 g hgl)).1
      clear hR5' hlit
      have Hcell := Lib.hid hcell
      have Hh := Lib.hid hh
      have Ht := Lib.hid ht
      clear hcell hh ht hcv hy
      go_wp2_with fail
      go_region_with
        (first
        | (go_at_call 69; go_loud (
           with_reducible refine hone.out.mono ?_
           rintro e w6 ⟨x, hx, rfl, hR6, hg6⟩
           have hb6 := hg6.block g (by simp; omega) (by simpa using hRg.symm)
           have hc6 := (Hcell.out w6 (hb6.trans (Below.heap_alloc w5 _ g hgl))).1
           have hf6 := (Hcell.out w6 (hb6.trans (Below.heap_alloc w5 _ g hgl))).2)))
      all_goals
        have B6 : Below w.heap.size w w6 := kp_grown (⟨B5.os, B5.tape, B5.output, (B5.alloc B5.size _).size, (B5.alloc B5.size _).block⟩ : Below w.heap.size w (w5.alloc (.cells #[.int .i64 1, .int .i64 (-1), .int .i64 60] 3)).drew) (Nat.le_refl _) hg6 (fun k hk => by cases hk; exact hge)
        have hh6 : w6.heap[g]? = some (.cells cur 3 (0, 0)) := (hb6.trans (Below.heap_alloc w5 _ g hgl)).trans Hh.out
        have hnew := Go.Joins.block_setCell (i := v) hh6 (.int .i64 (IntKind.i64.wrap (y + x)))
        have hs6 := B6.size
        have s6 : w5.heap.size ≤ w6.heap.size := by have := hg6.size; simp at this; omega
        have B7 : Below w.heap.size w (w6.setCell ⟨g, v, none⟩ (.int .i64 (IntKind.i64.wrap (y + x)))) := ⟨B6.os, B6.tape, B6.output, by simpa using B6.size, fun b hb => (heap_setCell_other w6 ⟨g, v, none⟩ b _ (fun e => by simp at e; omega)).trans (B6.block b hb)⟩
        have own7 : OwnW (w6.setCell ⟨g, v, none⟩ (.int .i64 (IntKind.i64.wrap (y + x)))) w2.heap.size w3.heap.size 3 (some ⟨g, 0, none⟩) n4 c4 ((L.set v (IntKind.i64.wrap (y + x))).map I) :=
          ⟨by simp; omega, hnc, o5.2.2.1, fun _ => ⟨g, _, rfl, hg1, hg2, hnew, by rw [Array.toList_setIfInBounds, List.take_set, Ht.out, List.map_set]; rfl⟩⟩
        clear hnew hc6 hf6 hb6 hh6 hg6 hR6
        go_wp2_with fail
        go_ret
        exact ⟨_, _, _, _, rfl, own7.rd' (by simp; omega), by omega, B7⟩
    · have hvn : ¬ (v : Int) = 0 := by omega
      go_wp2_with fail
      go_ret
      exact ⟨_, _, _, _, rfl, o4.rd' (by omega), by omega, B4⟩
theorem PL_asc (zs : List Int) : Asc (PL zs) := by
  unfold PL
  split
  · simp [Asc]
  · split
    · simp [Asc]
    · exact (fold_insU _ [] (by simp [Asc])).1
theorem Asc.nodup {L : List (List Int)} (h : Asc L) : L.Nodup := h.imp fun {a b} h e => by
  subst e
  rw [ltL_irrefl] at h
  cases h
/-- What is found: points, with the distances, and turned round they are found, too. -/
theorem PL_law {zs y : List Int} (h : y ∈ PL zs) : TP y ∈ PL zs ∧ DO y = zs := by
  have hv : vd zs = true := by
    cases hv : vd zs with
    | true => rfl
    | false => rw [PL_no hv] at h; cases h
  by_cases hne : zs = []
  · subst hne
    unfold PL at h ⊢
    rw [if_neg (by rw [hv]; simp), if_pos rfl, List.mem_singleton] at h
    rw [if_neg (by rw [hv]; simp), if_pos rfl, List.mem_singleton, h]
    exact ⟨by decide, by unfold DO dsr; rw [show dst [0] = [] from rfl]; simp [srt]⟩
  · obtain ⟨h1, h2, h3⟩ := PL_vp hv hne h
    have hs : y.Pairwise (fun a b => a ≤ b) := ((vp_iff y).1 h1).2.2.2.imp (fun {a b} h => by omega)
    refine ⟨?_, ?_⟩
    · unfold TP
      rw [h1, if_pos rfl, turn_srt hs h3]
      exact PL_rfl hv hne h
    · unfold DO
      rw [h1, if_pos rfl, h2]
theorem bel_callP {N : Nat} {W w5 w6 : World} (hb : Below w5.heap.size w5 w6) (h : Below N W w5) (hN : N ≤ W.heap.size) : Below N W w6 := h.trans (hb.mono (Nat.le_trans hN h.size))
def metTo (P : List SP) (ys : List Int) (k : Nat) : Bool := (P.take k).any fun p => decide (p.2 = ys)
theorem metTo_succ {P : List SP} (ys : List Int) {k : Nat} {q : SP} (h : P[k]? = some q) : metTo P ys (k + 1) = (metTo P ys k || decide (q.2 = ys)) := by
  obtain ⟨h1, rfl⟩ := List.getElem?_eq_some_iff.1 h
  unfold metTo
  rw [List.take_succ_eq_append_getElem h1, List.any_append]
  simp
theorem metTo_all {P : List SP} {ys : List Int} {n : Nat} {p : SP} (hn : P.length ≤ n) (hp : p ∈ P) (he : p.2 = ys) : metTo P ys n = true := by
  unfold metTo
  rw [List.take_of_length_le hn, List.any_eq_true]
  exact ⟨p, hp, by simpa using he⟩
set_option maxRecDepth 8000 in
set_option maxHeartbeats 20000000 in
theorem walkPlacesFor (A : Option Addr) (n c : Nat) (zs : List Int) (w : World) (hr : Rd w w.heap.size A n c (zs.map U8)) (hz : ∀ z ∈ zs, 0 ≤ z ∧ z ≤ 255) :
    Calls Try.prog 5 #[.slice A n c] w (RetVal w (.bool true)) := by
  by_cases hbig : 1048576 < n
  · clear hz hr
    go_enter Try.func5, Try.ntmps5
    go_wp2_with fail
    go_ret
    exact ⟨rfl, Below.refl _ _⟩
  have H := Lib.hid (DrawPlacesFor_any A n c zs w hr hz)
  clear hr hz
  go_enter Try.func5, Try.ntmps5
  go_wp2_with fail
  refine H.out.mono ?_
  rintro e w1 ⟨A1, n1, c1, ls, rfl, r1, hn1, B1⟩
  have s1 := B1.size
  clear H
  go_wp2_with fail
  refine (PlacesFor_any A1 n1 c1 ls w1 r1 (by omega)).mono ?_
  rintro e w2 ⟨A2, n2, c2, P, rfl, ho2, hi2, hd2, hP, hb2⟩
  have S2 : SS w2 w1.heap.size w2.heap.size A2 n2 c2 P FI := SS.of ho2 hi2
  have s2 := hb2.size
  have B2 := B1.trans (hb2.mono s1)
  have r2 := (r1.below hb2).more s2
  clear ho2 hi2 hd2 hb2 B1
  go_wp2_with fail
  refine (specPlacesFor_any A1 n1 c1 ls w2 r2 (by omega)).mono ?_
  rintro e w3 ⟨A3, n3, c3, P3, rfl, ho3, hi3, hP3, hb3⟩
  have S3 : SS w3 w2.heap.size w3.heap.size A3 n3 c3 P3 FI := SS.of ho3 hi3
  have s3 := hb3.size
  have B3 := B2.trans (hb3.mono B2.size)
  have r3 := (r2.below hb3).more s3
  have S2 := S2.below hb3 (Nat.le_refl _)
  have hPP : P.map Prod.snd = P3.map Prod.snd := hP.trans hP3.symm
  clear ho3 hi3 hb3 B2 r2 r1
  go_wp2_with fail
  refine (equalLists_same A2 n2 c2 P A3 n3 c3 P3 w3 _ _ _ _ S2 S3 hPP).mono ?_
  rintro e w4 ⟨rfl, hq4⟩
  have B4 := B3.trans (hq4.bel _)
  have s4 := (hq4.bel w3.heap.size).size
  have r4 := (r3.below (hq4.bel _)).more s4
  have S2 := S2.quiet hq4
  have S3 := S3.quiet hq4
  clear hq4 B3 r3
  by_cases h0 : n2 = 0
  · subst h0
    go_wp2_with fail
    refine (specPlacesFor_any A1 n1 c1 ls w4 r4 (by omega)).mono ?_
    rintro e w5 ⟨A5, n5, c5, P5, rfl, ho5, hi5, hP5, hb5⟩
    have S5 : SS w5 w4.heap.size w5.heap.size A5 n5 c5 P5 FI := SS.of ho5 hi5
    have S2 := S2.below hb5 (by omega)
    have B5 := B4.trans (hb5.mono B4.size)
    go_wp2_with fail
    refine (equalLists_same A2 0 c2 P A5 n5 c5 P5 w5 _ _ _ _ S2 S5 (hP.trans hP5.symm)).mono ?_
    rintro e w6 ⟨rfl, hq6⟩
    go_wp2_with fail
    go_ret
    exact ⟨rfl, B5.trans (hq6.bel _)⟩
  · have hlen := S2.len
    have hnm := S2.outer.2.2.1
    have hnc := S2.outer.2.1
    unfold maxLen at hnm
    have h0' : ¬ (n2 : Int) = 0 := by omega
    have Hlaw := Lib.hid (fun (p : SP) (hp : p ∈ P) => PL_law (zs := ls) (y := p.2) (hP ▸ List.mem_map_of_mem hp))
    have Hmem := Lib.hid (fun (y : List Int) (hy : y ∈ PL ls) => (show ∃ p ∈ P, p.2 = y by
      rw [← hP] at hy
      obtain ⟨p, h1, h2⟩ := List.mem_map.1 hy
      exact ⟨p, h1, h2⟩))
    have Hnd := Lib.hid (show (P.map Prod.snd).Nodup by rw [hP]; exact (PL_asc ls).nodup)
    have HP := Lib.hid hP
    have hw24 : w2.heap.size ≤ w4.heap.size := by omega
    clear hP hPP hP3 S3 h0
    have hn00 : ((n2 : Int) == 0) = false := by simp; omega
    go_wp2_with fail
    clear hn00
    go_loopw [5, 6, 7, 8] (fun i _ _ _ wr => ∃ j : Nat, j ≤ n2 ∧ i = .int .i64 j ∧ w4.heap.size ≤ wr.heap.size ∧ Below w4.heap.size w4 wr) (fun i _ _ _ _ => n2 - (intOf i).toNat)
    case atStart => exact ⟨0, by omega, rfl, Nat.le_refl _, Below.refl _ _⟩
    case round =>
      obtain ⟨j, hj, rfl, hsz, hbr⟩ := hrel
      obtain ⟨wq, rfl⟩ : ∃ wq : World, wq = wr := ⟨_, rfl⟩
      have S2 := S2.below hbr (by omega)
      have r4 := (r4.below hbr).more hsz
      have B6 := B4.trans (hbr.mono B4.size)
      by_cases hlt : j < n2
      · obtain ⟨p, hp⟩ : ∃ p, P[j]? = some p := ⟨_, List.getElem?_eq_getElem (by omega)⟩
        obtain ⟨hlaw1, hlaw2⟩ := Hlaw.out p (List.mem_of_getElem? hp)
        obtain ⟨p', hp', hpe⟩ := Hmem.out _ hlaw1
        obtain ⟨g, hge, _, hc1⟩ := S2.cell hp
        subst hge
        have HT := Lib.hid (TurnPoints_any _ _ _ p.2 wq ((S2.inner j p hp).rd' (by omega)))
        obtain ⟨ys, hys⟩ : ∃ ys, ys = TP p.2 := ⟨_, rfl⟩
        rw [← hys] at HT hpe
        have Hmet := Lib.hid (show metTo P ys n2 = true from metTo_all (by omega) hp' hpe)
        have Hp := Lib.hid hp
        have hlt' : (j : Int) < (n2 : Int) := by omega
        have k0 : (0 : Int) ≤ (j : Int) := by omega
        obtain ⟨⟨pa, pn, pc⟩, pl⟩ := p
        dsimp only at HT hc1 hlaw2
        have Hlaw2 := Lib.hid hlaw2
        clear hp hlaw1 hp' hpe hys hlaw2
        go_wp2_with fail
        refine HT.out.mono ?_
        rintro e w7 ⟨A7, n7, c7, rfl, ho7, hb7⟩
        have s7 := hb7.size
        have B7 := B6.trans (hb7.mono B6.size)
        have b7 := hbr.trans (hb7.mono hsz)
        have S2 := S2.below hb7 (by omega)
        have r4 := (r4.below hb7).more s7
        have r7 := ho7.rd
        clear HT hb7 ho7 hc1 B6 hbr
        go_wp2_with fail
        go_loopw [7, 8] (fun v i wr => ∃ k : Nat, k ≤ n2 ∧ i = .int .i64 k ∧ v = .bool (metTo P ys k) ∧ Quiet w7 wr) (fun _ i _ => n2 - (intOf i).toNat)
        case atStart => exact ⟨0, by omega, rfl, rfl, Quiet.refl _⟩
        case round =>
          obtain ⟨k, hk, rfl, rfl, hq8⟩ := hrel
          obtain ⟨w8, rfl⟩ : ∃ w8 : World, w8 = wr := ⟨_, rfl⟩
          have S8 := S2.quiet hq8
          have r8 := hq8.rd r7
          by_cases hk2 : k < n2
          · obtain ⟨q, hq⟩ : ∃ q, P[k]? = some q := ⟨_, List.getElem?_eq_getElem (by omega)⟩
            have Hm := Lib.hid (metTo_succ ys hq)
            have hkk : (k : Int) < (n2 : Int) := by omega
            cases hm : metTo P ys k with
            | true =>
              rw [hm] at Hm
              clear hm
              go_wp2_with fail
              exact ⟨⟨k + 1, by omega, by go_num, by rw [Hm.out]; rfl, hq8⟩, by simp [intOf]; omega⟩
            | false =>
              rw [hm] at Hm
              obtain ⟨g9, hg9, _, hc9⟩ := S8.cell hq
              injection hg9 with hg9
              injection hg9 with hg9
              subst hg9
              have HE := Lib.hid (equalInts_any _ _ _ q.2 A7 n7 c7 ys w8 _ _ ((S8.inner k q hq).rd) r8)
              have k1 : (0 : Int) ≤ (k : Int) := by omega
              clear hm hq
              obtain ⟨⟨qa, qn, qc⟩, ql⟩ := q
              dsimp only at HE hc9 Hm
              go_wp2_with fail
              refine HE.out.mono ?_
              rintro e w9 ⟨rfl, hq9⟩
              have hq9 := hq8.trans hq9
              go_wp2_with fail
              refine ⟨⟨k + 1, by omega, ?_, ?_, hq9⟩, ?_⟩
              · go_num
              · rw [Hm.out]
                rfl
              · simp [intOf]
                omega
          · obtain rfl : n2 = k := by omega
            rw [Hmet.out]
            have b8 := hq8.bel w7.heap.size
            have s8 := b8.size
            have b78 := b7.trans (b8.mono (by omega))
            have hbd : Below w8.heap.size w8 w8.drew := ⟨rfl, rfl, rfl, Nat.le_refl _, fun _ _ => rfl⟩
            have r8' : Rd w8 w8.heap.size A1 n1 c1 (ls.map I) := (r4.below b8).more s8
            have hC := DistancesOf_any pa pn pc pl w8.drew ((S8.inner j _ Hp.out).rd.more (by show w2.heap.size ≤ w8.heap.size; omega))
            rw [Hlaw2.out] at hC
            have hS := fun (A5 : Option Addr) (n5 c5 : Nat) (w' : World) (h5 : Rd w' w'.heap.size A5 n5 c5 (ls.map I)) (hb5 : Below w8.heap.size w8 w') => equalInts_same_ A5 n5 c5 ls A1 n1 c1 w' _ _ h5 (r8'.below hb5)
            obtain ⟨g9, hg9, hgl, hcp⟩ := S8.cell Hp.out
            injection hg9 with hg9
            injection hg9 with hg9
            subst hg9
            dsimp only at hcp
            have hltX : (⟨g, j, none⟩ : Addr).block < w8.heap.size := by show g < _; omega
            have hcX := hcp
            by_cases hj0 : j = 0
            · have hj1 : ¬ ((0 : Int) < (j : Int)) := by omega
              have hjd1 : decide ((0 : Int) < (j : Int)) = false := by simp [hj0]
              have hjd2 : decide (0 < j) = false := by simp [hj0]
              clear hj0 hj1
              go_wp2_with fail
              refine wp_region_held_drew (S := fun w' => w'.cell? ⟨g, j, none⟩ = some (.slice pa pn pc) ∧ Below w8.heap.size w8 w') (by kernel_rfl) (kp_one hcp hltX hbd) (fun hHeld => ?_)
              clear hcX
              refine wpAnyH_take (i := 0) (v := ?v0) rfl (by kernel_rfl) (by kernel_rfl) (by kernel_rfl) (fun _ _ _ h => h) (Or.inl ⟨by rfl, ?hy0⟩) (by assumption) ?rest0
              case hy0 => (intro w hSw; (try dsimp only at hSw); go_simp; try with_reducible rfl)
              try simp only [Act.put, List.getElem_toArray, List.getElem_cons_zero, List.getElem_cons_succ, List.setIfInBounds_toArray, List.set_cons_zero, List.set_cons_succ]
              refine wpAnyH_take (i := 1) (v := ?v1) rfl (by kernel_rfl) (by kernel_rfl) (by kernel_rfl) (fun _ _ _ h => h) (Or.inl ⟨by rfl, ?hy1⟩) (by assumption) ?rest1
              case hy1 => (intro w hSw; (try dsimp only at hSw); go_simp; try with_reducible rfl)
              try simp only [Act.put, List.getElem_toArray, List.getElem_cons_zero, List.getElem_cons_succ, List.setIfInBounds_toArray, List.set_cons_zero, List.set_cons_succ]
              refine wpAnyH_take (i := 2) (v := ?v2) rfl (by kernel_rfl) (by kernel_rfl) (by kernel_rfl) (fun _ _ _ h => h) (Or.inl ⟨by rfl, ?hy2⟩) (by assumption) ?rest2
              case hy2 => (intro w hSw; (try dsimp only at hSw); go_simp; try with_reducible rfl)
              try simp only [Act.put, List.getElem_toArray, List.getElem_cons_zero, List.getElem_cons_succ, List.setIfInBounds_toArray, List.set_cons_zero, List.set_cons_succ]
              refine wpAnyH_take (i := 3) (v := ?v3) rfl (by kernel_rfl) (by kernel_rfl) (by kernel_rfl) (fun _ _ _ h => h) (Or.inl ⟨by rfl, ?hy3⟩) (by assumption) ?rest3
              case hy3 => (intro w hSw; (try dsimp only at hSw); go_simp; try with_reducible rfl)
              try simp only [Act.put, List.getElem_toArray, List.getElem_cons_zero, List.getElem_cons_succ, List.setIfInBounds_toArray, List.set_cons_zero, List.set_cons_succ]
              refine wpAnyH_take (i := 4) (v := ?v4) rfl (by kernel_rfl) (by kernel_rfl) (by kernel_rfl) (fun _ _ _ h => h) (Or.inl ⟨by rfl, ?hy4⟩) (by assumption) ?rest4
              case hy4 => (intro w hSw; (try dsimp only at hSw); go_simp; try with_reducible rfl)
              try simp only [Act.put, List.getElem_toArray, List.getElem_cons_zero, List.getElem_cons_succ, List.setIfInBounds_toArray, List.set_cons_zero, List.set_cons_succ]
              refine wpAnyH_take (i := 5) (v := ?v5) rfl (by kernel_rfl) (by kernel_rfl) (by kernel_rfl) (fun _ _ _ h => h) (Or.inl ⟨by rfl, ?hy5⟩) (by assumption) ?rest5
              case hy5 => (intro w hSw; (try dsimp only at hSw); go_simp; try with_reducible rfl)
              try simp only [Act.put, List.getElem_toArray, List.getElem_cons_zero, List.getElem_cons_succ, List.setIfInBounds_toArray, List.set_cons_zero, List.set_cons_succ]
              refine wpAnyH_take (i := 6) (v := ?v6) rfl (by kernel_rfl) (by kernel_rfl) (by kernel_rfl) (fun _ _ _ h => h) (Or.inl ⟨by rfl, ?hy6⟩) (by assumption) ?rest6
              case hy6 => (intro w hSw; (try dsimp only at hSw); go_simp; try with_reducible rfl)
              try simp only [Act.put, List.getElem_toArray, List.getElem_cons_zero, List.getElem_cons_succ, List.setIfInBounds_toArray, List.set_cons_zero, List.set_cons_succ]
              refine wpAnyH_take (i := 8) (v := ?v8) rfl (by kernel_rfl) (by kernel_rfl) (by kernel_rfl) (fun _ _ _ h => h) (Or.inl ⟨by rfl, ?hy8⟩) (by assumption) ?rest8
              case hy8 => (intro w hSw; (try dsimp only at hSw); go_simp; try with_reducible rfl)
              try simp only [Act.put, List.getElem_toArray, List.getElem_cons_zero, List.getElem_cons_succ, List.setIfInBounds_toArray, List.set_cons_zero, List.set_cons_succ]
              refine wpAnyH_ready (rs := [7]) (by kernel_rfl) (by simp) ?_
              refine AllReadyH.cons rfl (fun K hK => ?_) AllReadyH.nil
              go_simp
              with_reducible refine hC.mono ?_
              rintro e w10 ⟨A10, n10, c10, rfl, ho10, hb10⟩
              have hb8 : Below w8.heap.size w8 w10 := bel_callP hb10 hbd (Nat.le_refl _)
              try dsimp only
              refine hK.out _ _ (kp_one hcp hltX hb8) (fun hHeld2 => ?_)
              clear hK hHeld
              refine wpAnyH_ready (rs := [9]) (by kernel_rfl) (by simp) ?_
              refine AllReadyH.cons rfl (fun K hK => ?_) AllReadyH.nil
              go_simp
              with_reducible refine (hS _ _ _ _ ho10.rd hb8).mono ?_
              rintro e w11 ⟨rfl, hq11⟩
              have hb11 : Below w8.heap.size w8 w11 := bel_callP (hq11.bel w10.heap.size) hb8 (Nat.le_refl _)
              try dsimp only
              refine hK.out _ _ (kp_one hcp hltX hb11) (fun hHeld3 => ?_)
              clear hK hHeld2
              refine wpAnyH_take (i := 10) (v := ?v10) rfl (by kernel_rfl) (by kernel_rfl) (by kernel_rfl) (fun _ _ _ h => h) (Or.inl ⟨by rfl, ?hy10⟩) (by assumption) ?rest10
              case hy10 => (intro w hSw; (try dsimp only at hSw); go_simp; try with_reducible rfl)
              try simp only [Act.put, List.getElem_toArray, List.getElem_cons_zero, List.getElem_cons_succ, List.setIfInBounds_toArray, List.set_cons_zero, List.set_cons_succ]
              refine wpAnyH_take (i := 11) (v := ?v11) rfl (by kernel_rfl) (by kernel_rfl) (by kernel_rfl) (fun _ _ _ h => h) (Or.inl ⟨by rfl, ?hy11⟩) (by assumption) ?rest11
              case hy11 => (intro w hSw; (try dsimp only at hSw); go_simp; try with_reducible rfl)
              try simp only [Act.put, List.getElem_toArray, List.getElem_cons_zero, List.getElem_cons_succ, List.setIfInBounds_toArray, List.set_cons_zero, List.set_cons_succ]
              refine wpAnyH_take (i := 12) (v := ?v12) rfl (by kernel_rfl) (by kernel_rfl) (by kernel_rfl) (fun _ _ _ h => h) (Or.inl ⟨by rfl, ?hy12⟩) (by assumption) ?rest12
              case hy12 => (intro w hSw; (try dsimp only at hSw); go_simp; try with_reducible rfl)
              try simp only [Act.put, List.getElem_toArray, List.getElem_cons_zero, List.getElem_cons_succ, List.setIfInBounds_toArray, List.set_cons_zero, List.set_cons_succ]
              refine wpAnyH_take (i := 13) (v := ?v13) rfl (by kernel_rfl) (by kernel_rfl) (by kernel_rfl) (fun _ _ _ h => h) (Or.inl ⟨by rfl, ?hy13⟩) (by assumption) ?rest13
              case hy13 => (intro w hSw; (try dsimp only at hSw); go_simp; try with_reducible rfl)
              try simp only [Act.put, List.getElem_toArray, List.getElem_cons_zero, List.getElem_cons_succ, List.setIfInBounds_toArray, List.set_cons_zero, List.set_cons_succ]
              refine wpAnyH_take (i := 14) (v := ?v14) rfl (by kernel_rfl) (by kernel_rfl) (by kernel_rfl) (fun _ _ _ h => h) (Or.inl ⟨by rfl, ?hy14⟩) (by assumption) ?rest14
              case hy14 => (intro w hSw; (try dsimp only at hSw); go_simp; try with_reducible rfl)
              try simp only [Act.put, List.getElem_toArray, List.getElem_cons_zero, List.getElem_cons_succ, List.setIfInBounds_toArray, List.set_cons_zero, List.set_cons_succ]
              refine wpAnyH_take (i := 15) (v := ?v15) rfl (by kernel_rfl) (by kernel_rfl) (by kernel_rfl) (fun _ _ _ h => h) (Or.inl ⟨by rfl, ?hy15⟩) (by assumption) ?rest15
              case hy15 => (intro w hSw; (try dsimp only at hSw); go_simp; try with_reducible rfl)
              try simp only [Act.put, List.getElem_toArray, List.getElem_cons_zero, List.getElem_cons_succ, List.setIfInBounds_toArray, List.set_cons_zero, List.set_cons_succ]
              refine wpAnyH_take (i := 16) (v := undef) rfl (by kernel_rfl) (by kernel_rfl) (by kernel_rfl) (fun _ _ _ h => h) (Or.inr ⟨by rfl, rfl⟩) (by assumption) ?_
              try simp only [Act.put, List.getElem_toArray, List.getElem_cons_zero, List.getElem_cons_succ, List.setIfInBounds_toArray, List.set_cons_zero, List.set_cons_succ]
              refine wpAnyH_take (i := 17) (v := undef) rfl (by kernel_rfl) (by kernel_rfl) (by kernel_rfl) (fun _ _ _ h => h) (Or.inr ⟨by rfl, rfl⟩) (by assumption) ?_
              try simp only [Act.put, List.getElem_toArray, List.getElem_cons_zero, List.getElem_cons_succ, List.setIfInBounds_toArray, List.set_cons_zero, List.set_cons_succ]
              refine wpAnyH_take (i := 18) (v := undef) rfl (by kernel_rfl) (by kernel_rfl) (by kernel_rfl) (fun _ _ _ h => h) (Or.inr ⟨by rfl, rfl⟩) (by assumption) ?_
              try simp only [Act.put, List.getElem_toArray, List.getElem_cons_zero, List.getElem_cons_succ, List.setIfInBounds_toArray, List.set_cons_zero, List.set_cons_succ]
              refine wpAnyH_take (i := 19) (v := undef) rfl (by kernel_rfl) (by kernel_rfl) (by kernel_rfl) (fun _ _ _ h => h) (Or.inr ⟨by rfl, rfl⟩) (by assumption) ?_
              try simp only [Act.put, List.getElem_toArray, List.getElem_cons_zero, List.getElem_cons_succ, List.setIfInBounds_toArray, List.set_cons_zero, List.set_cons_succ]
              refine wpAnyH_take (i := 20) (v := undef) rfl (by kernel_rfl) (by kernel_rfl) (by kernel_rfl) (fun _ _ _ h => h) (Or.inr ⟨by rfl, rfl⟩) (by assumption) ?_
              try simp only [Act.put, List.getElem_toArray, List.getElem_cons_zero, List.getElem_cons_succ, List.setIfInBounds_toArray, List.set_cons_zero, List.set_cons_succ]
              refine wpAnyH_take (i := 21) (v := undef) rfl (by kernel_rfl) (by kernel_rfl) (by kernel_rfl) (fun _ _ _ h => h) (Or.inr ⟨by rfl, rfl⟩) (by assumption) ?_
              try simp only [Act.put, List.getElem_toArray, List.getElem_cons_zero, List.getElem_cons_succ, List.setIfInBounds_toArray, List.set_cons_zero, List.set_cons_succ]
              refine wpAnyH_take (i := 22) (v := undef) rfl (by kernel_rfl) (by kernel_rfl) (by kernel_rfl) (fun _ _ _ h => h) (Or.inr ⟨by rfl, rfl⟩) (by assumption) ?_
              try simp only [Act.put, List.getElem_toArray, List.getElem_cons_zero, List.getElem_cons_succ, List.setIfInBounds_toArray, List.set_cons_zero, List.set_cons_succ]
              refine wpAnyH_take (i := 23) (v := undef) rfl (by kernel_rfl) (by kernel_rfl) (by kernel_rfl) (fun _ _ _ h => h) (Or.inr ⟨by rfl, rfl⟩) (by assumption) ?_
              try simp only [Act.put, List.getElem_toArray, List.getElem_cons_zero, List.getElem_cons_succ, List.setIfInBounds_toArray, List.set_cons_zero, List.set_cons_succ]
              refine wpAnyH_take (i := 24) (v := undef) rfl (by kernel_rfl) (by kernel_rfl) (by kernel_rfl) (fun _ _ _ h => h) (Or.inr ⟨by rfl, rfl⟩) (by assumption) ?_
              try simp only [Act.put, List.getElem_toArray, List.getElem_cons_zero, List.getElem_cons_succ, List.setIfInBounds_toArray, List.set_cons_zero, List.set_cons_succ]
              refine wpAnyH_take (i := 25) (v := undef) rfl (by kernel_rfl) (by kernel_rfl) (by kernel_rfl) (fun _ _ _ h => h) (Or.inr ⟨by rfl, rfl⟩) (by assumption) ?_
              try simp only [Act.put, List.getElem_toArray, List.getElem_cons_zero, List.getElem_cons_succ, List.setIfInBounds_toArray, List.set_cons_zero, List.set_cons_succ]
              refine wpAnyH_take (i := 26) (v := ?v26) rfl (by kernel_rfl) (by kernel_rfl) (by kernel_rfl) (fun _ _ _ h => h) (Or.inl ⟨by rfl, ?hy26⟩) (by assumption) ?rest26
              case hy26 => (intro w hSw; (try dsimp only at hSw); go_simp; try with_reducible rfl)
              try simp only [Act.put, List.getElem_toArray, List.getElem_cons_zero, List.getElem_cons_succ, List.setIfInBounds_toArray, List.set_cons_zero, List.set_cons_succ]
              refine wpAnyH_take (i := 27) (v := ?v27) rfl (by kernel_rfl) (by kernel_rfl) (by kernel_rfl) (fun _ _ _ h => h) (Or.inl ⟨by rfl, ?hy27⟩) (by assumption) ?rest27
              case hy27 => (intro w hSw; (try dsimp only at hSw); go_simp; try with_reducible rfl)
              try simp only [Act.put, List.getElem_toArray, List.getElem_cons_zero, List.getElem_cons_succ, List.setIfInBounds_toArray, List.set_cons_zero, List.set_cons_succ]
              refine wpAnyH_done (by kernel_rfl) ?_ _
              have B12 := b78.trans (hb11.mono (by omega))
              have s12 := B12.size
              clear hC hS hcp hHeld3 hb10 hb8 hb11 hq11 ho10 hjd1 hjd2
              go_wp2_with fail
              exact ⟨⟨j + 1, by omega, by go_num, by omega, B12⟩, by simp [intOf]; omega⟩
            · obtain ⟨m, hm⟩ : ∃ m, j = m + 1 := ⟨j - 1, by omega⟩
              obtain ⟨q, hq⟩ : ∃ q, P[m]? = some q := ⟨_, List.getElem?_eq_getElem (by omega)⟩
              have hne := Lib.hid (show decide (pl = q.2) = false by
                rw [decide_eq_false_iff_not]
                intro e
                have h1 : (P.map Prod.snd)[j]? = some pl := by rw [List.getElem?_map, Hp.out]; rfl
                have h2 : (P.map Prod.snd)[m]? = some q.2 := by rw [List.getElem?_map, hq]; rfl
                rw [e, ← h2] at h1
                have h3 := (List.getElem?_inj (by rw [List.length_map]; omega) Hnd.out).1 h1
                omega)
              obtain ⟨g9, hg9, _, hcq⟩ := S8.cell hq
              injection hg9 with hg9
              injection hg9 with hg9
              subst hg9
              have hltY : (⟨g, m, none⟩ : Addr).block < w8.heap.size := hltX
              have hT := fun (w' : World) (hb5 : Below w8.heap.size w8 w') => (show Calls Try.prog 28 #[.slice pa pn pc, .slice q.1.1 q.1.2.1 q.1.2.2] w' fun e w'' => e = .returned (.bool false) ∧ Quiet w' w'' by
                have S5 := S8.below hb5 (by omega)
                have h5 := equalInts_any pa pn pc pl q.1.1 q.1.2.1 q.1.2.2 q.2 w' _ _ ((S5.inner j _ Hp.out).rd) ((S5.inner m _ hq).rd)
                rw [hne.out] at h5
                exact h5)
              obtain ⟨⟨qa, qn, qc⟩, ql⟩ := q
              dsimp only at hT hcq
              have hm1 : IntKind.i64.wrap ((j : Int) - 1) = (m : Int) := by rw [IntKind.wrap_i64]; omega
              have hm2 : (0 : Int) ≤ (m : Int) := by omega
              have hm3 : (m : Int) < (n2 : Int) := by omega
              have hj1 : (0 : Int) < (j : Int) := by omega
              have hjd1 : decide ((0 : Int) < (j : Int)) = true := by simp; omega
              have hjd2 : decide (0 < j) = true := by simp; omega
              have Hm := Lib.hid hm
              clear hj0 hm hq hne
              go_wp2_with fail
              go_region_held3 (fun w' => w'.cell? ⟨g, j, none⟩ = some (.slice pa pn pc) ∧ w'.cell? ⟨g, m, none⟩ = some (.slice qa qn qc) ∧ Below w8.heap.size w8 w')
                ((refine kp_two hcp hltX hcq hltY ?_; focus (repeat (first | assumption | exact hbd | refine bel_callP hb12 ?_ (Nat.le_refl _) | refine bel_callP hb11 ?_ (Nat.le_refl _) | refine bel_callP hb10 ?_ (Nat.le_refl _) | apply Below.drew))))
                (first
                | (go_at_call 28
                   have hT2 := hT _ (bel_callP hb11 (bel_callP hb10 hbd (Nat.le_refl _)) (Nat.le_refl _))
                   with_reducible refine hT2.mono ?_
                   clear hT2
                   rintro e w12 ⟨rfl, hq12⟩
                   have hb12 := hq12.bel w11.heap.size)
                | (go_at_call 27
                   with_reducible refine hC.mono ?_
                   rintro e w10 ⟨A10, n10, c10, rfl, ho10, hb10⟩)
                | (go_at_call 28
                   with_reducible refine (hS _ _ _ _ ho10.rd (bel_callP hb10 hbd (Nat.le_refl _))).mono ?_
                   rintro e w11 ⟨rfl, hq11⟩
                   have hb11 := hq11.bel w10.heap.size))
              all_goals
                have B12 := b78.trans ((bel_callP hb12 (bel_callP hb11 (bel_callP hb10 hbd (Nat.le_refl _)) (Nat.le_refl _)) (Nat.le_refl _)).mono (by omega))
                have s12 := B12.size
                clear hC hS hT hcp hcq hb10 hb11 hb12 hq11 hq12 ho10 hjd1 hjd2
                go_wp2_with fail
                exact ⟨⟨j + 1, by omega, by go_num, by omega, B12⟩, by simp [intOf]; omega⟩
      · go_wp2_with fail
        go_ret
        exact ⟨rfl, B6⟩
end Go.Proofs.Ytopmifidhabobaa
