/-
  The shortest text over all orders: of the reference and of the program.
-/
import Derived.Test.YtfppbfhlmbakoaaWays
import Derived.Test.YtfppbfhlmbakoaaAppN
import Derived.WalkLawsBesides
namespace Go.Proofs.Ytfppbfhlmbakoaa
open Go.RowKit
set_option linter.unusedVariables false
set_option linter.unusedSimpArgs false

theorem bless : ∀ (x y : List UInt8), Op.bytesLess x y = decide (x < y)
  | [], [] => by simp [Op.bytesLess]
  | _ :: _, [] => by simp [Op.bytesLess]
  | [], _ :: _ => by simp [Op.bytesLess]
  | a :: x, b :: y => by
    rw [Op.bytesLess, bless x y, Bool.eq_iff_iff]
    simp [List.cons_lt_cons_iff]
theorem txt_short (ws : List (List UInt8)) (L : Nat) (hB : ∀ i, (wd ws i).length ≤ L) (o : List Nat) : (otx ws o).length ≤ L * o.length := by
  unfold otx txt
  have H : ∀ (o : List Nat) (tl : List UInt8 × List UInt8), (tx tl (sel ws o)).1.length ≤ tl.1.length + L * o.length := by
    intro o
    induction o with
    | nil => intro tl; simp [sel, tx]
    | cons a o ih =>
      intro tl
      have := ih (tl.1 ++ (wd ws a).drop (ovl tl.2 (wd ws a)), wd ws a)
      rw [show sel ws (a :: o) = wd ws a :: sel ws o from rfl, tx_cons]
      refine Nat.le_trans this ?_
      rw [List.length_append, List.length_drop, List.length_cons, Nat.mul_succ]
      have := hB a
      omega
  have := H o ([], [])
  simpa using this
theorem otx_snoc (ws : List (List UInt8)) (o : List Nat) (i : Nat) (ho : o ≠ []) : otx ws (o ++ [i]) = otx ws o ++ (wd ws i).drop (ovl (wd ws (o.getD (o.length - 1) 0)) (wd ws i)) := by
  unfold otx txt sel
  rw [List.map_append, List.map_singleton, tx_snoc]
  congr 3
  obtain ⟨l, a, rfl⟩ : ∃ l a, o = l ++ [a] := ⟨o.dropLast, o.getLast ho, (List.dropLast_concat_getLast ho).symm⟩
  rw [getD_snoc, List.map_append, List.map_singleton, tx_snoc]
theorem otx_one (ws : List (List UInt8)) (i : Nat) : otx ws [i] = wd ws i := by
  unfold otx txt sel
  simp [tx, ovl_nil]
set_option maxRecDepth 8000 in
set_option maxHeartbeats 3200000 in
theorem joinIn_any (A : Option Addr) (m c : Nat) (ws : List (List UInt8)) (hB : ∀ i, (wd ws i).length ≤ 6) (A2 : Option Addr) (k c2 : Nat) (o : List Nat) (w : World) (B B2 : Nat) (hr : Rd w B A m c (ws.map S)) (hr2 : Rd w B2 A2 k c2 (o.map NI)) (ho : ∀ j ∈ o, j < m) (hk6 : k ≤ 1000) :
    Calls Try.prog 87 #[.slice A m c, .slice A2 k c2] w fun e w' => e = .returned (.string ⟨(otx ws o).toArray⟩) ∧ Quiet w w' := by
  have hm1 := hr.2.2.1
  have hnc := hr.2.1
  have hm2 := hr2.2.2.1
  have hnc2 := hr2.2.1
  have Hk := Lib.hid (show o.length = k by have := hr2.1; simpa using this)
  unfold maxLen at hm1 hm2
  go_enter Try.func87, Try.ntmps87
  go_wp2_with fail
  go_loopw [5, 6] (fun t i wr => ∃ j : Nat, j ≤ k ∧ i = .int .i64 j ∧ t = .string ⟨(otx ws (o.take j)).toArray⟩ ∧ Quiet w wr) (fun _ i _ => k - (intOf i).toNat)
  case atStart => exact ⟨0, Nat.zero_le _, rfl, rfl, Quiet.refl _⟩
  case round =>
    obtain ⟨j, hj, rfl, rfl, hq⟩ := hrel
    by_cases hlt : j < k
    · have hlt' : (j : Int) < (k : Int) := by omega
      have j0 : (0 : Int) ≤ (j : Int) := by omega
      obtain ⟨b2, off2, rfl, hb2, hc2⟩ := (hq.rd hr2).nat_at hlt
      have hol : j < o.length := by have := Hk.out; omega
      have hgj : o.getD j 0 = o[j] := by simp [List.getD_eq_getElem?_getD, List.getElem?_eq_getElem hol]
      have hij : o.getD j 0 < m := by rw [hgj]; exact ho _ (List.getElem_mem hol)
      obtain ⟨i, hi⟩ : ∃ i, i = o.getD j 0 := ⟨_, rfl⟩
      rw [← hi] at hc2 hij
      have Htk := Lib.hid (show o.take (j + 1) = o.take j ++ [i] by rw [List.take_succ_eq_append_getElem hol, hi, hgj])
      obtain ⟨b, off, y, rfl, _, hy, hcy⟩ := (hq.rd hr).str hij
      have Hy := Lib.hid (wd_at hy)
      have hy6 : y.length ≤ 6 := by have := hB i; rwa [wd_at hy] at this
      have i0 : (0 : Int) ≤ (i : Int) := by omega
      have i1 : (i : Int) < (m : Int) := by omega
      clear hi hy hgj
      rcases Nat.eq_zero_or_pos j with h0 | h0
      · subst h0
        rw [Nat.add_zero] at hc2
        have Hst := Lib.hid (show otx ws (o.take (0 + 1)) = y by rw [Htk.out, List.take_zero, List.nil_append, otx_one, Hy.out])
        have e0 : ((0 : Int) == 0) = true := rfl
        go_wp2_with fail
        go_roundw
        case rel => exact ⟨1, by omega, by go_num, by rw [Hst.out], hq⟩
        case measure => simp [intOf]; omega
      · obtain ⟨p, rfl⟩ : ∃ p, j = p + 1 := ⟨j - 1, by omega⟩
        have hcp := (hq.rd hr2).nat_at' (show p < k by omega)
        have hpl : p < o.length := by have := Hk.out; omega
        have hgp : o.getD p 0 = o[p] := by simp [List.getD_eq_getElem?_getD, List.getElem?_eq_getElem hpl]
        have hip : o.getD p 0 < m := by rw [hgp]; exact ho _ (List.getElem_mem hpl)
        have hlast : (o.take (p + 1)).getD ((o.take (p + 1)).length - 1) 0 = o.getD p 0 := by
          rw [List.length_take, Nat.min_eq_left (by omega), show p + 1 - 1 = p by omega, List.getD_eq_getElem?_getD, List.getElem?_take_of_lt (by omega), ← List.getD_eq_getElem?_getD]
        have Hst0 := Lib.hid (show otx ws (o.take (p + 1 + 1)) = otx ws (o.take (p + 1)) ++ y.drop (ovl (wd ws (o.getD p 0)) y) by
          rw [Htk.out, otx_snoc _ _ _ (fun h => by have := congrArg List.length h; rw [List.length_take, List.length_nil] at this; omega), hlast, Hy.out])
        obtain ⟨q, hqq⟩ : ∃ q, q = o.getD p 0 := ⟨_, rfl⟩
        rw [← hqq] at hcp hip Hst0
        obtain ⟨z, hz, hcz⟩ := (hq.rd hr).str_at hip
        rw [wd_at hz] at Hst0
        have hz6 : z.length ≤ 6 := by have := hB q; rwa [wd_at hz] at this
        have hO := fun w' => specOverlap_any z y w' (by omega) (by omega)
        have ho1 := ovl_le_right z y
        obtain ⟨t, ht⟩ : ∃ t, t = ovl z y := ⟨_, rfl⟩
        rw [← ht] at hO ho1 Hst0
        have q0 : (0 : Int) ≤ (q : Int) := by omega
        have q1 : (q : Int) < (m : Int) := by omega
        have p0 : (0 : Int) ≤ (p : Int) := by omega
        have p1 : (p : Int) < (k : Int) := by omega
        have g1 : IntKind.i64.wrap ((p : Int) + 1 - 1) = (p : Int) := by rw [IntKind.wrap_i64]; omega
        have g2 : ((p : Int) + 1 - 1) = (p : Int) := by omega
        have e0 : ((p : Int) + 1 == 0) = false := by simp; omega
        have g3 : (0 : Int) ≤ (p : Int) + 1 := by omega
        have g4 : (p : Int) + 1 < (k : Int) := by omega
        have hul := txt_short ws 6 hB (o.take (p + 1))
        rw [List.length_take] at hul
        obtain ⟨u, hu⟩ : ∃ u, u = otx ws (o.take (p + 1)) := ⟨_, rfl⟩
        have hul2 : u.length ≤ 6000 := by rw [hu]; omega
        rw [← hu] at Hst0 ⊢
        have Hu := Lib.hid hu
        clear ht hz hqq hgp hlast hul hu
        go_wp2_with fail
        go_quiet ((go_at_call 62; exact Calls.quiet_of (hO _)))
        clear g1 g2 hO
        go_wp2_with fail
        go_roundw
        case rel => exact ⟨p + 1 + 1, by omega, by go_num, by rw [Hst0.out, take_rest], hq.drewN _⟩
        case measure => simp [intOf]; omega
    · obtain rfl : j = k := by omega
      have hlt' : ¬ (j : Int) < (j : Int) := by omega
      have He := Lib.hid (show o.take j = o from List.take_of_length_le (by have := Hk.out; omega))
      go_wp2_with fail
      go_ret
      exact ⟨by rw [He.out]; rfl, hq⟩
theorem row_some {w : World} {B : Nat} {e : TypeId} {A : Option Addr} {k c : Nat} {xs : List Value} (h : Row w B e A (k + 1) c xs) : ∃ g, A = some ⟨g, 0, none⟩ := by
  obtain ⟨_, ⟨_, h0⟩ | ⟨g, cap, cur, hv, _⟩⟩ := h
  · omega
  · injection hv with ha
    exact ⟨g, ha⟩
def shAt (ws : List (List UInt8)) (m f : Nat) (h : List Nat) (i : Nat) : Option (List UInt8) := if i ∈ h then none else some (shF ws m f (h ++ [i]))
theorem shF_eq (ws : List (List UInt8)) (m f : Nat) (h : List Nat) : shF ws m (f + 1) h = (bestS (shAt ws m f h) m).getD [] := rfl
theorem bestS_skip {F : Nat → Option (List UInt8)} {k : Nat} (h : F k = none) : bestS F (k + 1) = bestS F k := by rw [bestS, h]
theorem bestS_take {F : Nat → Option (List UInt8)} {k : Nat} {x : List UInt8} (h : F k = some x) : bestS F (k + 1) = keepS (bestS F k) x := by rw [bestS, h]
theorem shF_short (ws : List (List UInt8)) (m f : Nat) (h : List Nat) (hB : ∀ i, (wd ws i).length ≤ 6) (hm : m ≤ 6) (hn : h.Nodup) (hl : ∀ j ∈ h, j < m) (hf : h.length + f = m) : (shF ws m f h).length ≤ 36 := by
  obtain ⟨⟨x, hx, h1⟩, _⟩ := shF_least ws m f h hn hl hf
  obtain ⟨t, rfl, ht, _, _⟩ := (mem_ord m f h x hn).1 hx
  have h2 := txt_short ws 6 hB (h ++ t)
  rw [List.length_append] at h2
  rw [← h1]
  omega
theorem bestS_short {F : Nat → Option (List UInt8)} (L : Nat) {m : Nat} (h : ∀ i, i < m → ∀ x, F i = some x → x.length ≤ L) : ∀ k, k ≤ m → ∀ x, bestS F k = some x → x.length ≤ L := by
  intro k
  induction k with
  | zero => intro _ x hx; cases hx
  | succ k ih =>
    intro hk x hx
    rw [bestS] at hx
    split at hx
    · exact ih (by omega) x hx
    · next y hy =>
      unfold keepS at hx
      injection hx with hx
      subst hx
      have := h k (by omega) y hy
      split
      · exact this
      · next b hb =>
        have := ih (by omega) b hb
        split <;> omega
set_option maxRecDepth 8000 in
set_option maxHeartbeats 3200000 in
theorem shortestFrom_any (A : Option Addr) (m c : Nat) (ws : List (List UInt8)) (hB : ∀ i, (wd ws i).length ≤ 6) (hm : m ≤ 6) (f : Nat) :
    ∀ (h : List Nat) (g k c2 : Nat) (w : World), Rd w w.heap.size A m c (ws.map S) → Rd w w.heap.size (some ⟨g, 0, none⟩) k c2 (h.map NI) → h.Nodup → (∀ j ∈ h, j < m) → h.length + f = m →
    Calls Try.prog 68 #[.slice A m c, .slice (some ⟨g, 0, none⟩) k c2] w (RetVal w (.string ⟨(shF ws m f h).toArray⟩)) := by
  induction f with
  | zero =>
    intro h g k c2 w hr hr2 hn hl hf
    have hk : h.length = k := by have := hr2.1; simpa using this
    obtain rfl : k = m := by omega
    have hJ := joinIn_any A k c ws hB (some ⟨g, 0, none⟩) k c2 h w _ _ hr hr2 hl (by omega)
    have e1 : ((k : Int) == (k : Int)) = true := by simp
    rw [show shF ws k 0 h = otx ws h from rfl]
    clear hk hf hn hl
    go_enter Try.func68, Try.ntmps68
    go_wp2_with fail
    refine hJ.mono ?_
    rintro e w' ⟨rfl, hq⟩
    go_wp2_with fail
    go_ret
    exact ⟨rfl, hq.bel _⟩
  | succ f ih =>
    intro h g k c2 w hr hr2 hn hl hf
    have hk : h.length = k := by have := hr2.1; simpa using this
    have hmm := hr.2.2.1
    have hnc := hr.2.1
    have hm2 := hr2.2.2.1
    have hnc2 := hr2.2.1
    unfold maxLen at hmm hm2
    have hkm : k < m := by omega
    have e1 : ((k : Int) == (m : Int)) = false := by simp; omega
    obtain ⟨i0, hi, hz0, hz1, hz2⟩ := info_parts Try.infoI
    rw [shF_eq]
    have Hn := Lib.hid hn
    have Hl := Lib.hid hl
    have Hf := Lib.hid hf
    have Hk := Lib.hid hk
    have Hss := Lib.hid (bestS_short (F := shAt ws m f h) 36 (m := m) fun i hi x hx => by
      unfold shAt at hx
      split at hx
      · cases hx
      · next hni =>
        injection hx with hx
        obtain ⟨a1, a2, a3⟩ := ord_snoc_ok hn hl hf hi hni
        rw [← hx]
        exact shF_short ws m f _ hB hm a1 a2 a3)
    clear hn hl hf hk
    go_enter Try.func68, Try.ntmps68
    go_wp2_with fail
    go_loopw [5, 6, 7] (fun b fo i wr => ∃ j : Nat, j ≤ m ∧ i = .int .i64 j ∧ b = .string ⟨((bestS (shAt ws m f h) j).getD []).toArray⟩ ∧ fo = .bool (bestS (shAt ws m f h) j).isSome ∧ Below w.heap.size w wr) (fun _ _ i _ => m - (intOf i).toNat)
    case atStart => exact ⟨0, Nat.zero_le _, rfl, rfl, rfl, Below.refl _ _⟩
    case round =>
      obtain ⟨j, hj, rfl, rfl, rfl, hbw⟩ := hrel
      have hsz := hbw.size
      by_cases hlt : j < m
      · have hlt' : (j : Int) < (m : Int) := by omega
        have hrb := hr.below hbw
        have hrb2 := hr2.below hbw
        rw [NI_I] at hrb2
        have hH := hasInt_any _ _ _ _ (j : Int) wr _ hrb2
        by_cases hmem : j ∈ h
        · have e2 : decide ((j : Int) ∈ h.map fun i : Nat => (i : Int)) = true := decide_eq_true (List.mem_map.2 ⟨j, hmem, rfl⟩)
          rw [e2] at hH
          have Hst := Lib.hid (bestS_skip (F := shAt ws m f h) (k := j) (if_pos hmem))
          clear e2 hmem hrb2
          go_wp2_with fail
          refine hH.mono ?_
          rintro e w' ⟨rfl, rfl⟩
          clear hH
          go_wp2_with fail
          go_roundw
          case rel => exact ⟨j + 1, by omega, by go_num, by rw [Hst.out], by rw [Hst.out], hbw⟩
          case measure => simp [intOf]; omega
        · have e2 : decide ((j : Int) ∈ h.map fun i : Nat => (i : Int)) = false := by
            rw [decide_eq_false_iff_not, List.mem_map]
            rintro ⟨a, ha, hka⟩
            exact hmem (by rwa [show a = j by omega] at ha)
          rw [e2] at hH
          obtain ⟨a1, a2, a3⟩ := ord_snoc_ok Hn.out Hl.out Hf.out hlt hmem
          have hxl := shF_short ws m f _ hB hm a1 a2 a3
          have Hst := Lib.hid (bestS_take (F := shAt ws m f h) (k := j) (if_neg hmem))
          have hI := fun g2 k2 c3 W h1 h2 => ih (h ++ [j]) g2 k2 c3 W h1 h2 a1 a2 a3
          obtain ⟨x, hx⟩ : ∃ x, x = shF ws m f (h ++ [j]) := ⟨_, rfl⟩
          rw [← hx] at hxl hI Hst
          clear hx a1 a2 a3 e2 hmem
          go_wp2_with fail
          refine hH.mono ?_
          rintro e w' ⟨rfl, rfl⟩
          clear hH
          go_wp2_with (first
            | (at_builtin; refine wpList_appN _ rfl (.tmp 27) (.tmp 28) 39 rfl w'.heap.size 3 i0 (.int .i64 0) 8 Try.underlying39 hi hz0 hz1 hz2 rfl _ 0 0 [] rfl (Row.nil_ w' 3) ⟨g, 0, none⟩ k c2 _ rfl hrb2.1 (rd_news (hrb2.alloc hsz _)) (oneIs _) k (by omega) (by omega) (by omega) (by simp) ?_; intro A2 c4 w2 hown2 hgrow2 _)
            | (at_builtin; refine wpList_appN _ rfl (.tmp 29) (.tmp 31) 39 rfl w'.heap.size 3 i0 (.int .i64 0) 8 Try.underlying39 hi hz0 hz1 hz2 rfl A2 k c4 _ rfl (hown2.alloc _) ⟨w2.heap.size, 0, none⟩ 1 1 [.int .i64 j] rfl rfl (cell_one_new _ _ _) (by simp [Value.oneCell']) (k + 1) (by omega) (by omega) (by omega) (by have := hgrow2.size; simp at this ⊢; omega) ?_; intro A3 c5 w3 hown3 hgrow3 _))
          have hb3 : Below w'.heap.size w' w3 := kp_grown (kp_alloc _ (kp_grown (kp_alloc _ (Below.refl _ _) (Nat.le_refl _)) (Nat.le_refl _) hgrow2 (own_ge (Nat.le_refl _))) (Nat.le_refl _)) (Nat.le_refl _) hgrow3 (row_ge hown2)
          obtain ⟨g3, rfl⟩ := row_some hown3
          have hbw3 : Below w.heap.size w w3 := hbw.trans (hb3.mono hsz)
          have hI3 := hI g3 (k + 1) c5 w3 ((hr.below hbw3).more hbw3.size) (by
            have := hown3.rd
            rw [List.nil_append, ← NI_I] at this
            rw [List.map_append]
            exact this)
          clear hI hown2 hown3 hgrow2 hgrow3 hrb hrb2
          go_wp2_with fail
          refine hI3.mono ?_
          rintro e w5 ⟨rfl, hb5⟩
          clear hI3
          have hbw5 : Below w.heap.size w w5 := hbw3.trans (hb5.mono hbw3.size)
          cases hbk : bestS (shAt ws m f h) j with
          | none =>
            have Hfin := Lib.hid (show bestS (shAt ws m f h) (j + 1) = some x by rw [Hst.out, hbk]; rfl)
            clear hbk
            simp only [Option.getD_none, Option.isSome_none]
            go_wp2_with fail
            go_roundw
            case rel => exact ⟨j + 1, by omega, by go_num, by rw [Hfin.out]; rfl, by rw [Hfin.out]; rfl, hbw5⟩
            case measure => simp [intOf]; omega
          | some b =>
            have hbl := Hss.out j (by omega) b hbk
            have Hbk := Lib.hid hbk
            clear hbk
            simp only [Option.getD_some, Option.isSome_some]
            by_cases c1 : x.length < b.length
            · have Hfin := Lib.hid (show bestS (shAt ws m f h) (j + 1) = some x by rw [Hst.out, Hbk.out]; unfold keepS; simp [sLt, c1])
              go_wp2_with fail
              go_roundw
              case rel => exact ⟨j + 1, by omega, by go_num, by rw [Hfin.out]; rfl, by rw [Hfin.out]; rfl, hbw5⟩
              case measure => simp [intOf]; omega
            · by_cases c2 : x.length = b.length
              · have c3 : (x.length : Int) = (b.length : Int) := by omega
                cases hbl2 : Op.bytesLess x b with
                | true =>
                  have hxb : x < b := by rw [bless] at hbl2; simpa using hbl2
                  have Hfin := Lib.hid (show bestS (shAt ws m f h) (j + 1) = some x by rw [Hst.out, Hbk.out]; unfold keepS; simp [sLt, c2, hxb])
                  clear hxb c2
                  go_wp2_with fail
                  go_roundw
                  case rel => exact ⟨j + 1, by omega, by go_num, by rw [Hfin.out]; rfl, by rw [Hfin.out]; rfl, hbw5⟩
                  case measure => simp [intOf]; omega
                | false =>
                  have hxb : ¬ x < b := by rw [bless] at hbl2; simpa using hbl2
                  have Hfin := Lib.hid (show bestS (shAt ws m f h) (j + 1) = some b by rw [Hst.out, Hbk.out]; unfold keepS; simp [sLt, c2, hxb])
                  clear hxb c2
                  go_wp2_with fail
                  go_roundw
                  case rel => exact ⟨j + 1, by omega, by go_num, by rw [Hfin.out]; rfl, by rw [Hfin.out]; rfl, hbw5⟩
                  case measure => simp [intOf]; omega
              · have c3 : ¬ (x.length : Int) = (b.length : Int) := by omega
                have Hfin := Lib.hid (show bestS (shAt ws m f h) (j + 1) = some b by rw [Hst.out, Hbk.out]; unfold keepS; simp [sLt, c1, c2])
                go_wp2_with fail
                go_roundw
                case rel => exact ⟨j + 1, by omega, by go_num, by rw [Hfin.out]; rfl, by rw [Hfin.out]; rfl, hbw5⟩
                case measure => simp [intOf]; omega
      · obtain rfl : j = m := by omega
        have hlt' : ¬ (j : Int) < (j : Int) := by omega
        go_wp2_with fail
        go_ret
        exact ⟨rfl, hbw⟩
end Go.Proofs.Ytfppbfhlmbakoaa
