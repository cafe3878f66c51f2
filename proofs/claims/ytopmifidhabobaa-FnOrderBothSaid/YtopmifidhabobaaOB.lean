/-
  OrderBoth: plain laws; the program's.
-/
import Derived.Test.YtopmifidhabobaaOrdS2
import Derived.Test.YtopmifidhabobaaCut8
namespace Go.Proofs.Ytopmifidhabobaa
open Go.RowKit
set_option linter.unusedVariables false
set_option linter.unusedSimpArgs false

/-- The first two of two lists whose cuts together give a list. -/
def OBf (X Y : List (List Int)) (L : List Int) : Option (List Int × List Int) :=
  (X.find? fun x => (Y.find? fun y => decide (CB x y = L)).isSome).bind fun x => (Y.find? fun y => decide (CB x y = L)).map fun y => (x, y)
theorem OBf_feq {X X' Y Y' : List (List Int)} (hX : FEq X X') (hY : FEq Y Y') (L : List Int) : OBf X Y L = OBf X' Y' L := by
  unfold OBf
  have h : ∀ x : List Int, (Y.find? fun y => decide (CB x y = L)) = (Y'.find? fun y => decide (CB x y = L)) := fun x => hY _
  simp only [h]
  rw [hX]
theorem find_at {α : Type} {l : List α} {p : α → Bool} {k : Nat} {b : α} (h : ∀ a ∈ l.take k, p a = false) (hb : l[k]? = some b) (hp : p b = true) : l.find? p = some b := by
  obtain ⟨hk, hbk⟩ := List.getElem?_eq_some_iff.1 hb
  have e : l.find? p = (l.take k ++ l.drop k).find? p := by rw [List.take_append_drop]
  rw [e, List.find?_append, List.find?_eq_none.2 (fun a ha => by rw [h a ha]; simp), List.drop_eq_getElem_cons hk, hbk, List.find?_cons_of_pos hp]
  rfl
theorem find_no {α : Type} {l : List α} {p : α → Bool} (h : ∀ a ∈ l, p a = false) : l.find? p = none := List.find?_eq_none.2 (fun a ha => by rw [h a ha]; simp)
def OB (us bs L : List Int) : List Int × List Int × Bool :=
  if okP us bs then
    match OBf (oS us.length (srt us) []) (oS bs.length (srt bs) []) L with
    | some xy => (xy.1, xy.2, true)
    | none => ([], [], false)
  else ([], [], false)
theorem okP_perm {us bs x y : List Int} (hx : x.Perm us) (hy : y.Perm bs) (h : okP us bs = true) : okP x y = true := by
  obtain ⟨h1, h2, h3⟩ := okP_iff.1 h
  rw [okP_iff, pk_iff, pk_iff, hx.length_eq, hy.length_eq, perm_sum hx, perm_sum hy]
  exact ⟨⟨(pk_iff.1 h1).1, fun z hz => (pk_iff.1 h1).2 z (hx.mem_iff.1 hz)⟩, ⟨(pk_iff.1 h2).1, fun z hz => (pk_iff.1 h2).2 z (hy.mem_iff.1 hz)⟩, h3⟩
/-- The ending of a call that hands back two lists of numbers in blocks of their own, and a truth. -/
def RetTwoI (w : World) (xs ys : List Int) (ok : Bool) (e : Ending) (w' : World) : Prop :=
  ∃ (A : Option Addr) (n c : Nat) (A2 : Option Addr) (n2 c2 l1 h1 l2 h2 : Nat), e = .returned (.tuple #[.slice A n c, .slice A2 n2 c2, .bool ok]) ∧ OwnW w' l1 h1 3 A n c (xs.map I) ∧ OwnW w' l2 h2 3 A2 n2 c2 (ys.map I) ∧ (w.heap.size ≤ l1 ∧ h1 ≤ w'.heap.size ∧ w.heap.size ≤ l2 ∧ h2 ≤ w'.heap.size ∧ (h1 ≤ l2 ∨ h2 ≤ l1)) ∧ Below w.heap.size w w'
theorem ownW_nil (w : World) (lo hi : Nat) (t : TypeId) : OwnW w lo hi t none 0 0 [] := ⟨rfl, Nat.le_refl _, by unfold maxLen; omega, fun h => absurd h (by omega)⟩
theorem retTwoI_nil {w w' : World} (hb : Below w.heap.size w w') : RetTwoI w [] [] false (.returned (.tuple #[.slice none 0 0, .slice none 0 0, .bool false])) w' :=
  ⟨none, 0, 0, none, 0, 0, w.heap.size, w.heap.size, w.heap.size, w.heap.size, rfl, ownW_nil _ _ _ _, ownW_nil _ _ _ _, ⟨Nat.le_refl _, hb.size, Nat.le_refl _, hb.size, .inl (Nat.le_refl _)⟩, hb⟩
/-- An own row lies below where the world ended. -/
theorem Own.hi {w w' : World} {B : Nat} {t : TypeId} {A : Option Addr} {n c : Nat} {xs : List Value} (h : Own w B t A n c xs) (hb : Below w.heap.size w w') : OwnW w' B w.heap.size t A n c xs := h.win.below hb (Nat.le_refl _)
set_option maxRecDepth 8000 in
set_option maxHeartbeats 3200000 in
theorem OrderBoth_any (A : Option Addr) (n c : Nat) (us : List Int) (A2 : Option Addr) (n2 c2 : Nat) (bs : List Int) (A3 : Option Addr) (n3 c3 : Nat) (L : List Int) (w : World) (hr : Rd w w.heap.size A n c (us.map I)) (hr2 : Rd w w.heap.size A2 n2 c2 (bs.map I)) (hr3 : Rd w w.heap.size A3 n3 c3 (L.map I)) :
    Calls Try.prog 45 #[.slice A n c, .slice A2 n2 c2, .slice A3 n3 c3] w (RetTwoI w (OB us bs L).1 (OB us bs L).2.1 (OB us bs L).2.2) := by
  have hB := bothOk_any A n c us A2 n2 c2 bs w hr hr2
  cases hok : okP us bs with
  | false =>
    have Hv := Lib.hid (show OB us bs L = ([], [], false) by unfold OB; rw [hok]; rfl)
    rw [hok] at hB
    clear hok
    go_enter Try.func45, Try.ntmps45
    go_wp2_with fail
    refine hB.mono ?_
    rintro e w1 ⟨rfl, hb1⟩
    go_wp2_with fail
    go_ret3
    rw [Hv.out]
    exact retTwoI_nil hb1
  | true =>
    have hn := hr.ilen
    have hn2 := hr2.ilen
    have hl5 := (pk_bounds (okP_iff.1 hok).1).1
    have hl5' := (pk_bounds (okP_iff.1 hok).2.1).1
    rw [hn] at hl5
    rw [hn2] at hl5'
    have Hok := Lib.hid hok
    rw [hok] at hB
    clear hok hn hn2
    go_enter Try.func45, Try.ntmps45
    go_wp2_with fail
    refine hB.mono ?_
    rintro e w1 ⟨rfl, hb1⟩
    go_wp2_with fail
    refine (arranged_any A2 n2 c2 bs w1 ((hr2.below hb1).more hb1.size) (by omega)).mono ?_
    rintro e w2 ⟨AY, nY, cY, Y, rfl, hrowY, hinY, hfY, hnY, hb2⟩
    have B2 := hb1.trans (hb2.mono hb1.size)
    go_wp2_with fail
    refine (arranged_any A n c us w2 ((hr.below B2).more B2.size) (by omega)).mono ?_
    rintro e w3 ⟨AX, nX, cX, X, rfl, hrowX, hinX, hfX, hnX, hb3⟩
    have B3 := B2.trans (hb3.mono B2.size)
    have hrowY := hrowY.kept hb3
    have hinY2 := hinY
    have hinY := hinY.below hb3
    have hb23 : Below w2.heap.size w2 w3 := hb3
    have hlX : X.length = nX := by have := hrowX.len; simpa using this
    have hlY : Y.length = nY := by have := hrowY.len; simpa using this
    have Hxy := Lib.hid (show OBf (X.map Prod.snd) (Y.map Prod.snd) L = OBf (oS us.length (srt us) []) (oS bs.length (srt bs) []) L by
      have h1 := hfX.trans (arr_feq (srt us))
      have h2 := hfY.trans (arr_feq (srt bs))
      rw [srt_len] at h1 h2
      exact OBf_feq h1 h2 L)
    have Hpx := Lib.hid (show ∀ p ∈ X, p.2.Perm us from fun p hp => (arr_perm ((hfX.mem p.2).1 (List.mem_map_of_mem hp))).trans (srt_perm us))
    have Hpy := Lib.hid (show ∀ p ∈ Y, p.2.Perm bs from fun p hp => (arr_perm ((hfY.mem p.2).1 (List.mem_map_of_mem hp))).trans (srt_perm bs))
    have HlX := Lib.hid hlX
    have HlY := Lib.hid hlY
    have hs12 := hb1.size
    have hs23 := hb2.size
    have hs3 := hb3.size
    clear hfX hfY hlX hlY hB hb1 hb2 hb3 B2
    go_wp2_with fail
    go_loopw [23] (fun i wr => ∃ k : Nat, k ≤ nX ∧ i = .int .i64 k ∧ (∀ p ∈ X.take k, ((Y.map Prod.snd).find? fun y => decide (CB p.2 y = L)) = none) ∧ Below w3.heap.size w3 wr) (fun i _ => nX - (intOf i).toNat)
    case atStart => exact ⟨0, Nat.zero_le _, rfl, (fun p hp => by simp at hp), Below.refl _ _⟩
    case round =>
      obtain ⟨k, hk, rfl, hno, hbw⟩ := hrel
      have Hno := Lib.hid hno
      clear hno
      by_cases hlt : k < nX
      · obtain ⟨p, hp⟩ : ∃ p, X[k]? = some p := ⟨_, List.getElem?_eq_getElem (by have := HlX.out; omega)⟩
        have hrwX := hrowX.kept hbw
        obtain ⟨gX, _, rfl, _⟩ := hrwX.blk (g := 0) (show 0 < nX by omega)
        obtain ⟨hcp, _⟩ := hrwX.cells (map_at hp)
        have Hp := Lib.hid hp
        obtain ⟨⟨pa, pn, pc⟩, pl⟩ := p
        dsimp only at hcp
        have hlt' : (k : Int) < (nX : Int) := by omega
        have k0 : (0 : Int) ≤ (k : Int) := by omega
        have e5 : IntKind.i64.wrap ((k : Int) + 1) = (k : Int) + 1 := by rw [IntKind.wrap_i64]; omega
        clear hp
        go_wp2_with fail
        obtain ⟨wo, hwo⟩ : ∃ wo : World, wo = wr := ⟨_, rfl⟩
        rw [← hwo] at hbw
        go_loopw [29] (fun i wr => ∃ j : Nat, j ≤ nY ∧ i = .int .i64 j ∧ (∀ q ∈ Y.take j, decide (CB pl q.2 = L) = false) ∧ Below w3.heap.size w3 wr) (fun i _ => nY - (intOf i).toNat)
        case atStart => exact ⟨0, Nat.zero_le _, rfl, (fun p hp => by simp at hp), by rw [← hwo]; exact hbw⟩
        case round =>
          obtain ⟨j, hj, rfl, hnoj, hbj⟩ := hrel
          have Hnoj := Lib.hid hnoj
          clear hnoj hcp hrwX
          by_cases hltj : j < nY
          · obtain ⟨q, hq⟩ : ∃ q, Y[j]? = some q := ⟨_, List.getElem?_eq_getElem (by have := HlY.out; omega)⟩
            have hrwY := hrowY.kept hbj
            obtain ⟨gY, _, rfl, _⟩ := hrwY.blk (g := 0) (show 0 < nY by omega)
            obtain ⟨hcq, _⟩ := hrwY.cells (map_at hq)
            have Hq := Lib.hid hq
            obtain ⟨⟨qa, qn, qc⟩, ql⟩ := q
            dsimp only at hcq
            have hltj' : (j : Int) < (nY : Int) := by omega
            have j0 : (0 : Int) ≤ (j : Int) := by omega
            have e6 : IntKind.i64.wrap ((j : Int) + 1) = (j : Int) + 1 := by rw [IntKind.wrap_i64]; omega
            have hop : Own w3 w2.heap.size 3 pa pn pc (pl.map I) := hinX _ (List.mem_of_getElem? Hp.out)
            have hoq : Own w3 w1.heap.size 3 qa qn qc (ql.map I) := hinY _ (List.mem_of_getElem? Hq.out)
            have hokj : okP pl ql = true := okP_perm (Hpx.out _ (List.mem_of_getElem? Hp.out)) (Hpy.out _ (List.mem_of_getElem? Hq.out)) Hok.out
            have hC := implCutBoth_any pa pn pc pl qa qn qc ql wr ((hop.rd.below hbj).more hbj.size) ((hoq.rd.below hbj).more hbj.size) hokj
            clear hq hokj hrwY
            go_wp2_with fail
            refine hC.mono ?_
            rintro e w4 ⟨A4, n4, c4, rfl, ho4, hb4⟩
            have hb34 : Below w3.heap.size w3 w4 := hbj.trans (hb4.mono hbj.size)
            have B4 := B3.trans (hb34.mono B3.size)
            have hE := EqualI_any A4 n4 c4 (CB pl ql) A3 n3 c3 L w4 _ _ ho4.rd (hr3.below B4)
            have hs4 := hb34.size
            have hs34 := hb4.size
            clear hC ho4 hcq hbj hb4
            by_cases heq : CB pl ql = L
            · have Hv := Lib.hid (show OB us bs L = (pl, ql, true) by
                have e1 : (Y.map Prod.snd).find? (fun y => decide (CB pl y = L)) = some ql := find_at (k := j) (fun y hy => by
                  rw [← List.map_take] at hy
                  obtain ⟨q, hq, rfl⟩ := List.mem_map.1 hy
                  exact Hnoj.out q hq) (by rw [List.getElem?_map, Hq.out]; rfl) (by simpa using heq)
                have e2 : (X.map Prod.snd).find? (fun x => ((Y.map Prod.snd).find? fun y => decide (CB x y = L)).isSome) = some pl := find_at (k := k) (fun x hx => by
                  rw [← List.map_take] at hx
                  obtain ⟨p, hp, rfl⟩ := List.mem_map.1 hx
                  rw [Hno.out p hp]
                  rfl) (by rw [List.getElem?_map, Hp.out]; rfl) (by rw [e1]; rfl)
                unfold OB
                rw [Hok.out, if_pos rfl, ← Hxy.out]
                unfold OBf
                rw [e2]
                simp only [Option.bind_some, e1, Option.map_some])
              have hd : decide (CB pl ql = L) = true := decide_eq_true heq
              rw [hd] at hE
              clear heq hd
              go_wp2_with fail
              refine hE.mono ?_
              rintro e w5 ⟨rfl, hq5⟩
              have hb5 := hq5.bel w4.heap.size
              have hs5 := hb5.size
              have hb35 : Below w3.heap.size w3 w5 := hb34.trans (hb5.mono hs4)
              go_wp2_with fail
              go_ret3
              rw [Hv.out]
              refine ⟨pa, pn, pc, qa, qn, qc, w2.heap.size, w3.heap.size, w1.heap.size, w2.heap.size, rfl, hop.hi hb35, Own.hi (hinY2 _ (List.mem_of_getElem? Hq.out)) (hb23.trans (hb35.mono hs3)), ⟨by omega, by omega, by omega, by omega, .inr (Nat.le_refl _)⟩, B3.trans (hb35.mono B3.size)⟩
            · have hd : decide (CB pl ql = L) = false := decide_eq_false heq
              have Hd := Lib.hid hd
              rw [hd] at hE
              clear heq hd
              go_wp2_with fail
              refine hE.mono ?_
              rintro e w5 ⟨rfl, hq5⟩
              have hb5 := hq5.bel w4.heap.size
              go_wp2_with fail
              go_roundw
              case rel =>
                refine ⟨j + 1, by omega, by go_num, fun q hq => ?_, hb34.trans (hb5.mono hs4)⟩
                rw [List.take_add_one, Hq.out, List.mem_append] at hq
                rcases hq with hq | hq
                · exact Hnoj.out q hq
                · simp at hq
                  subst hq
                  exact Hd.out
              case measure => simp [intOf]; omega
          · obtain rfl : j = nY := by omega
            have hltj' : ¬ (j : Int) < (j : Int) := by omega
            have Hnp := Lib.hid (show ((Y.map Prod.snd).find? fun y => decide (CB pl y = L)) = none from find_no (fun y hy => by
              obtain ⟨q, hq, rfl⟩ := List.mem_map.1 hy
              exact Hnoj.out q (by rw [List.take_of_length_le (by have := HlY.out; omega)]; exact hq)))
            go_wp2_with fail
            go_roundw
            case rel =>
              refine ⟨k + 1, by omega, by go_num, fun p hp => ?_, hbj⟩
              rw [List.take_add_one, Hp.out, List.mem_append] at hp
              rcases hp with hp | hp
              · exact Hno.out p hp
              · simp at hp
                subst hp
                exact Hnp.out
            case measure => simp [intOf]; omega
      · obtain rfl : k = nX := by omega
        have hlt' : ¬ (k : Int) < (k : Int) := by omega
        have Hv := Lib.hid (show OB us bs L = ([], [], false) by
          unfold OB
          rw [Hok.out, if_pos rfl, ← Hxy.out]
          unfold OBf
          rw [find_no (fun x hx => ?_)]
          · rfl
          · obtain ⟨p, hp, rfl⟩ := List.mem_map.1 hx
            rw [Hno.out p (by rw [List.take_of_length_le (by have := HlX.out; omega)]; exact hp)]
            rfl)
        go_wp2_with fail
        go_ret3
        rw [Hv.out]
        exact retTwoI_nil (B3.trans (hbw.mono (by have := B3.size; omega)))
end Go.Proofs.Ytopmifidhabobaa
