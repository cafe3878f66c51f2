/-
  The shortest text over all orders: the program's way.
-/
import Derived.Test.YtfppbfhlmbakoaaShort
namespace Go.Proofs.Ytfppbfhlmbakoaa
open Go.RowKit
set_option linter.unusedVariables false
set_option linter.unusedSimpArgs false
attribute [local go_sem] Oper.semAt_some

theorem isNaNS_any (x : List UInt8) (w : World) : Calls Try.prog 90 #[.string ⟨x.toArray⟩] w fun e w' => e = .returned (.bool false) ∧ w' = w := by
  have e1 : (x == x) = true := by simp
  go_enter Try.func90, Try.ntmps90
  go_wp2_with fail
  go_ret
  exact ⟨by simp, rfl⟩
theorem CompareS_any (x y : List UInt8) (w : World) : Calls Try.prog 77 #[.string ⟨x.toArray⟩, .string ⟨y.toArray⟩] w fun e w' => ∃ r : Int, e = .returned (.int .i64 r) ∧ (r < 0 ↔ x < y) ∧ w' = w := by
  have h1 := bless x y
  have h2 := bless y x
  cases hxy : Op.bytesLess x y with
  | true =>
    have Hxy := Lib.hid (show x < y by rw [h1] at hxy; simpa using hxy)
    clear h1 h2
    go_enter Try.func77, Try.ntmps77
    go_wp2_with (first | (go_at_call 90; refine (isNaNS_any _ _).mono ?_; rintro e w' ⟨rfl, rfl⟩))
    go_ret
    exact ⟨-1, rfl, by simp [Hxy.out], rfl⟩
  | false =>
    have Hxy := Lib.hid (show ¬ x < y by rw [h1] at hxy; simpa using hxy)
    cases hyx : Op.bytesLess y x with
    | true =>
      have hne : (x == y) = false := by
        rw [beq_eq_false_iff_ne]
        rintro rfl
        rw [hxy] at hyx
        cases hyx
      clear h1 h2
      go_enter Try.func77, Try.ntmps77
      go_wp2_with (first | (go_at_call 90; refine (isNaNS_any _ _).mono ?_; rintro e w' ⟨rfl, rfl⟩))
      go_ret
      exact ⟨1, rfl, by simp [Hxy.out], rfl⟩
    | false =>
      have he : x = y := by
        have a1 : ¬ x < y := by rw [h1] at hxy; simpa using hxy
        have a2 : ¬ y < x := by rw [h2] at hyx; simpa using hyx
        exact List.le_antisymm (List.not_lt.1 a2) (List.not_lt.1 a1)
      have heq : (x == y) = true := by simpa using he
      clear h1 h2 he
      go_enter Try.func77, Try.ntmps77
      go_wp2_with (first | (go_at_call 90; refine (isNaNS_any _ _).mono ?_; rintro e w' ⟨rfl, rfl⟩))
      go_ret
      exact ⟨0, rfl, by simp [Hxy.out], rfl⟩
def or2 (a b : Int) : Int := if a = 0 then b else a
set_option maxHeartbeats 800000 in
theorem Or2_any (a b : Int) (A : Option Addr) (c B : Nat) (w : World) (hr : Rd w B A 2 c [.int .i64 a, .int .i64 b]) :
    Calls Try.prog 76 #[.slice A 2 c] w fun e w' => e = .returned (.int .i64 (or2 a b)) ∧ w' = w := by
  obtain ⟨bk, off, rfl, _, hc⟩ := hr.2.2.2 (by omega)
  have c0 := hc 0 _ rfl
  have c1 := hc 1 _ rfl
  rw [Nat.add_zero] at c0
  clear hc hr
  go_enter Try.func76, Try.ntmps76
  go_wp2_with fail
  go_loop [8] (fun i => ∃ k : Nat, k ≤ 2 ∧ i = .int .i64 k ∧ (0 < k → a = 0) ∧ (1 < k → b = 0)) (fun i => 2 - (intOf i).toNat)
  case atStart => exact ⟨0, by omega, rfl, by omega, by omega⟩
  case round =>
    obtain ⟨k, hk, rfl, h1, h2⟩ := hrel
    rcases (show k = 0 ∨ k = 1 ∨ k = 2 by omega) with rfl | rfl | rfl
    · clear h1 h2
      by_cases ha : a = 0
      · have e1 : (a != 0) = false := by simpa using ha
        have Ha := Lib.hid ha
        clear ha
        go_wp2_with fail
        go_round
        case rel => exact ⟨1, by omega, rfl, fun _ => Ha.out, by omega⟩
        case measure => simp [intOf]
      · have e1 : (a != 0) = true := by simpa using ha
        go_wp2_with fail
        go_ret
        exact ⟨ret_int (by unfold or2; rw [if_neg ha]), rfl⟩
    · have Ha := Lib.hid (h1 (by omega))
      clear h1 h2
      by_cases hb : b = 0
      · have e1 : (b != 0) = false := by simpa using hb
        have Hb := Lib.hid hb
        clear hb
        go_wp2_with fail
        go_round
        case rel => exact ⟨2, by omega, rfl, fun _ => Ha.out, fun _ => Hb.out⟩
        case measure => simp [intOf]
      · have e1 : (b != 0) = true := by simpa using hb
        go_wp2_with fail
        go_ret
        exact ⟨ret_int (by unfold or2; rw [if_pos Ha.out]), rfl⟩
    · have Ha := Lib.hid (h1 (by omega))
      have Hb := Lib.hid (h2 (by omega))
      clear h1 h2
      go_wp2_with fail
      go_ret
      exact ⟨ret_int (by unfold or2; rw [if_pos Ha.out, Hb.out]), rfl⟩
set_option maxHeartbeats 800000 in
theorem shorter_any (x y : List UInt8) (w : World) (hx : x.length ≤ 100000) (hy : y.length ≤ 100000) :
    Calls Try.prog 46 #[.string ⟨x.toArray⟩, .string ⟨y.toArray⟩] w fun e w' => ∃ r : Int, e = .returned (.int .i64 r) ∧ (r < 0 ↔ sLt x y = true) ∧ Below w.heap.size w w' := by
  go_enter Try.func46, Try.ntmps46
  go_wp2_with fail
  refine (Compare_lt _ _ _).mono ?_
  rintro e w1 ⟨r, rfl, hr1, hr2, rfl⟩
  have Hr1 := Lib.hid hr1
  have Hr2 := Lib.hid hr2
  clear hr1 hr2
  go_wp2_with fail
  refine (CompareS_any _ _ _).mono ?_
  rintro e w2 ⟨s, rfl, hs, rfl⟩
  have Hs := Lib.hid hs
  clear hs
  go_wp2_with fail
  refine (Or2_any r s _ 2 (w2.heap.size + 1) _ ⟨rfl, Nat.le_refl _, by unfold maxLen; omega, fun _ => ⟨_, _, rfl, Nat.lt_succ_self _, fun j u hu => ?_⟩⟩).mono ?_
  · rw [Nat.zero_add, cell_of_row _ _ j _ _ (0, 0) (heap_al0 _ _)]
    simpa using hu
  rintro e w3 ⟨rfl, rfl⟩
  go_wp2_with fail
  go_ret
  refine ⟨_, rfl, ?_, (Below.refl _ _).alloc (Nat.le_refl _) _⟩
  have h1 := Hr1.out
  have h2 := Hr2.out
  have h3 := Hs.out
  rw [sLt_iff]
  have h1' : r < 0 ↔ (x.length : Int) < (y.length : Int) := by simpa using h1
  by_cases hr0 : r = 0
  · have hl := h2.1 hr0
    unfold or2
    rw [if_pos hr0, h3]
    constructor
    · intro h; right; exact ⟨by omega, h⟩
    · rintro (h | h)
      · omega
      · exact h.2
  · have hne : (x.length : Int) ≠ (y.length : Int) := fun h => hr0 (h2.2 h)
    unfold or2
    rw [if_neg hr0, h1']
    constructor
    · intro h; left; omega
    · rintro (h | h)
      · omega
      · omega
def BestS (w : World) (R : Nat) (o : Option (List UInt8)) : Prop := w.heap[R]? = some (.cells #[.bool o.isSome, .string ⟨(o.getD []).toArray⟩] 44 (0, 0))
set_option maxHeartbeats 1600000 in
theorem offerS_any (R : Nat) (o : Option (List UInt8)) (x : List UInt8) (w : World) (hB : BestS w R o) (hx : x.length ≤ 100000) (ho : (o.getD []).length ≤ 100000) :
    Calls Try.prog 45 #[.pointer (some ⟨R, 0, none⟩), .string ⟨x.toArray⟩, .func (.func 46) #[] #[]] w fun e w' => e = .returned (.tuple #[]) ∧ BestS w' R (keepS o x) ∧ w.grownBy w' (some R) := by
  have ec := enters_of Try.func46 (by kernel_rfl) rfl
  unfold BestS at hB
  have hRl : R < w.heap.size := (Array.getElem?_eq_some_iff.1 hB).1
  have HB := Lib.hid hB
  have c0 := cell_of_row w R 0 _ _ (0, 0) hB
  have c1 := cell_of_row w R 1 _ _ (0, 0) hB
  have f0 := frozen_of_row w R 0 _ _ hB
  have f1 := frozen_of_row w R 1 _ _ hB
  clear hB
  have hfin : ∀ (W : World), W.heap[R]? = w.heap[R]? → BestS ((W.setCell ⟨R, 0, none⟩ (.bool true)).setCell ⟨R, 1, none⟩ (.string ⟨x.toArray⟩)) R (some x) := fun W hW => by
    have h1 := Go.Joins.block_setCell (i := 0) (hW.trans HB.out) (.bool true)
    have h2 := Go.Joins.block_setCell (i := 1) h1 (.string ⟨x.toArray⟩)
    unfold BestS
    rw [h2]
    simp
  have Hfin := Lib.hid hfin
  clear hfin
  cases o with
  | none =>
    have c0' : w.cell? ⟨R, 0, none⟩ = some (.bool false) := by rw [c0]; rfl
    have c1' : w.cell? ⟨R, 1, none⟩ = some (.string ⟨#[]⟩) := by rw [c1]; rfl
    clear c0 c1
    go_enter Try.func45, Try.ntmps45
    go_wp2_with fail
    go_end0
    exact ⟨rfl, Hfin.out w rfl, gr_trans (grown_set2 _ _ _ _) (grown_set2 _ _ _ _)⟩
  | some m =>
    have c0' : w.cell? ⟨R, 0, none⟩ = some (.bool true) := by rw [c0]; rfl
    have c1' : w.cell? ⟨R, 1, none⟩ = some (.string ⟨m.toArray⟩) := by rw [c1]; rfl
    clear c0 c1
    have hm : m.length ≤ 100000 := ho
    have hC := shorter_any x m w hx hm
    go_enter Try.func45, Try.ntmps45
    go_wp2_with fail
    refine hC.mono ?_
    rintro e w1 ⟨r, rfl, hr, hb⟩
    have hblk : w1.heap[R]? = w.heap[R]? := hb.block R hRl
    have g0 : w1.frozen? ⟨R, 0, none⟩ = false := (hb.frozen (p := ⟨R, 0, none⟩) hRl).trans f0
    have g1 : w1.frozen? ⟨R, 1, none⟩ = false := (hb.frozen (p := ⟨R, 1, none⟩) hRl).trans f1
    have d0 : w1.cell? ⟨R, 0, none⟩ = some (.bool true) := (hb.cell (p := ⟨R, 0, none⟩) hRl).trans c0'
    have d1 : w1.cell? ⟨R, 1, none⟩ = some (.string ⟨m.toArray⟩) := (hb.cell (p := ⟨R, 1, none⟩) hRl).trans c1'
    have hg : w.grownBy w1 (some R) := ⟨hb.os, hb.tape, hb.output, hb.size, fun k hk _ => hb.block k hk⟩
    have Hblk := Lib.hid hblk
    clear hC hblk hb
    by_cases hr0 : r < 0
    · have Hk := Lib.hid (show keepS (some m) x = some x by simp [keepS, hr.1 hr0])
      clear hr
      go_wp2_with fail
      go_end0
      exact ⟨rfl, by rw [Hk.out]; exact Hfin.out w1 Hblk.out, gr_trans hg (gr_trans (grown_set2 _ _ _ _) (grown_set2 _ _ _ _))⟩
    · have Hk := Lib.hid (show keepS (some m) x = some m by simp only [keepS]; rw [if_neg (fun h => hr0 (hr.2 h))])
      clear hr
      go_wp2_with fail
      go_end0
      exact ⟨rfl, by rw [Hk.out]; exact Hblk.out.trans HB.out, hg⟩
/-- The shortest text, of words that are none nothing. -/
def SST (ws : List (List UInt8)) : List UInt8 := if vw ws then shT (red ws) else []
def RetTwo (w : World) (x : List UInt8) (b : Bool) (e : Ending) (w' : World) : Prop := e = .returned (.tuple #[.string ⟨x.toArray⟩, .bool b]) ∧ Below w.heap.size w w'
theorem keptS_short {f : List Nat → List UInt8} (L : List (List Nat)) (k : Nat) (h : ∀ x ∈ L, (f x).length ≤ k) : ((keptS f L).getD []).length ≤ k := by
  have hk := keptS_kept f L
  cases ho : keptS f L with
  | none => simp
  | some m =>
    rw [ho] at hk
    obtain ⟨⟨x, hx, rfl⟩, _⟩ := hk
    exact h x hx
theorem tx_take (ws : List (List UInt8)) (x : List Nat) (k : Nat) (i : Nat) (hk : k < x.length) (hi : i = x.getD k 0) : tx ([], []) (sel ws (x.take (k + 1))) = ((tx ([], []) (sel ws (x.take k))).1 ++ (wd ws i).drop (ovl (tx ([], []) (sel ws (x.take k))).2 (wd ws i)), wd ws i) := by
  have hgj : x.getD k 0 = x[k] := by simp [List.getD_eq_getElem?_getD, List.getElem?_eq_getElem hk]
  rw [List.take_succ_eq_append_getElem hk, ← hgj, ← hi]
  unfold sel
  rw [List.map_append, List.map_singleton, tx_snoc]
theorem tx_last (ws : List (List UInt8)) (B : Nat) (hB : ∀ i, (wd ws i).length ≤ B) (o : List Nat) : (tx ([], []) (sel ws o)).2.length ≤ B := by
  induction o using rev_ind with
  | h0 => simp [sel, tx]
  | h1 o a _ =>
    unfold sel
    rw [List.map_append, List.map_singleton, tx_snoc]
    exact hB a
set_option maxRecDepth 100000 in
set_option maxHeartbeats 3200000 in
theorem ShortestSuper_any (A : Option Addr) (n c : Nat) (ws : List (List UInt8)) (w : World) (hr : Rd w w.heap.size A n c (ws.map S)) (hl : Len47 ws) (hvr : Vr w) :
    Calls Try.prog 20 #[.slice A n c] w (RetTwo w (SST ws) (vw ws)) := by
  have hn := hr.slen
  have Hn := Lib.hid hn
  clear hn
  cases hv : vw ws with
  | false =>
    have Hv := Lib.hid (show SST ws = [] by unfold SST; rw [hv]; rfl)
    have HV := Lib.hid hv
    clear hv
    go_enter Try.func20, Try.ntmps20
    go_wp2_with fail
    refine (wordsOk_any A n c ws _ hr hl).mono ?_
    rintro e w' ⟨rfl, hb1⟩
    rw [HV.out]
    go_wp2_with fail
    go_ret2
    rw [Hv.out]
    exact ⟨rfl, hb1⟩
  | true =>
    have h6 := vw_len hv
    rw [Hn.out] at h6
    have Hv := Lib.hid (show SST ws = (keptS (otx (red ws)) (ord (red ws).length (red ws).length [])).getD [] by unfold SST; rw [hv, keptS_least (shT_least (red ws))]; rfl)
    have hl6 : ∀ x ∈ ws, x.length ≤ 1048576 := fun x hx => by have := (wOk_len (vw_all' hv x hx)).2; omega
    have hl7 : ∀ x ∈ ws, x.length ≤ 6 := fun x hx => by have := (wOk_len (vw_all' hv x hx)).2; omega
    have hB : ∀ i, (wd (red ws) i).length ≤ 6 := fun i => by
      unfold wd
      rw [List.getD_eq_getElem?_getD]
      cases h : (red ws)[i]? with
      | none => simp
      | some y => exact hl7 y (red_mem (List.mem_of_getElem? h))
    have HV := Lib.hid hv
    clear hv
    refine (callsIn_wide (n := 9)).1 ?_
    refine callsIn_of_wp_marks Try.func20 rfl trivial ?_ rfl
    simp only [Try.ntmps20, List.size_toArray, List.length_cons, List.length_nil, Nat.reduceAdd, Nat.reduceSub, Array.replicate_succ, Array.replicate_zero, List.push_toArray, List.append_toArray, List.nil_append, List.cons_append]
    gi_wp2_with fail
    refine ⟨trivial, (callsIn_wide.2 (wordsOk_any A n c ws _ hr hl)).mono ?_⟩
    rintro e w1 ⟨rfl, hb1⟩
    rw [HV.out]
    have hr1 := (hr.below hb1).more hb1.size
    have hvr1 := hvr.keep hb1
    gi_wp2_with fail
    refine ⟨trivial, (callsIn_wide.2 (reduced_any A n c ws _ hr1 hl6 (by omega) hvr1)).mono ?_⟩
    rintro e w2 ⟨A2, m, c2, rfl, ho2, hb2⟩
    have hm : (red ws).length = m := by have := ho2.1; simpa using this
    have hm6 : m ≤ 6 := by rw [← hm]; have := redTo_le ws ws.length; unfold red; have := Hn.out; omega
    have Hm := Lib.hid hm
    clear hm
    have hb02 := hb1.trans (hb2.mono hb1.size)
    have hbe : ∀ (v : Value) (o : Obj), Boxed ((w2.alloc (.cells #[v] 22)).alloc o) w2.heap.size 22 v := fun v o => (Boxed.new w2 _ v).alloc o
    have hbc := fun v o => (hbe v o).cell
    have Hbe := Lib.hid hbe
    clear hbe
    gi_wp2_with fail
    refine ⟨trivial, (callsIn_wide.2 (orders_any m _)).mono ?_⟩
    rintro e w3 ⟨rfl, rfl⟩
    gi_wp2_with fail
    obtain ⟨W0, hW0⟩ : ∃ W0, W0 = (((w2.alloc (.cells #[.slice A2 m c2] 22)).alloc (.cells #[.bool false, .string ⟨#[]⟩] 44)).alloc (.cells #[.int .i64 m] 3)) := ⟨_, rfl⟩
    rw [← hW0]
    have hs0 : W0.heap.size = w2.heap.size + 3 := by rw [hW0]; simp
    have z1 : Boxed W0 w2.heap.size 22 (.slice A2 m c2) := by rw [hW0]; exact (((Boxed.new w2 _ _).alloc _).alloc _)
    have z2 : BestS W0 (w2.heap.size + 1) none := by
      rw [hW0]
      unfold BestS
      rw [heap_al, if_neg (by simp), heap_al, if_pos (by simp)]
      rfl
    have z3 : Boxed W0 (w2.heap.size + 2) 3 (.int .i64 m) := by
      rw [hW0]
      have := Boxed.new ((w2.alloc (.cells #[.slice A2 m c2] 22)).alloc (.cells #[.bool false, .string ⟨#[]⟩] 44)) 3 (.int .i64 m)
      simpa using this
    have z4 : Rd W0 w2.heap.size A2 m c2 ((red ws).map S) := by
      rw [hW0]
      exact ho2.rd.below (kp_alloc _ (kp_alloc _ (kp_alloc _ (Below.refl _ _) (Nat.le_refl _)) (Nat.le_refl _)) (Nat.le_refl _))
    have z5 : Below w.heap.size w W0 := by
      rw [hW0]
      exact kp_alloc _ (kp_alloc _ (kp_alloc _ hb02 (Nat.le_refl _)) (Nat.le_refl _)) (Nat.le_refl _)
    have hs2 : w.heap.size ≤ w2.heap.size := hb02.size
    have Hs0 := Lib.hid hs0
    clear hW0 hs0 hbc ho2 hb2 hb1 hr1 hvr1
    refine wpIn_orders 6 (by omega) m (w2.heap.size + 2) (by omega) z3 rfl
      (fun pre W => (Boxed W w2.heap.size 22 (.slice A2 m c2) ∧ BestS W (w2.heap.size + 1) (keptS (otx (red ws)) pre) ∧ Rd W w2.heap.size A2 m c2 ((red ws).map S) ∧ Below w.heap.size w W) ∧ ∀ x ∈ pre, x.length = m) ?hI ⟨⟨z1, z2, z4, z5⟩, by simp⟩ ?assign ?body ?done
    case hI =>
      rintro pre A B ⟨⟨y1, y2, y3, y4⟩, hp⟩ hw
      have hsz := Hs0.out
      have hlt := y1.lt
      have hb : Below w2.heap.size A B := hw.below (by omega) (by omega)
      refine ⟨⟨(hw.block _ y1.lt (.inl (by omega))).trans y1, (hw.block _ (Array.getElem?_eq_some_iff.1 y2).1 (.inl (by omega))).trans y2, y3.below hb, y4.trans (hb.mono hs2)⟩, hp⟩
    case assign =>
      intro l v W K hK
      gi_wp2
      exact hK
    case body =>
      rintro l pre x v W ⟨⟨y1, y2, y3, y4⟩, hp⟩ hx hsz ⟨rfl, cur, hcur, hcl⟩
      have hxl : x.length = m := by simpa using hx.length_eq
      have hbl := keptS_short (f := otx (red ws)) pre 36 (fun z hz => by have := txt_short (red ws) 6 hB z; rw [hp z hz] at this; omega)
      have Hp := Lib.hid hp
      clear hp
      obtain rfl := hxl
      simp only [setTwo, List.setIfInBounds_toArray, List.set_cons_zero, List.set_cons_succ]
      gi_wp2
      have hor : Rd W W.heap.size (some ⟨W0.heap.size + 2 + 1, 0, none⟩) x.length x.length (x.map NI) := by
        refine ⟨by simp, Nat.le_refl _, by unfold maxLen; omega, fun _ => ⟨_, _, rfl, (Array.getElem?_eq_some_iff.1 hcur).1, fun j u hu => ?_⟩⟩
        rw [Nat.zero_add, cell_of_row W _ j cur _ (0, 0) hcur, ← Array.getElem?_toList, hcl]
        exact hu
      have Hx := Lib.hid hx
      clear hcur hcl hx z1 z2 z3 z4 z5
      gi_loopw [7, 8, 22] (fun t la i wr => ∃ k : Nat, k ≤ x.length ∧ i = .int .i64 k ∧ t = .string ⟨(tx ([], []) (sel (red ws) (x.take k))).1.toArray⟩ ∧ la = .string ⟨(tx ([], []) (sel (red ws) (x.take k))).2.toArray⟩ ∧ Quiet W wr) (fun _ _ i _ => x.length - (intOf i).toNat)
      case atStart => exact ⟨0, Nat.zero_le _, rfl, rfl, rfl, Quiet.refl _⟩
      case round =>
        obtain ⟨k, hk, rfl, rfl, rfl, hq⟩ := hrel
        have htl := txt_short (red ws) 6 hB (x.take k)
        have hll := tx_last (red ws) 6 hB (x.take k)
        rw [List.length_take] at htl
        by_cases hlt : k < x.length
        · have hlt' : (k : Int) < (x.length : Int) := by omega
          have k0 : (0 : Int) ≤ (k : Int) := by omega
          have hi := perm_getD Hx.out hlt
          have Hst := fun i hi => tx_take (red ws) x k i hlt hi
          obtain ⟨i, hie⟩ : ∃ i, i = x.getD k 0 := ⟨_, rfl⟩
          have Hst := Lib.hid (Hst i hie)
          have hci := (hq.rd hor).nat_at' hlt
          rw [← hie, Nat.zero_add] at hci
          rw [← hie] at hi
          have hcw : wr.cell? ⟨w2.heap.size, 0, none⟩ = some (.slice A2 x.length c2) := by obtain ⟨q, rfl⟩ := hq; exact y1.cell
          obtain ⟨b, off, u, rfl, _, hu, hcu⟩ := (hq.rd y3).str hi
          have hu6 := hl7 u (red_mem (List.mem_of_getElem? hu))
          rw [wd_at hu] at Hst
          have Htx := Lib.hid (show (otx (red ws) (x.take k)) = (tx ([], []) (sel (red ws) (x.take k))).1 from rfl)
          rw [Htx.out] at htl
          obtain ⟨T, hT⟩ : ∃ T, T = (tx ([], []) (sel (red ws) (x.take k))).1 := ⟨_, rfl⟩
          obtain ⟨L, hL⟩ : ∃ L, L = (tx ([], []) (sel (red ws) (x.take k))).2 := ⟨_, rfl⟩
          rw [← hT] at htl
          rw [← hL] at hll
          rw [← hT, ← hL] at Hst ⊢
          have hO := fun w' => overlap_any L u w' (by omega) (by omega)
          have ho1 := ovl_le_right L u
          obtain ⟨v, hv⟩ : ∃ v, v = ovl L u := ⟨_, rfl⟩
          rw [← hv] at hO ho1 Hst
          have i1 : (i : Int) < (x.length : Int) := by omega
          have i0 : (0 : Int) ≤ (i : Int) := by omega
          have htl2 : T.length ≤ 36 := by omega
          have hadd : ∀ W : World, (Op.stringOp .add ⟨T.toArray⟩ ⟨(List.take (u.length - v) (List.drop v u)).toArray⟩).run Try.prog W = .ok (.string ⟨(T ++ List.take (u.length - v) (List.drop v u)).toArray⟩) W := fun W => by
            have h := run_string_add_sum (P := Try.prog) W ⟨T.toArray⟩ ⟨(List.take (u.length - v) (List.drop v u)).toArray⟩ (by show T.length + (List.take (u.length - v) (List.drop v u)).length ≤ _; rw [List.length_take, List.length_drop]; omega)
            rw [ba_append] at h
            exact h
          clear hu hv hie hT hL htl Htx
          gi_wp2_with fail
          refine round_quiet (by kernel_rfl) (by kernel_rfl) (by rintro ⟨_, _, h⟩; exact h) (by kernel_rfl) ?_
          repeat (quiet_step ((go_at_call 44; exact Calls.quiet_of_same ((hO _).mono fun _ _ ⟨h1, h2⟩ => ⟨h1, h2.symm⟩))))
          refine wpQuiet_nil ?_
          intro _ hw'
          obtain ⟨nq, hw''⟩ := hw'
          subst hw''
          clear hO hadd
          gi_wp2_with fail
          go_roundw
          case rel => exact ⟨k + 1, by omega, by go_num, by rw [Hst.out, take_rest], by rw [Hst.out], hq.drewN _⟩
          case measure => simp [intOf]; omega
        · obtain rfl : k = x.length := by omega
          have hlt' : ¬ (x.length : Int) < (x.length : Int) := by omega
          have Htx := Lib.hid (show (tx ([], []) (sel (red ws) (x.take x.length))).1 = otx (red ws) x by rw [List.take_length]; rfl)
          have htl2 : (otx (red ws) x).length ≤ 36 := by rw [← Htx.out]; have : (tx ([], []) (sel (red ws) (x.take x.length))).1 = otx (red ws) (x.take x.length) := rfl; rw [this]; omega
          obtain ⟨q, rfl⟩ := hq
          have hO := offerS_any (w2.heap.size + 1) (keptS (otx (red ws)) pre) (otx (red ws) x) (W.drewN q) y2 (by omega) (by omega)
          have ek : keepS (keptS (otx (red ws)) pre) (otx (red ws) x) = keptS (otx (red ws)) (pre ++ [x]) := (keptS_snoc _ _ _).symm
          rw [ek] at hO
          clear ek hll htl
          rw [Htx.out]
          gi_wp2_with fail
          refine ⟨trivial, (CallsIn.inRound l (callsIn_wide.2 hO)).mono ?_⟩
          rintro e w5 ⟨rfl, hB5, hg5⟩
          have hg5' : W.grownBy w5 (some (w2.heap.size + 1)) := ⟨hg5.os, hg5.tape, hg5.output, hg5.size, hg5.block⟩
          clear hO hg5
          gi_wp2_with fail
          have hsz' := Hs0.out
          have hb5 : Below w2.heap.size W w5 := (Win.of_grown (lo := w2.heap.size) (hi := w2.heap.size + 2) hg5' (fun k e => by cases e; omega)).below (Nat.le_refl _) (by omega)
          refine ⟨Keeps.of_grown hg5' (fun k e => by cases e; omega), ⟨(hg5'.block _ y1.lt (by simp)).trans y1, hB5, y3.below hb5, y4.trans (hb5.mono hs2)⟩, fun z hz => ?_⟩
          rw [List.mem_append, List.mem_singleton] at hz
          rcases hz with hz | rfl
          · exact Hp.out z hz
          · rfl
    case done =>
      rintro W ⟨⟨y1, y2, y3, y4⟩, _⟩ hK
      have c1 := cell_of_row W (w2.heap.size + 1) 1 _ _ (0, 0) y2
      have c1' : W.cell? ⟨w2.heap.size + 1, 1, none⟩ = some (.string ⟨((keptS (otx (red ws)) (ord m m [])).getD []).toArray⟩) := by rw [c1]; rfl
      clear c1
      gi_wp2
      have hsz' := Hs0.out
      have hlt := y1.lt
      refine ⟨by simp, .inl ⟨_, _, rfl, run_takeDeferred hK, ?_⟩⟩
      rw [Hv.out, Hm.out]
      exact ⟨_, results_tmp2 rfl _ _ _, rfl, y4.trans (((Win.putObj (lo := W0.heap.size) (hi := W0.heap.size + 1) W _ (Nat.le_refl _) (by omega)).below (by omega) (by omega)).mono hs2)⟩
end Go.Proofs.Ytfppbfhlmbakoaa
