/-
  slices.Values, slices.AppendSeq, slices.Collect, slices.Sorted on texts; slices.Sort, slices.Compact on a row of texts.
-/
import Derived.Test.YtfbmcfdmffpfmaaRound
import Derived.Test.YtfbmcfdmffpfmaaFacL
import Derived.Test.YtfbmcfdmffpfmaaXs
import Derived.Test.YtfbmcfdmffpfmaaPut
import Derived.Test.YtfbmcfdmffpfmaaFuncs
import Derived.Test.YtfbmcfdmffpfmaaShelf
import Derived.RangeFuncBox
import Derived.Sort.Row
namespace Go.Proofs.Ytfbmcfdmffpfmaa
open Go.RowKit Go.Sort
set_option linter.unusedVariables false
set_option linter.unusedSimpArgs false
attribute [local go_sem] Oper.semAt_some

/-! ### what abides the turn of a block that is no cells -/
theorem box_abides {A B : World} {row : Option Nat} {k : Nat} {t : TypeId} {v : Value} (h : Boxed A k t v) (hg : A.grownBy B row) (hr : ∀ r, row = some r → ∃ o : Obj, A.heap[r]? = some o ∧ o.isCells = false) : Boxed B k t v :=
  (grownBy_keeps_cells hg hr h rfl).trans h
theorem row_abides {A B : World} {row : Option Nat} {N : Nat} {e : TypeId} {a : Option Addr} {n c : Nat} {xs : List Value} (h : Row A N e a n c xs) (hg : A.grownBy B row) (hr : ∀ r, row = some r → ∃ o : Obj, A.heap[r]? = some o ∧ o.isCells = false) : Row B N e a n c xs := by
  obtain ⟨h1, h2 | ⟨g, cap, cur, hv, hb, hh, h3⟩⟩ := h
  · exact ⟨h1, .inl h2⟩
  · exact ⟨h1, .inr ⟨g, cap, cur, hv, hb, (grownBy_keeps_cells hg hr hh rfl).trans hh, h3⟩⟩
theorem map_S (l : List (List UInt8)) : l.map S = l.map encStr := rfl
/-- Sorting a row of the call's own. -/
theorem SortS_any (B : Nat) (A : Option Addr) (n c : Nat) (ws : List (List UInt8)) (w : World) (h : Row w B 9 A n c (ws.map S)) (hn : n ≤ 1000000000) :
    Calls Try.prog 91 #[.slice A n c] w fun e w' => e = .returned (.tuple #[]) ∧ Row w' B 9 A n c ((stT ws).map S) ∧ w.grownBy w' (Value.slice A n c).ownBlock := by
  have hl := h.len
  simp at hl
  rcases Nat.eq_zero_or_pos n with h0 | h0
  · subst h0
    have hz : ws = [] := List.eq_nil_of_length_eq_zero hl
    subst hz
    refine (Try.slices_Sort_string_none A c w).mono ?_
    rintro e w' ⟨rfl, rfl⟩
    have : stT [] = [] := List.eq_nil_of_length_eq_zero (stT_len [])
    rw [this]
    exact ⟨rfl, h, ⟨rfl, rfl, rfl, Nat.le_refl _, fun _ _ _ => rfl⟩⟩
  · obtain ⟨g, cur, rfl, hB, hh, ht, hc, hm⟩ := Row.blk (g := 0) h h0
    subst hl
    refine (Try.slices_Sort_string g 0 c ws w (holds_blk _ hh ht) (Array.getElem?_eq_some_iff.1 hh).1 (by omega)).mono ?_
    rintro e w' ⟨rfl, k, os, rfl⟩
    refine ⟨rfl, ?_, grown_put _ _⟩
    have hs := stT_len ws
    have := row_put encStr (n := k) (os := os) h h0 (stT ws) (m := ws.length) (by omega) (by omega)
    rw [List.take_of_length_le (by omega)] at this
    exact this
theorem getBang_at {L : List (List UInt8)} {j : Nat} : L.toArray[j]! = L.getD j [] := by
  rw [List.getD_eq_getElem?_getD]
  simp [getElem!_def]
  cases L[j]? <;> rfl
theorem compact_adj (L : List (List UInt8)) : ∀ j, Lib.compactUpTo L.toArray j = adjT L j := by
  intro j
  induction j with
  | zero => rfl
  | succ j ih =>
    rw [Lib.compactUpTo_succ, ih, adjT]
    unfold Lib.keeps
    rw [getBang_at, getBang_at]
    simp only [decide_eq_true_eq]
theorem compact_dd (l : List (List UInt8)) : Lib.compact (stT l) = dd l := by
  unfold Lib.compact
  rw [compact_adj, adjT_dd]
theorem CompactS_any (B : Nat) (A : Option Addr) (n c : Nat) (ws : List (List UInt8)) (w : World) (h : Row w B 9 A n c (ws.map S)) (hn : n ≤ 1000000000) :
    Calls Try.prog 88 #[.slice A n c] w fun e w' => e = .returned (.slice A (Lib.compact ws).length c) ∧ Row w' B 9 A (Lib.compact ws).length c ((Lib.compact ws).map S) ∧ w.grownBy w' (Value.slice A n c).ownBlock := by
  have hl := h.len
  simp at hl
  rcases Nat.eq_zero_or_pos n with h0 | h0
  · subst h0
    have hz : ws = [] := List.eq_nil_of_length_eq_zero hl
    subst hz
    refine (Try.slices_Compact_string_empty A c w).mono ?_
    rintro e w' ⟨rfl, rfl⟩
    exact ⟨rfl, h, ⟨rfl, rfl, rfl, Nat.le_refl _, fun _ _ _ => rfl⟩⟩
  · obtain ⟨g, cur, rfl, hB, hh, ht, hc, hm⟩ := Row.blk (g := 0) h h0
    subst hl
    refine (Try.slices_Compact_string g 0 c ws w (holds_blk _ hh ht) (by omega) (by omega)).mono ?_
    rintro e w' ⟨rfl, k, rfl⟩
    have hle : (Lib.compact ws).length ≤ ws.length := Lib.compact_length_le ws
    obtain ⟨ts, hts⟩ : ∃ ts, ts = Lib.compact ws ++ List.replicate (ws.length - (Lib.compact ws).length) [] := ⟨_, rfl⟩
    have htl : ts.length = ws.length := by rw [hts, List.length_append, List.length_replicate]; omega
    rw [← hts]
    have h2 := row_put encStr (n := k) (os := #[]) h h0 ts (m := (Lib.compact ws).length) (by omega) (by omega)
    have h3 := grown_put encStr (w := w) (g := g) (n := k) (os := #[]) ts.toArray
    rw [grow_none] at h2 h3
    have e : ts.take (Lib.compact ws).length = Lib.compact ws := by rw [hts, List.take_left]
    rw [e] at h2
    exact ⟨rfl, h2, h3⟩
theorem Values_any (d : Nat) (A : Option Addr) (n c : Nat) (w : World) :
    CallsIn Fence.wide d Try.prog 89 #[.slice A n c] w fun e w' => e = .returned (.func (.func 107) #[] #[.pointer (some ⟨w.heap.size, 0, none⟩)]) ∧ w' = w.alloc (.cells #[.slice A n c] 24) := by
  refine callsIn_wide.2 ?_
  go_enter Try.func89, Try.ntmps89
  go_wp2_with fail
  go_ret
  exact ⟨rfl, rfl⟩
set_option maxRecDepth 100000 in
set_option maxHeartbeats 2000000 in
theorem valuesT_in (n : Nat) (hn : 1 ≤ n) (l Bs N len cap : Nat) (A : Option Addr) (ws : List (List UInt8)) (hl6 : len ≤ 1000000) (J Jx : List (List UInt8) → World → Prop)
    (hY : ∀ pre x W, J pre W → pre.length < len → YieldAt Fence.wide (n - 1) Try.prog l #[.string ⟨x.toArray⟩] W fun e W' =>
      (e = .returned (.bool true) ∧ J (pre ++ [x]) W' ∧ Below N W W') ∨ (e = .returned (.bool false) ∧ Jx (pre ++ [x]) W'))
    (W : World) (hBs : W.cell? ⟨Bs, 0, none⟩ = some (.slice A len cap)) (hr : Rd W N A len cap (ws.map S)) (h0 : J [] W) :
    CallsIn Fence.wide n Try.prog 107 #[.func (.yield l) #[] #[], .pointer (some ⟨Bs, 0, none⟩)] W fun e W' => (∃ v, e = .returned v) ∧
      ((∃ ys, ys = ws ∧ J ys W') ∨ (∃ pre, True ∧ Jx pre W')) := by
  have hlen : ws.length = len := hr.slen
  refine callsIn_of_wp Try.func107 rfl trivial ?_ rfl
  simp only [Try.ntmps107, List.size_toArray, List.length_cons, List.length_nil, Nat.reduceAdd, Nat.reduceSub, Array.replicate_succ, Array.replicate_zero, List.push_toArray, List.append_toArray, List.nil_append, List.cons_append]
  gi_wp2
  gi_loopw [7] (fun i wr => ∃ k : Nat, k ≤ len ∧ i = .int .i64 k ∧ J (ws.take k) wr ∧ Below N W wr)
    (fun i _ => len - (intOf i).toNat)
  case atStart => exact ⟨0, Nat.zero_le _, rfl, h0, Below.refl _ _⟩
  case round =>
    obtain ⟨k, hk, rfl, hJs, hnx⟩ := hrel
    by_cases hlt : k < len
    · obtain ⟨b, o, y, rfl, hb, hy, hcy⟩ := (hr.below hnx).str hlt
      have hk1 : k < ws.length := by omega
      have Hst := Lib.hid (show ws.take (k + 1) = ws.take k ++ [y] by
        rw [List.take_succ_eq_append_getElem hk1]
        rw [List.getElem?_eq_getElem hk1] at hy
        injection hy with hy
        rw [hy])
      obtain ⟨fn, tmps, assign, body, hyy, hR⟩ := hY _ y wr hJs (by rw [List.length_take]; omega)
      have k0 : (0 : Int) ≤ (k : Int) := by omega
      have k1 : (k : Int) < (len : Int) := by omega
      have e5 : IntKind.i64.wrap ((k : Int) + 1) = (k : Int) + 1 := by rw [IntKind.wrap_i64]; omega
      clear hy hBs hY
      gi_wp2
      refine hR.mono ?_
      rintro e W3 (⟨rfl, hJ3, hk3⟩ | ⟨rfl, hJx3⟩)
      · gi_wp2
        go_roundw
        case rel => exact ⟨k + 1, by omega, by go_num, by rw [Hst.out]; exact hJ3, hnx.trans hk3⟩
        case measure => simp [intOf] <;> omega
      · gi_wp2
        refine bodyPost_ret (results_none rfl _ _ _) rfl ?_
        exact ⟨⟨_, rfl⟩, .inr ⟨_, trivial, hJx3⟩⟩
    · obtain rfl : k = len := by omega
      gi_wp2
      go_end0
      exact ⟨⟨_, rfl⟩, .inl ⟨_, List.take_of_length_le (by omega), hJs⟩⟩
theorem wpListIn_app1 {F : Fence} {d : Nat} {P : Program} (w : World) {ops : Array Oper} {rest : List Oper} {o : Oper} {a : Act} {Q : Exit → Act → World → Prop} (hgd : o.guard = none) (s x : Operand) (t : TypeId)
    (ho : o.op = .call { callee := .builtin .append, args := #[s, x], argTypes := #[t, t] })
    (B : Nat) (e : TypeId) (i : TypeInfo) (z : Value) (bytes : Nat) (ht : P.underlying t = some (.slice e)) (hi : P.info? e = some i) (hz : i.zero = some z)
    (hsize : i.size = 1) (hby : i.bytes = bytes) (hws : z.cells.size = 1)
    (A : Option Addr) (n c : Nat) (xs : List Value) (hs : a.eval s = .slice A n c) (hown : Row w B e A n c xs)
    (ad : Addr) (u : Value) (hx : a.eval x = .slice (some ad) 1 1) (hnews : ∀ j v, [u][j]? = some v → w.cell? (ad.add j) = some v) (h1 : u.oneCell' = true)
    (hn : n ≤ 4398046511104) (hbytes : bytes ≤ 24) (hbase : B ≤ w.heap.size)
    (h : ∀ A' c' w', Row w' B e A' (n + 1) c' (xs ++ [u]) → w.grownBy w' (Value.slice A n c).ownBlock → wpListIn F d P ops Q rest (a.put o.dst (.slice A' (n + 1) c')) w') : wpListIn F d P ops Q (o :: rest) a w := by
  refine wpListIn_append_own w hgd s x t ho B e i z 1 bytes ht hi hz hsize hby hws (by omega) _ n xs hs hown ad 1 1 [u] hx rfl hnews (by intro v hv; simp at hv; subst hv; exact h1) (by unfold maxLen; omega) ?_ hbase ?_
  · calc (n + 1) * bytes ≤ (n + 1) * 24 := Nat.mul_le_mul_left _ hbytes
      _ ≤ 140737488355328 := by omega
  · intro v' w' h2 h3 _
    have h4 := h2
    obtain ⟨_, ⟨_, h5⟩ | ⟨g, cap, cur, rfl, _⟩⟩ := h4
    · omega
    · exact h _ _ _ h2 h3
/-- The ending of a call that hands back a row of its own. -/
def RetRw (w : World) (t : TypeId) (xs : List Value) (e : Ending) (w' : World) : Prop :=
  ∃ A n c, e = .returned (.slice A n c) ∧ Row w' w.heap.size t A n c xs ∧ Below w.heap.size w w'
/-- What the loop keeps: the box of the result, the result. -/
def AS (w : World) (N Bo : Nat) (pre : List (List UInt8)) (W : World) : Prop :=
  (∃ (A' : Option Addr) (c' : Nat), Boxed W Bo 24 (.slice A' pre.length c') ∧ Row W N 9 A' pre.length c' (pre.map S)) ∧ Below N w W
set_option maxRecDepth 100000 in
set_option maxHeartbeats 3200000 in
theorem AppendSeq_any (Bs : Nat) (A : Option Addr) (n c : Nat) (ws : List (List UInt8)) (w : World) (hbs : Boxed w Bs 24 (.slice A n c)) (hr : Rd w w.heap.size A n c (ws.map S)) (hn6 : n ≤ 1000000) :
    CallsIn Fence.wide 8 Try.prog 111 #[.slice none 0 0, .func (.func 107) #[] #[.pointer (some ⟨Bs, 0, none⟩)]] w (RetRw w 9 (ws.map S)) := by
  have hlen : ws.length = n := hr.slen
  obtain ⟨i0, hi, hz0, hz1, hz2⟩ := info_parts Try.infoXs
  refine callsIn_of_wp_marks Try.func111 rfl trivial ?_ rfl
  simp only [Try.ntmps111, List.size_toArray, List.length_cons, List.length_nil, Nat.reduceAdd, Nat.reduceSub, Array.replicate_succ, Array.replicate_zero, List.push_toArray, List.append_toArray, List.nil_append, List.cons_append]
  have Hlen := Lib.hid hlen
  clear hlen
  gi_wp2_with fail
  obtain ⟨W0, hW0⟩ : ∃ W0, W0 = w.alloc (.cells #[.slice none 0 0] 24) := ⟨_, rfl⟩
  have hsz0 : W0.heap.size = w.heap.size + 1 := by rw [hW0]; simp
  have hbW : Below w.heap.size w W0 := by rw [hW0]; exact kp_alloc _ (Below.refl _ _) (Nat.le_refl _)
  have hbx1 : Boxed W0 w.heap.size 24 (.slice none 0 0) := by rw [hW0]; exact Boxed.new w _ _
  have hbs0 : W0.cell? ⟨Bs, 0, none⟩ = some (.slice A n c) := by rw [hW0]; exact (hbs.alloc _).cell
  have hlt := hbs.lt
  rw [← hW0]
  have hkey : SeqStopsK Fence.wide 7 Try.prog 107 #[.pointer (some ⟨Bs, 0, none⟩)] (fun x : List UInt8 => #[Value.string ⟨x.toArray⟩]) (Below w.heap.size) (fun ys => ys = ws) (fun _ => True) n W0 := by
    intro l J Jx W hW _ _ hY h0
    refine valuesT_in 7 (by omega) l Bs w.heap.size n c A ws hn6 J Jx hY W ?_ ((hr.below hbW).below (hW.mono (by omega))) h0
    exact (hW.cell (p := ⟨Bs, 0, none⟩) (by show Bs < _; omega)).trans hbs0
  refine wpIn_rangeFunc_ownF (F := Fence.wide) rfl (by omega) (gf := 107) (lb := #[.pointer (some ⟨Bs, 0, none⟩)]) rfl trivial (enters_of Try.func107 (by kernel_rfl) rfl)
    hkey (fun h k => h.trans k) ?kb (Below.refl _ _) (fun _ => rfl)
    (AS w w.heap.size w.heap.size) (fun _ _ _ => False) ?hI (fun _ _ _ _ _ h _ _ => h) ?h0
    (fun x => { tmps := #[.slice none 0 0, .func (.func 107) #[] #[.pointer (some ⟨Bs, 0, none⟩)], .pointer (some ⟨w.heap.size, 0, none⟩), undef, .slice none 0 0, .string ⟨x.toArray⟩, .func (.func 107) #[] #[.pointer (some ⟨Bs, 0, none⟩)], .string ⟨x.toArray⟩, undef, undef, undef, undef, undef], defers := [] }) ?assign ?body ?done ?stop
  case kb =>
    intro W l o1 o2 hl h _ _
    exact belowK_b (w := W0) (by rw [hsz0]; omega) W l o1 o2 hl h (by assumption) (by assumption)
  case hI =>
    refine OwnFrom.and (Own.from (fun s A B row hs hg hr => ?_) _) (ownFrom_below (Nat.le_refl _) (by rw [hsz0]; omega))
    obtain ⟨A', c', h2, h3⟩ := hs
    exact ⟨A', c', box_abides h2 hg hr, row_abides h3 hg hr⟩
  case h0 => exact ⟨⟨none, 0, hbx1, Row.none_ _ _ _⟩, hbW⟩
  case assign =>
    intro l x W K hK
    gi_wp2
    exact hK
  case body =>
    rintro l pre x W ⟨⟨A', c', hB2, hrow⟩, hbe⟩ hlt
    have hc2 := hB2.cell
    have hte : (24 : TypeId) ≠ 9 := by decide
    have hNW : w.heap.size ≤ W.heap.size := hbe.size
    gi_wp2_with (gi_at_builtin; refine wpListIn_app1 _ rfl _ _ 24 rfl w.heap.size 9 i0 (.string ⟨#[]⟩) 16 Try.underlying24 hi hz0 hz1 hz2 rfl _ _ _ _ rfl (hrow.alloc _) _ (.string ⟨x.toArray⟩) rfl (cell_one_new _ _ _) rfl (by omega) (by omega) (by simp; omega) ?_; intro A2 c2 w2 hrow2 hgrow2; have hgrow3 : (W.alloc (.cells #[.string ⟨x.toArray⟩] 9)).grownBy w2 (Value.slice A' pre.length c').ownBlock := ⟨hgrow2.os, hgrow2.tape, hgrow2.output, hgrow2.size, hgrow2.block⟩; obtain ⟨p1, p2, p3, p4, p5⟩ := hB2.appended hte hrow hNW (Nat.le_refl _) hrow2 hgrow3; have p1c := p1.cell; have p1f := p1.frozen)
    have e1 : (pre ++ [x]).length = pre.length + 1 := by simp
    have e2 : (pre ++ [x]).map S = pre.map S ++ [.string ⟨x.toArray⟩] := by simp [S]
    refine ⟨p4, p5, ⟨A2, c2, ?_, ?_⟩, hbe.trans p5⟩
    · rw [e1]; exact p2
    · rw [e1, e2]; exact p3
  case done =>
    rintro D ys W hD rfl ⟨⟨A', c', hB2, hrow⟩, hbe⟩ hK
    have hc2 := hB2.cell
    have hl := Hlen.out
    subst hl
    gi_wp2
    refine ⟨by simp, .inl ⟨_, _, rfl, run_takeDeferred hK, ?_⟩⟩
    have hrow' := ownsRow_putObj hrow (.deferred none) hK rfl
    have hbe' := hbe.trans (belowK_b (w := W0) (n₀ := w.heap.size) (by rw [hsz0]; omega) W D _ (.deferred none) hD hK rfl rfl)
    exact ⟨_, results_tmp rfl _ _ _, A', _, c', rfl, hrow', hbe'⟩
  case stop =>
    rintro D c pre W _ _ h _
    exact h.elim
set_option maxRecDepth 100000 in
theorem Collect_any (Bs : Nat) (A : Option Addr) (n c : Nat) (ws : List (List UInt8)) (w : World) (hbs : Boxed w Bs 24 (.slice A n c)) (hr : Rd w w.heap.size A n c (ws.map S)) (hn6 : n ≤ 1000000) :
    CallsIn Fence.wide 9 Try.prog 95 #[.func (.func 107) #[] #[.pointer (some ⟨Bs, 0, none⟩)]] w (RetRw w 9 (ws.map S)) := by
  refine callsIn_of_wp Try.func95 rfl trivial ?_ rfl
  simp only [Try.ntmps95, List.size_toArray, List.length_cons, List.length_nil, Nat.reduceAdd, Nat.reduceSub, Array.replicate_succ, Array.replicate_zero, List.push_toArray, List.append_toArray, List.nil_append, List.cons_append]
  gi_wp2_with fail
  refine ⟨trivial, (AppendSeq_any Bs A n c ws w hbs hr hn6).mono ?_⟩
  rintro e w1 ⟨A1, n1, c1, rfl, hrow1, hb1⟩
  gi_wp2_with fail
  go_ret
  exact ⟨A1, n1, c1, rfl, hrow1, hb1⟩
set_option maxRecDepth 100000 in
set_option maxHeartbeats 800000 in
theorem Sorted_any (Bs : Nat) (A : Option Addr) (n c : Nat) (ws : List (List UInt8)) (w : World) (hbs : Boxed w Bs 24 (.slice A n c)) (hr : Rd w w.heap.size A n c (ws.map S)) (hn6 : n ≤ 1000000) :
    Calls Try.prog 64 #[.func (.func 107) #[] #[.pointer (some ⟨Bs, 0, none⟩)]] w (RetRw w 9 ((stT ws).map S)) := by
  have Hl := Lib.hid hr.slen
  refine (callsIn_wide (n := 10)).1 ?_
  refine callsIn_of_wp Try.func64 rfl trivial ?_ rfl
  simp only [Try.ntmps64, List.size_toArray, List.length_cons, List.length_nil, Nat.reduceAdd, Nat.reduceSub, Array.replicate_succ, Array.replicate_zero, List.push_toArray, List.append_toArray, List.nil_append, List.cons_append]
  gi_wp2_with fail
  refine ⟨trivial, (Collect_any Bs A n c ws w hbs hr hn6).mono ?_⟩
  rintro e w1 ⟨A1, n1, c1, rfl, hrow1, hb1⟩
  obtain rfl : n = n1 := by have h1 := hrow1.len; simp at h1; have := Hl.out; omega
  have hS := SortS_any w.heap.size A1 n c1 ws w1 hrow1 (by omega)
  gi_wp2_with fail
  refine ⟨trivial, (callsIn_wide.2 hS).mono ?_⟩
  rintro e w2 ⟨rfl, hrow2, hg2⟩
  gi_wp2_with fail
  go_ret
  exact ⟨A1, n, c1, rfl, hrow2, kp_grown hb1 (Nat.le_refl _) hg2 (row_ge hrow1)⟩
end Go.Proofs.Ytfbmcfdmffpfmaa
