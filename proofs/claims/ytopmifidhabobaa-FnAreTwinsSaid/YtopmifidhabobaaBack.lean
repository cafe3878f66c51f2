/-
  Points turned round: a loop over slices.Backward.
-/
import Derived.Test.YtopmifidhabobaaRound
import Derived.Test.YtopmifidhabobaaDist3
import Derived.RangeFuncBox
namespace Go.Proofs.Ytopmifidhabobaa
open Go.RowKit
set_option linter.unusedVariables false
set_option linter.unusedSimpArgs false
attribute [local go_sem] Oper.semAt_some

def upto {α : Type} (f : Nat → α) (k : Nat) : List α := (List.range k).map f
theorem upto_succ {α : Type} (f : Nat → α) (k : Nat) : upto f (k + 1) = upto f k ++ [f k] := by simp [upto, List.range_succ]
theorem upto_length {α : Type} (f : Nat → α) (k : Nat) : (upto f k).length = k := by simp [upto]
/-- What slices.Backward hands over: the indices from the last one on, and what stands there. -/
def bwd (zs : List Int) (j : Nat) : Int × Int := ((zs.length : Int) - 1 - (j : Int), zs.getD (zs.length - 1 - j) 0)
theorem Backward_any (d : Nat) (A : Option Addr) (n c : Nat) (w : World) :
    CallsIn Fence.wide d Try.prog 95 #[.slice A n c] w fun e w' => e = .returned (.func (.func 120) #[] #[.pointer (some ⟨w.heap.size, 0, none⟩)]) ∧ w' = w.alloc (.cells #[.slice A n c] 22) := by
  refine callsIn_wide.2 ?_
  go_enter Try.func95, Try.ntmps95
  go_wp2_with fail
  go_ret
  exact ⟨rfl, rfl⟩
/-- What a loop's body must leave: what lay below N, and the iterator's own variable. -/
def KpB (N Bs : Nat) (A B : World) : Prop := Below N A B ∧ B.heap[Bs]? = A.heap[Bs]?
set_option maxRecDepth 100000 in
set_option maxHeartbeats 2000000 in
theorem back1_in (n : Nat) (hn : 1 ≤ n) (l Bs N b off len cap : Nat) (zs : List Int) (hlen : zs.length = len) (hl6 : len ≤ 1000000) (hb : b < N) {α : Type} (e2 : α → Int × Int) (f : Nat → α) (hf : ∀ k, k < len → e2 (f k) = bwd zs k) (J Jx : List α → World → Prop)
    (hY : ∀ pre x W, J pre W → pre.length < len → YieldAt Fence.wide (n - 1) Try.prog l #[.int .i64 (e2 x).1, .int .i64 (e2 x).2] W fun e W' =>
      (e = .returned (.bool true) ∧ J (pre ++ [x]) W' ∧ KpB N Bs W W') ∨ (e = .returned (.bool false) ∧ Jx (pre ++ [x]) W'))
    (W : World) (hBs : W.cell? ⟨Bs, 0, none⟩ = some (.slice (some ⟨b, off, none⟩) len cap)) (hc : ∀ j, j < len → W.cell? ⟨b, off + j, none⟩ = some (.int .i64 (zs.getD j 0))) (h0 : J [] W) :
    CallsIn Fence.wide n Try.prog 120 #[.func (.yield l) #[] #[], .pointer (some ⟨Bs, 0, none⟩)] W fun e W' => (∃ v, e = .returned v) ∧
      ((∃ ys, ys = upto f len ∧ J ys W') ∨ (∃ pre, True ∧ Jx pre W')) := by
  refine callsIn_of_wp Try.func120 rfl trivial ?_ rfl
  simp only [Try.ntmps120, List.size_toArray, List.length_cons, List.length_nil, Nat.reduceAdd, Nat.reduceSub, Array.replicate_succ, Array.replicate_zero, List.push_toArray, List.append_toArray, List.nil_append, List.cons_append]
  gi_wp2
  gi_loopw [3] (fun i wr => ∃ k : Nat, k ≤ len ∧ i = .int .i64 ((len : Int) - 1 - (k : Int)) ∧ J (upto f k) wr ∧ Below N W wr ∧ wr.heap[Bs]? = W.heap[Bs]?)
    (fun i _ => (intOf i + 1).toNat)
  case atStart => exact ⟨0, Nat.zero_le _, by simp, h0, Below.refl _ _, rfl⟩
  case round =>
    obtain ⟨k, hk, rfl, hJs, hnx, hbx⟩ := hrel
    have hbs : wr.cell? ⟨Bs, 0, none⟩ = some (.slice (some ⟨b, off, none⟩) len cap) := (World.cell?_of_block hbx).trans hBs
    by_cases hlt : k < len
    · obtain ⟨q, hq⟩ : ∃ q, q = len - 1 - k := ⟨_, rfl⟩
      have hqk : (len : Int) - 1 - (k : Int) = (q : Int) := by omega
      have hql : q < len := by omega
      have hcx : wr.cell? ⟨b, off + q, none⟩ = some (.int .i64 (zs.getD q 0)) := (hnx.cell (p := ⟨b, off + q, none⟩) hb).trans (hc q hql)
      have hbw : e2 (f k) = ((q : Int), zs.getD q 0) := by rw [hf k hlt]; unfold bwd; rw [hlen, hqk, hq]
      obtain ⟨z, hz⟩ : ∃ z, z = zs.getD q 0 := ⟨_, rfl⟩
      rw [← hz] at hcx hbw
      obtain ⟨fn, tmps, assign, body, hy, hR⟩ := hY _ (f k) wr hJs (by rw [upto_length]; exact hlt)
      rw [hbw] at hy
      dsimp only at hy
      rw [hqk]
      have Hq := Lib.hid hq
      have Hz := Lib.hid hz
      have Hbw := Lib.hid hbw
      have Hqk := Lib.hid hqk
      clear hq hz hbw hqk hc hBs hY
      have hq0 : (0 : Int) ≤ (q : Int) := by omega
      have hql' : (q : Int) < (len : Int) := by omega
      have e5 : IntKind.i64.wrap ((q : Int) - 1) = (q : Int) - 1 := by rw [IntKind.wrap_i64]; omega
      gi_wp2
      refine hR.mono ?_
      rintro e W3 (⟨rfl, hJ3, hk3, hk4⟩ | ⟨rfl, hJx3⟩)
      · gi_wp2
        go_roundw
        case rel => exact ⟨k + 1, by omega, by have := Hqk.out; congr 1; omega, by rw [upto_succ]; exact hJ3, hnx.trans hk3, hk4.trans hbx⟩
        case measure => simp [intOf] <;> omega
      · gi_wp2
        refine bodyPost_ret (results_none rfl _ _ _) rfl ?_
        exact ⟨⟨_, rfl⟩, .inr ⟨_, trivial, hJx3⟩⟩
    · obtain rfl : k = len := by omega
      rw [show (k : Int) - 1 - (k : Int) = -1 by omega]
      gi_wp2
      go_end0
      exact ⟨⟨_, rfl⟩, .inl ⟨_, rfl, hJs⟩⟩
/-! ### what abides the turn of a block that is no cells -/
theorem box_abides {A B : World} {row : Option Nat} {k : Nat} {t : TypeId} {v : Value} (h : Boxed A k t v) (hg : A.grownBy B row) (hr : ∀ r, row = some r → ∃ o : Obj, A.heap[r]? = some o ∧ o.isCells = false) : Boxed B k t v :=
  (grownBy_keeps_cells hg hr h rfl).trans h
theorem row_abides {A B : World} {row : Option Nat} {N : Nat} {e : TypeId} {a : Option Addr} {n c : Nat} {xs : List Value} (h : Row A N e a n c xs) (hg : A.grownBy B row) (hr : ∀ r, row = some r → ∃ o : Obj, A.heap[r]? = some o ∧ o.isCells = false) : Row B N e a n c xs := by
  obtain ⟨h1, h2 | ⟨g, cap, cur, hv, hb, hh, h3⟩⟩ := h
  · exact ⟨h1, .inl h2⟩
  · exact ⟨h1, .inr ⟨g, cap, cur, hv, hb, (grownBy_keeps_cells hg hr hh rfl).trans hh, h3⟩⟩
/-- A point: a number of the range. -/
abbrev Pt60 := { x : Int × Int // 0 ≤ x.2 ∧ x.2 ≤ 60 }
theorem getD_small {zs : List Int} (hs : Small zs) (k : Nat) : 0 ≤ zs.getD k 0 ∧ zs.getD k 0 ≤ 60 := by
  rw [List.getD_eq_getElem?_getD]
  cases h : zs[k]? with
  | none => simp
  | some x => exact hs.at_ h
def ptOf (zs : List Int) (hs : Small zs) (k : Nat) : Pt60 := ⟨bwd zs k, getD_small hs _⟩
def trnOf (top : Int) (pre : List Pt60) : List Int := pre.map fun x => top - x.1.2
theorem trnOf_all {zs : List Int} (hs : Small zs) : trnOf (zs.getD (zs.length - 1) 0) (upto (ptOf zs hs) zs.length) = turn zs := by
  refine List.ext_getElem (by simp [trnOf, upto, turn, trn]) fun i h1 h2 => ?_
  have hi : i < zs.length := by simpa [trnOf, upto] using h1
  have hj : zs.length - 1 - i < zs.length := by omega
  simp [trnOf, upto, turn, trn, ptOf, bwd, List.getElem?_eq_getElem hj]
/-- What the loop keeps: the boxes of the list and of the result, the result. -/
def TI (w : World) (N Bo Bs : Nat) (L : Value) (top : Int) (pre : List Pt60) (W : World) : Prop :=
  (Boxed W N 22 L ∧ Boxed W Bs 22 L ∧ ∃ (A' : Option Addr) (c' : Nat), Boxed W Bo 22 (.slice A' pre.length c') ∧ Row W N 3 A' pre.length c' ((trnOf top pre).map I)) ∧ Below N w W
set_option maxRecDepth 100000 in
set_option maxHeartbeats 3200000 in
theorem turned_any (b o n c : Nat) (zs : List Int) (w : World) (hr : Rd w w.heap.size (some ⟨b, o, none⟩) n c (zs.map I)) (hn1 : 1 ≤ n) (hn3 : n ≤ 1000) (hs : Small zs) :
    Calls Try.prog 66 #[.slice (some ⟨b, o, none⟩) n c] w (RetRow w 3 ((turn zs).map I)) := by
  have hlen : zs.length = n := hr.ilen
  have Hlen := Lib.hid hlen
  have hm := hr.2.2.1
  have hnc := hr.2.1
  unfold maxLen at hm
  obtain ⟨top, htop, hctop⟩ := hr.int_at (show n - 1 < n by omega)
  have htop6 := hs.at_ htop
  have hbb : b < w.heap.size := by
    obtain ⟨b', o', e, hb, _⟩ := hr.2.2.2 (by omega)
    injection e with e
    injection e with e1 e2
    omega
  have Htop := Lib.hid htop
  clear htop
  obtain ⟨i0, hi, hz0, hz1, hz2⟩ := info_parts Try.infoI
  refine (callsIn_wide (n := 8)).1 ?_
  refine callsIn_of_wp_marks Try.func66 rfl trivial ?_ rfl
  simp only [Try.ntmps66, List.size_toArray, List.length_cons, List.length_nil, Nat.reduceAdd, Nat.reduceSub, Array.replicate_succ, Array.replicate_zero, List.push_toArray, List.append_toArray, List.nil_append, List.cons_append]
  clear hlen
  gi_wp2_with (first | (gi_at_make; refine wpListIn_make_own _ rfl _ _ 22 rfl w.heap.size 3 i0 (.int .i64 0) 1 Try.underlying22 hi hz0 hz1 .i64 .i64 n n rfl rfl rfl (by rw [hz2]; omega) (by unfold maxLen; omega) (by simp) ?_; intro w1 hown0 hgrow0; have hbx0 := (Boxed.new w 22 (.slice (some ⟨b, o, none⟩) n c)).kept hgrow0 (by simp); have hcl0 := hbx0.cell; have hcl1 := fun o1 => (hbx0.alloc o1).cell) | (refine ⟨trivial, ?_⟩; gi_at_call 95; refine (Backward_any _ _ _ _ _).mono ?_; rintro e w' ⟨rfl, rfl⟩))
  have hs1 : w.heap.size + 1 ≤ w1.heap.size := by have := hgrow0.size; simp at this; omega
  obtain ⟨Bo, hBo⟩ : ∃ Bo, Bo = w1.heap.size := ⟨_, rfl⟩
  obtain ⟨W0, hW0⟩ : ∃ W0, W0 = ((w1.alloc (.cells #[.slice (some ⟨w.heap.size + 1, 0, none⟩) 0 n] 22)).alloc (.cells #[.slice (some ⟨b, o, none⟩) n c] 22)) := ⟨_, rfl⟩
  have hsz0 : W0.heap.size = Bo + 2 := by rw [hW0, hBo]; simp
  have hbW : Below w.heap.size w W0 := by
    rw [hW0]
    exact kp_alloc _ (kp_alloc _ (kp_grown (kp_alloc _ (Below.refl _ _) (Nat.le_refl _)) (Nat.le_refl _) hgrow0 (fun k hk => by cases hk)) (Nat.le_refl _)) (Nat.le_refl _)
  have hbx1 : Boxed W0 w.heap.size 22 (.slice (some ⟨b, o, none⟩) n c) := by rw [hW0]; exact (hbx0.alloc _).alloc _
  have hbx2 : Boxed W0 Bo 22 (.slice (some ⟨w.heap.size + 1, 0, none⟩) 0 n) := by rw [hW0, hBo]; exact (Boxed.new w1 _ _).alloc _
  have hbx3 : Boxed W0 (Bo + 1) 22 (.slice (some ⟨b, o, none⟩) n c) := by
    rw [hW0, hBo]
    have := Boxed.new (w1.alloc (.cells #[.slice (some ⟨w.heap.size + 1, 0, none⟩) 0 n] 22)) 22 (.slice (some ⟨b, o, none⟩) n c)
    simpa using this
  have hrw0 : Row W0 w.heap.size 3 (some ⟨w.heap.size + 1, 0, none⟩) 0 n [] := by
    rw [hW0]
    have h0 : Row w1 w.heap.size 3 (some ⟨w.heap.size + 1, 0, none⟩) 0 n [] := by rw [World.size_alloc] at hown0; exact hown0
    exact (h0.alloc _).alloc _
  rw [← hW0]
  clear hcl0 hcl1 hown0 hgrow0 hbx0
  have hkey : SeqStopsK Fence.wide 7 Try.prog 120 #[.pointer (some ⟨Bo + 1, 0, none⟩)] (fun x : Pt60 => #[Value.int .i64 x.1.1, Value.int .i64 x.1.2]) (KpB w.heap.size (Bo + 1)) (fun ys => ys = upto (ptOf zs hs) n) (fun _ => True) n W0 := by
    intro l J Jx W hW _ _ hY h0
    have hB := (hW.cell (p := ⟨Bo + 1, 0, none⟩) (by rw [hsz0]; show Bo + 1 < Bo + 2; omega)).trans hbx3.cell
    refine back1_in 7 (by omega) l (Bo + 1) w.heap.size b o n c zs Hlen.out (by omega) hbb (fun x : Pt60 => x.1) (ptOf zs hs) (fun k _ => rfl) J Jx hY W hB (fun j hj => ?_) h0
    exact (hW.cell (p := ⟨b, o + j, none⟩) (by rw [hsz0]; show b < Bo + 2; omega)).trans ((hbW.cell (p := ⟨b, o + j, none⟩) hbb).trans (hr.getD j (by rw [Hlen.out]; exact hj)))
  refine wpIn_rangeFunc_ownF (F := Fence.wide) rfl (by omega) (gf := 120) (lb := #[.pointer (some ⟨Bo + 1, 0, none⟩)]) (by rw [hBo]; rfl) trivial (enters_of Try.func120 (by kernel_rfl) rfl)
    hkey (fun h k => ⟨h.1.trans k.1, k.2.trans h.2⟩) ?kb (Below.refl _ _) (fun _ => rfl)
    (TI w w.heap.size Bo (Bo + 1) (.slice (some ⟨b, o, none⟩) n c) top) (fun _ _ _ => False) ?hI (fun _ _ _ _ _ h _ _ => h) ?h0
    (fun x => { tmps := #[.slice (some ⟨b, o, none⟩) n c, .pointer (some ⟨w.heap.size, 0, none⟩), .slice none 0 0, .pointer (some ⟨w1.heap.size, 0, none⟩), undef, .int .i64 x.1.2, .slice (some ⟨b, o, none⟩) n c, .int .i64 n, .slice (some ⟨w.heap.size + 1, 0, none⟩) 0 n, .slice (some ⟨b, o, none⟩) n c, .func (.func 120) #[] #[.pointer (some ⟨w1.heap.size + 1, 0, none⟩)], .int .i64 x.1.1, .int .i64 x.1.2, undef, undef, undef, undef, undef, undef, undef, undef, undef, undef, undef, undef], defers := [] }) ?assign ?body ?done ?stop
  case kb =>
    intro W l o1 o2 hl h _ _
    refine ⟨belowK_b (w := W0) (by rw [hsz0]; omega) W l o1 o2 hl h (by assumption) (by assumption), ?_⟩
    exact World.putObj_heap_other (by rw [hsz0] at hl; omega)
  case hI =>
    refine OwnFrom.and (Own.from (fun s A B row hs hg hr => ?_) _) (ownFrom_below (Nat.le_refl _) (by rw [hsz0]; omega))
    obtain ⟨h1, h4, A', c', h2, h3⟩ := hs
    exact ⟨box_abides h1 hg hr, box_abides h4 hg hr, A', c', box_abides h2 hg hr, row_abides h3 hg hr⟩
  case h0 => exact ⟨⟨hbx1, hbx3, _, _, hbx2, hrw0⟩, hbW⟩
  case assign =>
    intro l x W K hK
    gi_wp2
    exact hK
  case body =>
    rintro l pre x W ⟨⟨hB1, hB3, A', c', hB2, hrow⟩, hbe⟩ hlt
    have hx60 := x.2
    gi_wp2
    have hcT : W.cell? ⟨b, o + (n - 1), none⟩ = some (.int .i64 top) := (hbe.cell (p := ⟨b, o + (n - 1), none⟩) hbb).trans hctop
    have hS0 : W.drew.cell? ⟨w1.heap.size, 0, none⟩ = some (.slice A' pre.length c') ∧ W.drew.cell? ⟨w.heap.size, 0, none⟩ = some (.slice (some ⟨b, o, none⟩) n c) ∧ W.drew.cell? ⟨b, o + (n - 1), none⟩ = some (.int .i64 top) := ⟨by rw [← hBo]; exact hB2.cell, hB1.cell, hcT⟩
    refine region_round (fun w' => w'.cell? ⟨w1.heap.size, 0, none⟩ = some (.slice A' pre.length c') ∧ w'.cell? ⟨w.heap.size, 0, none⟩ = some (.slice (some ⟨b, o, none⟩) n c) ∧ w'.cell? ⟨b, o + (n - 1), none⟩ = some (.int .i64 top)) 11 (by kernel_rfl) (by kernel_rfl) (by rintro ⟨_, _, h⟩; exact h) ?_
    refine take_T 0 (.slice A' pre.length c') #[true, false, false, false, false, false, false, false, false, false, false, false] rfl (by kernel_rfl) (fun _ _ _ h => h) (by simp [Region.wanted]) (fun w' hS => ?_) ?_ ?_
    · obtain ⟨h1, h2, h3⟩ := hS
      simp [go_sem, execOp, Act.eval, Act.put, h1, h2, h3]
    · exact hS0
    refine take_T 1 (.slice (some ⟨b, o, none⟩) n c) #[true, true, false, false, false, false, false, false, false, false, false, false] rfl (by kernel_rfl) (fun _ _ _ h => h) (by simp [Region.wanted]) (fun w' hS => ?_) ?_ ?_
    · obtain ⟨h1, h2, h3⟩ := hS
      simp [go_sem, execOp, Act.eval, Act.put, h1, h2, h3]
    · exact hS0
    refine take_T 2 (.slice (some ⟨b, o, none⟩) n c) #[true, true, true, false, false, false, false, false, false, false, false, false] rfl (by kernel_rfl) (fun _ _ _ h => h) (by simp [Region.wanted]) (fun w' hS => ?_) ?_ ?_
    · obtain ⟨h1, h2, h3⟩ := hS
      simp [go_sem, execOp, Act.eval, Act.put, h1, h2, h3]
    · exact hS0
    refine take_T 3 (.int .i64 n) #[true, true, true, true, false, false, false, false, false, false, false, false] rfl (by kernel_rfl) (fun _ _ _ h => h) (by simp [Region.wanted]) (fun w' hS => ?_) ?_ ?_
    · obtain ⟨h1, h2, h3⟩ := hS
      simp [go_sem, execOp, Act.eval, Act.put, h1, h2, h3]
    · exact hS0
    refine take_T 4 (.int .i64 ((n : Int) - 1)) #[true, true, true, true, true, false, false, false, false, false, false, false] rfl (by kernel_rfl) (fun _ _ _ h => h) (by simp [Region.wanted]) (fun w' hS => ?_) ?_ ?_
    · obtain ⟨h1, h2, h3⟩ := hS
      simp [go_sem, execOp, Act.eval, Act.put, h1, h2, h3]
      all_goals (rw [IntKind.wrap_i64]; omega)
    · exact hS0
    refine take_T 5 (.pointer (some ⟨b, o + (n - 1), none⟩)) #[true, true, true, true, true, true, false, false, false, false, false, false] rfl (by kernel_rfl) (fun _ _ _ h => h) (by simp [Region.wanted]) (fun w' hS => ?_) ?_ ?_
    · obtain ⟨h1, h2, h3⟩ := hS
      simp [go_sem, execOp, Act.eval, Act.put, h1, h2, h3]
      exact fun h => absurd (h (by omega)) (by omega)
    · exact hS0
    refine take_T 6 (.int .i64 top) #[true, true, true, true, true, true, true, false, false, false, false, false] rfl (by kernel_rfl) (fun _ _ _ h => h) (by simp [Region.wanted]) (fun w' hS => ?_) ?_ ?_
    · obtain ⟨h1, h2, h3⟩ := hS
      simp [go_sem, execOp, Act.eval, Act.put, h1, h2, h3]
    · exact hS0
    refine take_T 7 (.int .i64 x.1.2) #[true, true, true, true, true, true, true, true, false, false, false, false] rfl (by kernel_rfl) (fun _ _ _ h => h) (by simp [Region.wanted]) (fun w' hS => ?_) ?_ ?_
    · obtain ⟨h1, h2, h3⟩ := hS
      simp [go_sem, execOp, Act.eval, Act.put, h1, h2, h3]
    · exact hS0
    refine take_T 8 (.int .i64 (top - x.1.2)) #[true, true, true, true, true, true, true, true, true, false, false, false] rfl (by kernel_rfl) (fun _ _ _ h => h) (by simp [Region.wanted]) (fun w' hS => ?_) ?_ ?_
    · obtain ⟨h1, h2, h3⟩ := hS
      simp [go_sem, execOp, Act.eval, Act.put, h1, h2, h3]
      rw [IntKind.wrap_i64]; omega
    · exact hS0
    refine only_T 9 #[true, true, true, true, true, true, true, true, true, true, false, false] rfl (by kernel_rfl) (by simp [Region.wanted]) ?_
    simp [go_sem, Oper.wp, execOp, Act.eval, Act.put]
    have hNW : w.heap.size ≤ W.heap.size := hbe.size
    have hte : (22 : TypeId) ≠ 3 := by decide
    have hcA : ∀ o1, (W.alloc o1).cell? ⟨b, o + (n - 1), none⟩ = some (.int .i64 top) := fun o1 => ((hbe.alloc hNW o1).cell (p := ⟨b, o + (n - 1), none⟩) hbb).trans hctop
    refine ⟨⟨by rw [← hBo]; exact (hB2.alloc _).cell, (hB1.alloc _).cell, hcA _⟩, ?_⟩
    refine only_T 10 #[true, true, true, true, true, true, true, true, true, true, true, false] rfl (by kernel_rfl) (by simp [Region.wanted]) ?_
    refine wp_app _ rfl _ _ 22 rfl w.heap.size 3 i0 (.int .i64 0) 8 Try.underlying22 hi hz0 hz1 hz2 rfl A' pre.length c' _ rfl (hrow.alloc _) ⟨W.heap.size, 0, none⟩ 1 1 [.int .i64 (top - x.1.2)] rfl rfl ?_ ?_ (pre.length + 1) rfl (by omega) (by omega) (by simp; omega) ?_
    · intro j u hj
      cases j with
      | zero =>
        obtain rfl : Value.int .i64 (top - x.1.2) = u := by simpa using hj
        exact (Boxed.new W 3 (.int .i64 (top - x.1.2))).cell
      | succ j => simp at hj
    · simp [Value.oneCell']
    intro A2 c2 w2 hrow2 hgrow2
    have hgrow3 : (W.alloc (.cells #[.int .i64 (top - x.1.2)] 3)).grownBy w2 (Value.slice A' pre.length c').ownBlock := ⟨hgrow2.os, hgrow2.tape, hgrow2.output, hgrow2.size, hgrow2.block⟩
    obtain ⟨p1, p2, p3, p4, p5⟩ := hB2.appended hte hrow hNW (by omega) hrow2 hgrow3
    have q1 : Boxed w2 w.heap.size 22 (.slice (some ⟨b, o, none⟩) n c) := (hB1.alloc _).kept hgrow3 (hB1.not_row hte hrow)
    have q3 : Boxed w2 (Bo + 1) 22 (.slice (some ⟨b, o, none⟩) n c) := (hB3.alloc _).kept hgrow3 (hB3.not_row hte hrow)
    have qb : w2.cell? ⟨b, o + (n - 1), none⟩ = some (.int .i64 top) := by
      rw [← hcT, ← p5.cell (p := ⟨b, o + (n - 1), none⟩) hbb]
      exact (World.cell?_of_block (Below.heap_setCell _ _ _ _ (by show b ≠ Bo; omega))).symm
    refine ⟨fun _ => ⟨by rw [← hBo]; exact p1.cell, q1.cell, qb⟩, ?_⟩
    have p1c := p1.cell
    have p1f := p1.frozen
    rw [hBo] at p1c p1f
    refine only_T 11 #[true, true, true, true, true, true, true, true, true, true, true, true] rfl (by kernel_rfl) (by simp [Region.wanted]) ?_
    simp [go_sem, Oper.wp, execOp, Act.eval, Act.put, p1c, p1f]
    refine done_T (by kernel_rfl) ?_
    rw [← hBo]
    have e1 : (pre ++ [x]).length = pre.length + 1 := by simp
    have e2 : (trnOf top (pre ++ [x])).map I = (trnOf top pre).map I ++ [.int .i64 (top - x.1.2)] := by simp [trnOf, I]
    have q1' := (Below.heap_setCell w2 ⟨Bo, 0, none⟩ (.slice A2 (pre.length + 1) c2) w.heap.size (by show w.heap.size ≠ Bo; omega)).trans q1
    have q3' := (Below.heap_setCell w2 ⟨Bo, 0, none⟩ (.slice A2 (pre.length + 1) c2) (Bo + 1) (by show Bo + 1 ≠ Bo; omega)).trans q3
    refine ⟨p4, ⟨p5, q3'.trans hB3.symm⟩, ⟨q1', q3', A2, c2, ?_, ?_⟩, hbe.trans p5⟩
    · rw [e1]; exact p2
    · rw [e1, e2]; exact p3
  case done =>
    rintro D ys W hD hys ⟨⟨hB1, _, A', c', hB2, hrow⟩, hbe⟩ hK
    have hc2 := hB2.cell
    rw [hBo] at hc2
    gi_wp2
    refine ⟨by simp, .inl ⟨_, _, rfl, run_takeDeferred hK, ?_⟩⟩
    subst hys
    have htt : top = zs.getD (zs.length - 1) 0 := by rw [Hlen.out, List.getD_eq_getElem?_getD, Htop.out]; rfl
    have et : trnOf top (upto (ptOf zs hs) n) = turn zs := by rw [← Hlen.out, htt]; exact trnOf_all hs
    have el : (upto (ptOf zs hs) n).length = n := upto_length _ _
    have hrow' := ownsRow_putObj hrow (.deferred none) hK rfl
    rw [et] at hrow'
    have hbe' := hbe.trans (belowK_b (w := W0) (n₀ := w.heap.size) (by rw [hsz0]; omega) W D _ (.deferred none) hD hK rfl rfl)
    exact ⟨_, results_tmp rfl _ _ _, A', _, c', rfl, Row.own hrow', hbe'⟩
  case stop =>
    rintro D c pre W _ _ h _
    exact h.elim
end Go.Proofs.Ytopmifidhabobaa
