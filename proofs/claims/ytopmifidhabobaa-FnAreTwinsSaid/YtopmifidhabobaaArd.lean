/-
  All orders of a list, of the program (arranged).
-/
import Derived.Test.YtopmifidhabobaaSpl2
import Derived.Maps.OwnIn
namespace Go.Proofs.Ytopmifidhabobaa
open Go.RowKit
set_option linter.unusedVariables false
set_option linter.unusedSimpArgs false
attribute [local go_sem] Oper.semAt_some

theorem ord_len_le (n f : Nat) : ∀ h : List Nat, (ord n f h).length ≤ n ^ f := by
  induction f with
  | zero => intro h; simp [ord]
  | succ f ih =>
    intro h
    rw [ord]
    have key : ∀ L : List Nat, (L.flatMap fun i => if i ∈ h then [] else ord n f (h ++ [i])).length ≤ L.length * n ^ f := by
      intro L
      induction L with
      | nil => simp
      | cons a L ihL =>
        rw [List.flatMap_cons, List.length_append, List.length_cons, Nat.succ_mul]
        have h1 : (if a ∈ h then ([] : List (List Nat)) else ord n f (h ++ [a])).length ≤ n ^ f := by
          split
          · simp
          · exact ih _
        omega
    have := key (List.range n)
    rw [List.length_range] at this
    calc _ ≤ n * n ^ f := this
      _ = n ^ (f + 1) := by rw [Nat.pow_succ, Nat.mul_comm]
/-- The law of a range over all orders, its rounds told which orders came ahead. -/
theorem wpIn_orders2 {n : Nat} {g : Operand} {p : Nat} (q : Nat) {assign body : Code} {Q : Exit → Act → World → Prop} {a : Act} {w : World} (h1 : 1 ≤ n) (m Bn : Nat) (hm : m ≤ 1000) (hBn : Boxed w Bn 3 (.int .i64 m))
    (hg : a.eval g = .func (.func 125) #[] #[.pointer (some ⟨Bn, 0, none⟩)])
    (I : List (List Nat) → World → Prop) (hI : ∀ pre A B, I pre A → Win w.heap.size (w.heap.size + 6) A B → I pre B) (h0 : I [] w)
    (hassign : ∀ (l : Nat) (v : Value) (W : World) (K : Act → World → Prop), K (setTwo a.tmps p q v) W →
      assign.wpIn (Fence.wide.inRound l) (n - 1 - 1) Try.prog (Exit.then K (fun _ _ _ => False)) { tmps := a.tmps.setIfInBounds p v, defers := [] } W)
    (hbody : ∀ (l : Nat) (pre : List (List Nat)) (x : List Nat) (v : Value) (W : World), I pre W → (pre ++ [x]) <+: ord m m [] → w.heap.size + 6 ≤ W.heap.size → OrdArg (w.heap.size + 2) x v W →
      body.wpIn (Fence.wide.inRound l) (n - 1 - 1) Try.prog (roundOk Bn (w.heap.size + 6) I (pre ++ [x]) W) (setTwo a.tmps p q v) W)
    (hdone : ∀ (W : World), I (ord m m []) W → W.heap[w.heap.size]? = some (.deferred (some [])) → Q .normal { a with defers := { target := .collected w.heap.size, args := #[] } :: a.defers } W) :
    (Code.rangeFunc g #[p] assign body).wpIn Fence.wide n Try.prog Q a w := by
  have hlt := hBn.lt
  refine wpIn_range_win1 q rfl h1 hg trivial (enters_of Try.func125 (by kernel_rfl) rfl) Bn 4 (by omega) (OrdArg (w.heap.size + 2)) (ord m m []) ?_ (fun x v A B h hk _ => h.keeps hk) I hI h0 hassign ?_ hdone
  · intro l J W hs hb hJ hY hj0
    have hn : Boxed W Bn 3 (.int .i64 m) := (hb.block _ hlt).trans hBn
    refine orders1_in Bn l m (n - 1) W (by omega) hm hn J ?_ ?_ hj0
    · rw [hs]
      exact hJ
    · intro k pre x v W1 hj hp hz hat
      rw [hs] at hz hat
      refine (yield_any rfl k (hY pre x v W1 hj hp hz hat)).mono ?_
      rintro e W' ⟨he, hj', hk1, hk2⟩
      rw [hs]
      exact ⟨he, hj', ⟨hk1.size, fun b h1 h2 h3 => hk1.same b h1 (by omega) h3⟩, hk2⟩
  · intro l pre x v W hi hp hz hat
    exact hbody l pre x v W hi hp hz hat
theorem wpListIn_appN {F : Fence} {d : Nat} {P : Program} (w : World) {ops : Array Oper} {rest : List Oper} {o : Oper} {a : Act} {Q : Exit → Act → World → Prop} (hgd : o.guard = none) (s x : Operand) (t : TypeId)
    (ho : o.op = .call { callee := .builtin .append, args := #[s, x], argTypes := #[t, t] })
    (B : Nat) (e : TypeId) (i : TypeInfo) (z : Value) (bytes : Nat) (ht : P.underlying t = some (.slice e)) (hi : P.info? e = some i) (hz : i.zero = some z)
    (hsize : i.size = 1) (hby : i.bytes = bytes) (hzs : z.cells.size = 1)
    (A : Option Addr) (n c : Nat) (xs : List Value) (hs : a.eval s = .slice A n c) (hown : Row w B e A n c xs)
    (ad : Addr) (m cm : Nat) (news : List Value) (hx : a.eval x = .slice (some ad) m cm) (hl : news.length = m) (hnews : ∀ j u, news[j]? = some u → w.cell? (ad.add j) = some u) (h1 : ∀ u ∈ news, u.oneCell' = true)
    (k : Nat) (hk : n + m = k) (hn : k ≤ 4398046511104) (hbytes : bytes ≤ 32) (hbase : B ≤ w.heap.size)
    (h : ∀ A' c' w', Row w' B e A' k c' (xs ++ news) → w.grownBy w' (Value.slice A n c).ownBlock → ((Value.slice A' k c').ownBlock = (Value.slice A n c).ownBlock ∨ (Value.slice A' k c').ownBlock = some w.heap.size) → wpListIn F d P ops Q rest (a.put o.dst (.slice A' k c')) w') : wpListIn F d P ops Q (o :: rest) a w := by
  subst hk
  have hb2 : (n + m) * bytes ≤ 140737488355328 := by
    calc (n + m) * bytes ≤ (n + m) * 32 := Nat.mul_le_mul_left _ hbytes
      _ ≤ 140737488355328 := by omega
  refine wpListIn_append_own_at w hgd s x t ho B e i z 1 bytes ht hi hz hsize hby hzs (by omega) _ n xs hs hown ad m cm news hx (by rw [hl, Nat.mul_one]) hnews h1 (by unfold maxLen; omega) hb2 hbase ?_
  intro v' w' h2 h3 _ h5
  obtain ⟨A', c', rfl⟩ := Row.form h2
  exact h A' c' w' h2 h3 h5
theorem Rd.nat_at' {w : World} {B b off n c : Nat} {o : List Nat} (h : Rd w B (some ⟨b, off, none⟩) n c (o.map NI)) {k : Nat} (hk : k < n) :
    w.cell? ⟨b, off + k, none⟩ = some (.int .i64 (o.getD k 0 : Nat)) := by
  obtain ⟨b', off', e, _, hc⟩ := h.2.2.2 (by omega)
  injection e with e
  injection e with e1 e2
  subst e1 e2
  have hl : o.length = n := by have := h.1; simpa using this
  refine hc k _ ?_
  rw [List.getElem?_map, List.getD_eq_getElem?_getD, List.getElem?_eq_getElem (by omega)]
  rfl
theorem perm_getD {o : List Nat} {m k : Nat} (h : o.Perm (List.range m)) (hk : k < m) : o.getD k 0 < m := by
  have hl : o.length = m := by simpa using h.length_eq
  rw [List.getD_eq_getElem?_getD, List.getElem?_eq_getElem (by omega)]
  have := h.mem_iff.1 (List.getElem_mem (show k < o.length by omega))
  simpa using this
theorem Row.keep {w w' : World} {B : Nat} {e : TypeId} {A : Option Addr} {n c : Nat} {xs : List Value} (h : Row w B e A n c xs) (hk : ∀ k, (Value.slice A n c).ownBlock = some k → k < w.heap.size → w'.heap[k]? = w.heap[k]?) : Row w' B e A n c xs := by
  obtain ⟨h1, h2 | ⟨g, cap, cur, hv, hb, hh, h3⟩⟩ := h
  · exact ⟨h1, .inl h2⟩
  · refine ⟨h1, .inr ⟨g, cap, cur, hv, hb, (hk g ?_ (Array.getElem?_eq_some_iff.1 hh).1).trans hh, h3⟩⟩
    rw [hv]
    rfl
theorem sel_succ (s : List Int) (x : List Nat) {k : Nat} {y : Int} (hk : k < x.length) (hy : s[x.getD k 0]? = some y) : sel s (x.take (k + 1)) = sel s (x.take k) ++ [y] := by
  rw [List.take_succ_eq_append_getElem hk, sel_app]
  congr 1
  rw [List.getD_eq_getElem?_getD, List.getElem?_eq_getElem hk] at hy
  simp only [Option.getD_some] at hy
  simp [sel, List.getD_eq_getElem?_getD, hy]
/-- What the loop over all orders keeps. -/
def AR (w : World) (N b3 b4 bo hi : Nat) (L : Value) (A2 : Option Addr) (m c2 : Nat) (s : List Int) (pre : List (List Nat)) (W : World) : Prop :=
  Boxed W b3 22 L ∧ (∃ (A' : Option Addr) (c' : Nat) (P : List SP), Boxed W b4 23 (.slice A' pre.length c') ∧ Row W N 22 A' pre.length c' (P.map V) ∧ (∀ k, (Value.slice A' pre.length c').ownBlock = some k → k = bo ∨ hi ≤ k) ∧ OwnP W hi P ∧ P.map Prod.snd = pre.map (sel s)) ∧ Rd W b3 A2 m c2 (s.map I) ∧ Below N w W
theorem info_parts_of {x : Option TypeInfo} {z : Value} {s b : Nat} (h : x.map (fun i => (i.zero, i.size, i.bytes)) = some (some z, s, b)) : ∃ i, x = some i ∧ i.zero = some z ∧ i.size = s ∧ i.bytes = b := by
  cases x with
  | none => cases h
  | some i => simp at h; exact ⟨i, rfl, h.1, h.2.1, h.2.2⟩
theorem Try.infoSI : (Try.prog.info? 22).map (fun i => (i.zero, i.size, i.bytes)) = some (some (.slice none 0 0), 1, 24) := by kernel_rfl
set_option maxRecDepth 100000 in
set_option maxHeartbeats 3200000 in
theorem arranged_any (A : Option Addr) (n c : Nat) (zs : List Int) (w : World) (hr : Rd w w.heap.size A n c (zs.map I)) (hn : n ≤ 5) :
    Calls Try.prog 80 #[.slice A n c] w fun e w' => ∃ (A' : Option Addr) (n' c' : Nat) (P : List SP), e = .returned (.slice A' n' c') ∧ Row w' w.heap.size 22 A' n' c' (P.map V) ∧ OwnP w' w.heap.size P ∧ FEq (P.map Prod.snd) (arr (srt zs)) ∧ n' ≤ 4000 ∧ Below w.heap.size w w' := by
  have Hn := Lib.hid hr.ilen
  obtain ⟨i0, hi, hz0, hz1, hz2⟩ := info_parts Try.infoI
  obtain ⟨i1, hj, hy0, hy1, hy2⟩ := info_parts_of Try.infoSI
  refine (callsIn_wide (n := 12)).1 ?_
  refine callsIn_of_wp_marks Try.func80 rfl trivial ?_ rfl
  simp only [Try.ntmps80, List.size_toArray, List.length_cons, List.length_nil, Nat.reduceAdd, Nat.reduceSub, Array.replicate_succ, Array.replicate_zero, List.push_toArray, List.append_toArray, List.nil_append, List.cons_append]
  gi_wp2_with fail
  refine ⟨trivial, (Values_any _ _ _ _ _).mono ?_⟩
  rintro e w1 ⟨rfl, rfl⟩
  have hS := Sorted_any w.heap.size A n c zs (w.alloc (.cells #[.slice A n c] 22)) (Boxed.new w _ _) (((hr.alloc (Nat.le_refl _) _)).more (by simp)) (by omega)
  gi_wp2_with fail
  refine ⟨trivial, (callsIn_wide.2 hS).mono ?_⟩
  rintro e w2 ⟨A2, m, c2, rfl, hrow2, hb2⟩
  have Hm := Lib.hid (show m = n by have h1 := hrow2.len; have := Hn.out; simp [srt_len] at h1; omega)
  have hb02 : Below w.heap.size w w2 := ((Below.refl w.heap.size w).alloc (Nat.le_refl _) _).trans (hb2.mono (by simp))
  have hbe : ∀ (v : Value), Boxed (w2.alloc (.cells #[v] 22)) w2.heap.size 22 v := fun v => Boxed.new w2 _ v
  clear hS hb2
  gi_wp2_with fail
  refine ⟨trivial, (callsIn_wide.2 (orders_any m _)).mono ?_⟩
  rintro e w3 ⟨rfl, rfl⟩
  gi_wp2
  obtain ⟨W0, hW0⟩ : ∃ W0, W0 = ((((w2.alloc (.cells #[.slice A2 m c2] 22)).alloc (.cells #[] 22)).alloc (.cells #[.slice (some ⟨w2.heap.size + 1, 0, none⟩) 0 0] 23)).alloc (.cells #[.int .i64 m] 3)) := ⟨_, rfl⟩
  rw [← hW0]
  have hs0 : W0.heap.size = w2.heap.size + 4 := by rw [hW0]; simp
  have hnw2 : w.heap.size ≤ w2.heap.size := hb02.size
  have hK0 : Below w2.heap.size w2 W0 := by
    rw [hW0]
    exact kp_alloc _ (kp_alloc _ (kp_alloc _ (kp_alloc _ (Below.refl _ _) (Nat.le_refl _)) (Nat.le_refl _)) (Nat.le_refl _)) (Nat.le_refl _)
  have z1 : Boxed W0 w2.heap.size 22 (.slice A2 m c2) := by rw [hW0]; exact (((Boxed.new w2 _ _).alloc _).alloc _).alloc _
  have z2 : Boxed W0 (w2.heap.size + 2) 23 (.slice (some ⟨w2.heap.size + 1, 0, none⟩) 0 0) := by
    rw [hW0]
    have := Boxed.new ((w2.alloc (.cells #[.slice A2 m c2] 22)).alloc (.cells #[] 22)) 23 (.slice (some ⟨w2.heap.size + 1, 0, none⟩) 0 0)
    refine Boxed.alloc (by simpa using this) _
  have z3 : Boxed W0 (w2.heap.size + 3) 3 (.int .i64 m) := by
    rw [hW0]
    have := Boxed.new (((w2.alloc (.cells #[.slice A2 m c2] 22)).alloc (.cells #[] 22)).alloc (.cells #[.slice (some ⟨w2.heap.size + 1, 0, none⟩) 0 0] 23)) 3 (.int .i64 m)
    simpa using this
  have z4 : Row W0 w.heap.size 22 (some ⟨w2.heap.size + 1, 0, none⟩) 0 0 [] := by
    have h := Row.nil_ (w2.alloc (.cells #[.slice A2 m c2] 22)) 22
    rw [World.size_alloc] at h
    rw [hW0]
    exact ((h.alloc _).alloc _).more (by omega)
  have z5 : Rd W0 w2.heap.size A2 m c2 ((srt zs).map I) := hrow2.rd.below hK0
  have z6 : Below w.heap.size w W0 := hb02.trans (hK0.mono hnw2)
  have Hs0 := Lib.hid hs0
  have Hsl := Lib.hid (show (srt zs).length = m by have h1 := hrow2.len; simpa using h1)
  have hm5 : m ≤ 5 := by have := Hm.out; omega
  clear hW0 hs0 hbe hrow2 hK0
  refine wpIn_orders2 5 (by omega) m (w2.heap.size + 3) (by omega) z3 rfl (AR w w.heap.size w2.heap.size (w2.heap.size + 2) (w2.heap.size + 1) (W0.heap.size + 6) (.slice A2 m c2) A2 m c2 (srt zs)) ?hI ⟨z1, ⟨_, 0, [], z2, z4, (fun k hk => by have := Hs0.out; simp [Value.ownBlock] at hk; omega), (fun p hp => by cases hp), rfl⟩, z5, z6⟩ ?assign ?body ?done
  case hI =>
    rintro pre A B ⟨y1, ⟨A', c', P, y2, y3, y4, y5, y6⟩, y7, y8⟩ hw
    have hsz := Hs0.out
    have hb : Below w2.heap.size A B := hw.below (by omega) (by have := y1.lt; omega)
    exact ⟨(hw.block _ y1.lt (.inl (by omega))).trans y1, ⟨A', c', P, (hw.block _ y2.lt (.inl (by omega))).trans y2, y3.keep (fun k hk hl => hw.block k hl (by have := y4 k hk; omega)), y4, y5.keep (fun g cur hg hh => hw.block g (Array.getElem?_eq_some_iff.1 hh).1 (.inr hg)), y6⟩, y7.below hb, y8.trans (hb.mono hnw2)⟩
  case assign =>
    intro l v W K hK
    gi_wp2
    exact hK
  case body =>
    rintro l pre x v W ⟨y1, ⟨A', c', P, y2, y3, y4, y5, y6⟩, y7, y8⟩ hpx hsz ⟨rfl, cur, hcur, hcl⟩
    have hx := ord_len hpx
    have hxl : x.length = m := by simpa using hx.length_eq
    have hpl : pre.length < 4000 := by
      have h1 := hpx.length_le
      have h2 := ord_len_le m m []
      have h3 : m ^ m ≤ 3125 := by
        rcases (show m = 0 ∨ m = 1 ∨ m = 2 ∨ m = 3 ∨ m = 4 ∨ m = 5 by omega) with rfl | rfl | rfl | rfl | rfl | rfl <;> decide
      rw [List.length_append, List.length_singleton] at h1
      omega
    obtain rfl := hxl
    simp only [setTwo, List.setIfInBounds_toArray, List.set_cons_zero, List.set_cons_succ]
    have hc1 := y1.cell
    have hor : Rd W W.heap.size (some ⟨W0.heap.size + 2 + 1, 0, none⟩) x.length x.length (x.map NI) := by
      refine ⟨by simp, Nat.le_refl _, by unfold maxLen; omega, fun _ => ⟨_, _, rfl, (Array.getElem?_eq_some_iff.1 hcur).1, fun j u hu => ?_⟩⟩
      rw [Nat.zero_add, cell_of_row W _ j cur _ (0, 0) hcur, ← Array.getElem?_toList, hcl]
      exact hu
    have Hx := Lib.hid hx
    have Hp := Lib.hid hpx
    have hNW : w.heap.size ≤ W.heap.size := y8.size
    have hb2 : w2.heap.size ≤ W.heap.size := by have := y1.lt; omega
    clear hcur hcl hx hpx z1 z2 z3 z4 z5 z6
    gi_wp2_with (gi_at_make; refine wpListIn_make_own _ rfl _ _ 22 rfl W.heap.size 3 i0 (.int .i64 0) 1 Try.underlying22 hi hz0 hz1 .i64 .i64 x.length x.length rfl rfl rfl (by rw [hz2]; omega) (by unfold maxLen; omega) (Nat.le_refl _) ?_; intro w4 hown0 hgrow0)
    have hb4 : Below W.heap.size W w4 := kp_grown (Below.refl _ _) (Nat.le_refl _) hgrow0 (fun k hk => by cases hk)
    have hrow0 : Row w4 W.heap.size 3 (some ⟨W.heap.size, 0, none⟩) 0 x.length [] := hown0
    clear hown0 hgrow0
    gi_loopw [6, 22] (fun nx i wr => ∃ k : Nat, k ≤ x.length ∧ i = .int .i64 k ∧ nx = .slice (some ⟨W.heap.size, 0, none⟩) k x.length ∧ Row wr W.heap.size 3 (some ⟨W.heap.size, 0, none⟩) k x.length ((sel (srt zs) (x.take k)).map I) ∧ Below W.heap.size W wr) (fun _ i _ => x.length - (intOf i).toNat)
    case atStart => exact ⟨0, Nat.zero_le _, rfl, rfl, hrow0, hb4⟩
    case round =>
      obtain ⟨k, hk, rfl, rfl, hrw, hbw⟩ := hrel
      by_cases hlt : k < x.length
      · have hlt' : (k : Int) < (x.length : Int) := by omega
        have k0 : (0 : Int) ≤ (k : Int) := by omega
        have hix := perm_getD Hx.out hlt
        obtain ⟨i, hie⟩ : ∃ i, i = x.getD k 0 := ⟨_, rfl⟩
        have hci := (hor.below hbw).nat_at' hlt
        rw [← hie, Nat.zero_add] at hci
        rw [← hie] at hix
        have hcw : wr.cell? ⟨w2.heap.size, 0, none⟩ = some (.slice A2 x.length c2) := (hbw.cell (p := ⟨w2.heap.size, 0, none⟩) y1.lt).trans hc1
        obtain ⟨b, off, u, rfl, _, hu, hcu⟩ := (y7.below (hbw.mono hb2)).int hix
        have Hst := Lib.hid (show (sel (srt zs) (x.take (k + 1))).map I = (sel (srt zs) (x.take k)).map I ++ [.int .i64 u] by
          rw [sel_succ _ _ hlt (by rw [← hie]; exact hu), List.map_append]
          rfl)
        have i1 : (i : Int) < (x.length : Int) := by omega
        have i0' : (0 : Int) ≤ (i : Int) := by omega
        have e5 : IntKind.i64.wrap ((k : Int) + 1) = (k : Int) + 1 := by rw [IntKind.wrap_i64]; omega
        have hWw := hbw.size
        clear hu hie
        gi_wp2_with (gi_at_builtin; refine wpListIn_append_fits _ rfl _ _ 22 rfl W.heap.size 3 i0 1 Try.underlying22 hi hz1 W.heap.size k x.length _ rfl (hrw.alloc _) ⟨wr.heap.size, 0, none⟩ 1 1 [.int .i64 u] rfl rfl (cell_one_new _ _ _) (by simp [Value.oneCell']) (by omega) ?_; intro w5 hown5 hgrow5)
        have hbw5 : Below W.heap.size W w5 := kp_grown (kp_alloc _ hbw (Nat.le_refl _)) (Nat.le_refl _) hgrow5 (fun k hk => by cases hk; exact Nat.le_refl _)
        clear hgrow5
        gi_wp2_with fail
        go_roundw
        case rel => exact ⟨k + 1, by omega, by go_num, rfl, by rw [Hst.out]; exact hown5, hbw5⟩
        case measure => simp [intOf]; omega
      · obtain rfl : k = x.length := by omega
        have hlt' : ¬ (x.length : Int) < (x.length : Int) := by omega
        have hfin : sel (srt zs) (x.take x.length) = sel (srt zs) x := by rw [List.take_length]
        rw [hfin] at hrw
        have hB4 : Boxed wr (w2.heap.size + 2) 23 (.slice A' pre.length c') := (hbw.block _ y2.lt).trans y2
        have hcy := hB4.cell
        have hR4 : Row wr w.heap.size 22 A' pre.length c' (P.map V) := y3.kept hbw
        have hWw := hbw.size
        have hte : (23 : TypeId) ≠ 22 := by decide
        clear hfin
        gi_wp2_with (gi_at_builtin; refine wpListIn_appN _ rfl _ _ 23 rfl w.heap.size 22 i1 (.slice none 0 0) 24 Try.underlying23 hj hy0 hy1 hy2 rfl _ _ _ _ rfl (hR4.alloc _) ⟨wr.heap.size, 0, none⟩ 1 1 [.slice (some ⟨W.heap.size, 0, none⟩) x.length x.length] rfl rfl (cell_one_new _ _ _) (by simp [Value.oneCell']) (pre.length + 1) rfl (by omega) (by omega) (by simp; omega) ?_; intro A3 c3 w5 hown5 hgrow5 hat5; have hgrow6 : (wr.alloc (.cells #[.slice (some ⟨W.heap.size, 0, none⟩) x.length x.length] 22)).grownBy w5 (Value.slice A' pre.length c').ownBlock := ⟨hgrow5.os, hgrow5.tape, hgrow5.output, hgrow5.size, hgrow5.block⟩; obtain ⟨p1, p2, p3, p4, p5⟩ := hB4.appended hte hR4 (by omega) (by omega) hown5 hgrow6; have p1c := p1.cell; have p1f := p1.frozen)
        obtain ⟨pn, hpn⟩ : ∃ pn : SP, pn = ((some ⟨W.heap.size, 0, none⟩, x.length, x.length), sel (srt zs) x) := ⟨_, rfl⟩
        have hV : Value.slice (some ⟨W.heap.size, 0, none⟩) x.length x.length = V pn := by rw [hpn]; rfl
        have e1 : (pre ++ [x]).length = pre.length + 1 := by simp
        have hsz' := Hs0.out
        have hsz5 := hgrow6.size
        simp at hsz5 hat5
        have hblk : ∀ g, g < wr.heap.size → g ≠ w2.heap.size + 2 → (Value.slice A' pre.length c').ownBlock ≠ some g → (w5.setCell ⟨w2.heap.size + 2, 0, none⟩ (.slice A3 (pre.length + 1) c3)).heap[g]? = wr.heap[g]? := fun g h1 h2 h3 =>
          ((Below.heap_setCell _ _ _ _ (by show g ≠ w2.heap.size + 2; exact h2)).trans (hgrow6.block g (by simp; omega) (fun e => h3 e.symm))).trans (Below.heap_alloc _ _ _ h1)
        have ha : ∀ g cur, w2.heap.size + 3 ≤ g → wr.heap[g]? = some (.cells cur 3 (0, 0)) → (w5.setCell ⟨w2.heap.size + 2, 0, none⟩ (.slice A3 (pre.length + 1) c3)).heap[g]? = wr.heap[g]? := fun g cur hg hh => by
          have h0 : (wr.alloc (.cells #[.slice (some ⟨W.heap.size, 0, none⟩) x.length x.length] 22)).heap[g]? = wr.heap[g]? := Below.heap_alloc _ _ _ (Array.getElem?_eq_some_iff.1 hh).1
          have h1 := grown_other (hR4.alloc _) hgrow6 (h0.trans hh)
          exact ((Below.heap_setCell _ _ _ _ (by show g ≠ w2.heap.size + 2; omega)).trans h1).trans h0
        have hkeep : Keeps (w2.heap.size + 3) (W0.heap.size + 6) W (w5.setCell ⟨w2.heap.size + 2, 0, none⟩ (.slice A3 (pre.length + 1) c3)) := by
          refine ⟨by simp; omega, fun g h1 h2 h3 => ?_⟩
          exact (hblk g (by omega) (by omega) (fun e => by have := y4 g e; omega)).trans (hbw.block g h3)
        have hb5 : Below w2.heap.size wr (w5.setCell ⟨w2.heap.size + 2, 0, none⟩ (.slice A3 (pre.length + 1) c3)) := ⟨p5.os, p5.tape, p5.output, p5.size, fun g hg => hblk g (by omega) (by omega) (fun e => by have := y4 g e; omega)⟩
        refine ⟨hkeep, ?_, ⟨A3, c3, P ++ [pn], ?_, ?_, ?_, ?_, ?_⟩, ?_, ?_⟩
        · have hy1 : Boxed wr w2.heap.size 22 (.slice A2 x.length c2) := (hbw.block _ y1.lt).trans y1
          exact (hblk _ (by omega) (by omega) (fun e => by have := y4 _ e; omega)).trans hy1
        · rw [e1]; exact p2
        · rw [e1, List.map_append, List.map_singleton, ← hV]; exact p3
        · intro k hk
          rw [e1] at hk
          rcases hat5 with h | h
          · rw [h] at hk; exact y4 k hk
          · rw [h] at hk
            injection hk with hk
            omega
        · refine OwnP.snoc ?_ ?_
          · exact (y5.below (hbw.mono (Nat.le_refl _))).keep (fun g cur hg hh => ha g cur (by omega) hh)
          · rw [hpn]
            exact (hrw.own.more (by omega)).keep (fun g cur hg hh => ha g cur (by omega) hh)
        · rw [List.map_append, y6, List.map_append, hpn]; rfl
        · exact (y7.below (hbw.mono hb2)).below hb5
        · exact (y8.trans (hbw.mono hNW)).trans p5
  case done =>
    rintro W ⟨y1, ⟨A', c', P, y2, y3, y4, y5, y6⟩, y7, y8⟩ hK
    have hcy := y2.cell
    have hNW : w.heap.size ≤ W.heap.size := y8.size
    have hol : (ord m m []).length ≤ 3125 := by
      have h2 := ord_len_le m m []
      have h3 : m ^ m ≤ 3125 := by
        rcases (show m = 0 ∨ m = 1 ∨ m = 2 ∨ m = 3 ∨ m = 4 ∨ m = 5 by omega) with rfl | rfl | rfl | rfl | rfl | rfl <;> decide
      omega
    have hC := CompactFunc_any w.heap.size (W0.heap.size + 6) A' (ord m m []).length c' P W y3 y5 (by omega)
    gi_wp2
    refine ⟨trivial, (callsIn_wide.2 hC).mono ?_⟩
    rintro e w6 ⟨rfl, hrow6, hg6⟩
    have Hsl' := Hsl.out
    have hpl : P.length = (ord m m []).length := by have := y3.len; simpa using this
    have hfe := cmp_feq P P.length (Nat.le_refl _)
    rw [List.take_length, y6, hpl] at hfe
    have Hfe := Lib.hid (show FEq ((cmp P (ord m m []).length).map Prod.snd) (arr (srt zs)) by rw [show arr (srt zs) = (ord m m []).map (sel (srt zs)) by unfold arr; rw [Hsl']]; exact hfe)
    have hin6 : OwnP w6 (W0.heap.size + 6) (cmp P (ord m m []).length) := fun p hp => y5.grown y3 hg6 p (cmp_mem hp)
    have hcl := cmp_le P (ord m m []).length
    have hD : w6.heap[W0.heap.size]? = some (.deferred (some [])) := by
      refine (hg6.block _ (Array.getElem?_eq_some_iff.1 hK).1 (fun e => ?_)).trans hK
      have := y4 _ e.symm
      have := Hs0.out
      omega
    have hb6 : Below w.heap.size w w6 := kp_grown y8 (Nat.le_refl _) hg6 (row_ge y3)
    clear hC hfe
    gi_wp2
    refine ⟨by simp, .inl ⟨_, _, rfl, run_takeDeferred hD, ?_⟩⟩
    have hrow' := ownsRow_putObj hrow6 (.deferred none) hD rfl
    have hin' : OwnP (w6.putObj W0.heap.size (.deferred none)) (W0.heap.size + 6) (cmp P (ord m m []).length) := hin6.keep (fun g cur hg hh => World.putObj_heap_other (by omega))
    refine ⟨_, results_tmp rfl _ _ _, A', _, c', _, rfl, hrow', hin'.more (by have := Hs0.out; omega), Hfe.out, by omega, ?_⟩
    exact hb6.trans (belowK_b (w := W0) (n₀ := w.heap.size) (by have := Hs0.out; omega) w6 W0.heap.size _ (.deferred none) (Nat.le_refl _) hD rfl rfl)
end Go.Proofs.Ytopmifidhabobaa
