/-
  The least sum over all orders: rings and covers.
-/
import Derived.Test.YtfppbfhlmbakoaaSup
namespace Go.Proofs.Ytfppbfhlmbakoaa
open Go.RowKit
set_option linter.unusedVariables false
set_option linter.unusedSimpArgs false
attribute [local go_sem] Oper.semAt_some

theorem NI_I (o : List Nat) : o.map NI = (o.map fun i : Nat => (i : Int)).map I := by simp [NI, I]
theorem Rd.nat_at {w : World} {B : Nat} {A : Option Addr} {n c : Nat} {o : List Nat} (h : Rd w B A n c (o.map NI)) {k : Nat} (hk : k < n) :
    ∃ b off, A = some ⟨b, off, none⟩ ∧ b < B ∧ w.cell? ⟨b, off + k, none⟩ = some (.int .i64 (o.getD k 0 : Nat)) := by
  obtain ⟨b, off, e, hb, hc⟩ := h.at_ hk
  have hl : k < o.length := by have := h.1; simp at this; omega
  exact ⟨b, off, e, hb, by rw [hc]; simp [NI, List.getElem?_eq_getElem hl]⟩
theorem Rd.nat_at' {w : World} {B b off n c : Nat} {o : List Nat} (h : Rd w B (some ⟨b, off, none⟩) n c (o.map NI)) {k : Nat} (hk : k < n) :
    w.cell? ⟨b, off + k, none⟩ = some (.int .i64 (o.getD k 0 : Nat)) := by
  obtain ⟨b', off', e, _, hc⟩ := h.nat_at hk
  injection e with e
  injection e with e1 e2
  subst e1 e2
  exact hc
set_option maxHeartbeats 1600000 in
theorem ring1_any (A : Option Addr) (n c : Nat) (o : List Nat) (k B : Nat) (w : World) (hr : Rd w B A n c (o.map NI)) (hk : k < n) :
    Calls Try.prog 39 #[.slice A n c, .int .i64 k] w fun e w' => e = .returned (.tuple #[.int .i64 ((bhR o k).1 : Nat), .int .i64 ((bhR o k).2 : Nat)]) ∧ Quiet w w' := by
  have hm := hr.2.2.1
  have hnc := hr.2.1
  have hlen : o.length = n := by have := hr.1; simpa using this
  unfold maxLen at hm
  obtain ⟨j, hj⟩ : ∃ j, j = (k + 1) % n := ⟨_, rfl⟩
  have hjn : j < n := by rw [hj]; exact Nat.mod_lt _ (by omega)
  obtain ⟨b, off, rfl, _, c1⟩ := hr.nat_at hk
  have c2 := hr.nat_at' hjn
  have Hv := Lib.hid (show bhR o k = (o.getD k 0, o.getD j 0) by unfold bhR; rw [hlen, ← hj])
  obtain ⟨x, hx⟩ : ∃ x, x = o.getD k 0 := ⟨_, rfl⟩
  obtain ⟨y, hy⟩ : ∃ y, y = o.getD j 0 := ⟨_, rfl⟩
  rw [← hx] at c1
  rw [← hy] at c2
  have Hx := Lib.hid hx
  have Hy := Lib.hid hy
  have t1 : ((k : Int) + 1).tmod (n : Int) = (j : Int) := by
    rw [Int.tmod_eq_emod_of_nonneg (by omega), hj, Int.natCast_emod]
    rfl
  have e1 : IntKind.i64.wrap ((k : Int) + 1) = (k : Int) + 1 := by rw [IntKind.wrap_i64]; omega
  have e2 : IntKind.i64.wrap (j : Int) = (j : Int) := by rw [IntKind.wrap_i64]; omega
  have n0 : ((n : Int) == 0) = false := by simp; omega
  have n1 : (n : Int) ≠ 0 := by omega
  have k1 : (k : Int) < (n : Int) := by omega
  have j1 : (j : Int) < (n : Int) := by omega
  have k0 : (0 : Int) ≤ (k : Int) := by omega
  have j0 : (0 : Int) ≤ (j : Int) := by omega
  clear hx hy hj hlen hr
  go_enter Try.func39, Try.ntmps39
  go_wp2_with fail
  go_quiet (fail)
  go_wp2_with fail
  go_ret2
  exact ⟨by rw [Hv.out, ← Hx.out, ← Hy.out]; rfl, ⟨_, rfl⟩⟩
set_option maxHeartbeats 1600000 in
theorem cover1_any (A : Option Addr) (n c : Nat) (o : List Nat) (k B : Nat) (w : World) (hr : Rd w B A n c (o.map NI)) (hk : k < n) :
    Calls Try.prog 37 #[.slice A n c, .int .i64 k] w fun e w' => e = .returned (.tuple #[.int .i64 ((bhC o k).1 : Nat), .int .i64 ((bhC o k).2 : Nat)]) ∧ Quiet w w' := by
  have hm := hr.2.2.1
  have hnc := hr.2.1
  unfold maxLen at hm
  obtain ⟨b, off, rfl, _, c1⟩ := hr.nat_at hk
  have Hv := Lib.hid (show bhC o k = (k, o.getD k 0) from rfl)
  obtain ⟨x, hx⟩ : ∃ x, x = o.getD k 0 := ⟨_, rfl⟩
  rw [← hx] at c1
  have Hx := Lib.hid hx
  have k1 : (k : Int) < (n : Int) := by omega
  have k0 : (0 : Int) ≤ (k : Int) := by omega
  clear hx hr
  go_enter Try.func37, Try.ntmps37
  go_wp2_with fail
  go_quiet (fail)
  go_wp2_with fail
  go_ret2
  exact ⟨by rw [Hv.out, ← Hx.out]; rfl, ⟨_, rfl⟩⟩
theorem redTo_mem {ws : List (List UInt8)} {k : Nat} {x : List UInt8} (h : x ∈ redTo ws k) : x ∈ ws := by
  induction k with
  | zero => cases h
  | succ k ih =>
    rw [redTo] at h
    split at h
    · next y hy =>
      split at h
      · exact ih h
      · rw [List.mem_append, List.mem_singleton] at h
        rcases h with h | rfl
        · exact ih h
        · exact List.mem_of_getElem? hy
    · exact ih h
theorem red_mem {ws : List (List UInt8)} {x : List UInt8} (h : x ∈ red ws) : x ∈ ws := redTo_mem h
theorem wayTo_le {ws : List (List UInt8)} {B : Nat} (bh : List Nat → Nat → Nat × Nat) (o : List Nat) (h : ∀ i, (wd ws i).length ≤ B) (k : Nat) : wayTo ws bh o k ≤ (B : Int) * (k : Int) := by
  induction k with
  | zero => simp [wayTo]
  | succ k ih =>
    rw [wayTo]
    have h1 := stp_le ws (bh o k).1 (bh o k).2
    have h2 := h (bh o k).1
    have h3 : (B : Int) * ((k + 1 : Nat) : Int) = (B : Int) * (k : Int) + (B : Int) := by rw [Int.natCast_succ, Int.mul_add, Int.mul_one]
    omega
/-- The least sum over all orders. -/
def WY (ws : List (List UInt8)) (bh : List Nat → Nat → Nat × Nat) : Int := if vw ws then (keptI (way (red ws) bh) (ord (red ws).length (red ws).length [])).getD 0 else -1
set_option maxRecDepth 100000 in
set_option maxHeartbeats 3200000 in
theorem ways_any (A : Option Addr) (n c : Nat) (ws : List (List UInt8)) (w : World) (hr : Rd w w.heap.size A n c (ws.map S)) (hl : Len47 ws) (hvr : Vr w)
    (g : Nat) (bh : List Nat → Nat → Nat × Nat) (eg : ∀ args w, (callFunc g args).run Try.prog w = .ok (.enter g args) w)
    (hg : ∀ (A : Option Addr) (n c : Nat) (o : List Nat) (k B : Nat) (w : World), Rd w B A n c (o.map NI) → k < n → Calls Try.prog g #[.slice A n c, .int .i64 k] w fun e w' => e = .returned (.tuple #[.int .i64 ((bh o k).1 : Nat), .int .i64 ((bh o k).2 : Nat)]) ∧ Quiet w w')
    (hbh : ∀ (o : List Nat) (m k : Nat), o.Perm (List.range m) → k < m → (bh o k).1 < m ∧ (bh o k).2 < m) :
    Calls Try.prog 36 #[.slice A n c, .func (.func g) #[] #[]] w (RetVal w (.int .i64 (WY ws bh))) := by
  have hn := hr.slen
  have Hn := Lib.hid hn
  clear hn
  cases hv : vw ws with
  | false =>
    have Hv := Lib.hid (show WY ws bh = -1 by unfold WY; rw [hv]; rfl)
    have HV := Lib.hid hv
    clear hv
    have hb0 : Below w.heap.size w (w.alloc (.cells #[.func (.func g) #[] #[]] 40)) := (Below.refl _ w).alloc (Nat.le_refl _) _
    have hr0 := (hr.below hb0).more hb0.size
    go_enter Try.func36, Try.ntmps36
    go_wp2_with fail
    refine (wordsOk_any A n c ws _ hr0 hl).mono ?_
    rintro e w' ⟨rfl, hb1⟩
    rw [HV.out]
    go_wp2_with fail
    go_ret
    exact ⟨ret_int Hv.out.symm, hb0.trans (hb1.mono hb0.size)⟩
  | true =>
    have h6 := vw_len hv
    rw [Hn.out] at h6
    have Hv := Lib.hid (show WY ws bh = (keptI (way (red ws) bh) (ord (red ws).length (red ws).length [])).getD 0 by unfold WY; rw [hv]; rfl)
    have hl6 : ∀ x ∈ ws, x.length ≤ 1048576 := fun x hx => by have := (wOk_len (vw_all' hv x hx)).2; omega
    have hl7 : ∀ x ∈ ws, x.length ≤ 6 := fun x hx => by have := (wOk_len (vw_all' hv x hx)).2; omega
    have HV := Lib.hid hv
    clear hv
    have hb0 : Below w.heap.size w (w.alloc (.cells #[.func (.func g) #[] #[]] 40)) := (Below.refl _ w).alloc (Nat.le_refl _) _
    have hr0 := (hr.below hb0).more hb0.size
    have hvr0 := hvr.keep hb0
    refine (callsIn_wide (n := 9)).1 ?_
    refine callsIn_of_wp_marks Try.func36 rfl trivial ?_ rfl
    simp only [Try.ntmps36, List.size_toArray, List.length_cons, List.length_nil, Nat.reduceAdd, Nat.reduceSub, Array.replicate_succ, Array.replicate_zero, List.push_toArray, List.append_toArray, List.nil_append, List.cons_append]
    gi_wp2_with fail
    refine ⟨trivial, (callsIn_wide.2 (wordsOk_any A n c ws _ hr0 hl)).mono ?_⟩
    rintro e w1 ⟨rfl, hb1⟩
    rw [HV.out]
    have hb01 := hb0.trans (hb1.mono hb0.size)
    have hr1 := (hr.below hb01).more hb01.size
    have hvr1 := hvr.keep hb01
    have q3 : Boxed w1 w.heap.size 40 (.func (.func g) #[] #[]) := (hb1.block _ (by simp)).trans (Boxed.new w _ _)
    gi_wp2_with fail
    refine ⟨trivial, (callsIn_wide.2 (reduced_any A n c ws _ hr1 hl6 (by omega) hvr1)).mono ?_⟩
    rintro e w2 ⟨A2, m, c2, rfl, ho2, hb2⟩
    have hm : (red ws).length = m := by have := ho2.1; simpa using this
    have hm6 : m ≤ 6 := by rw [← hm]; have := redTo_le ws ws.length; unfold red; have := Hn.out; omega
    have Hm := Lib.hid hm
    clear hm
    have hb02 := hb01.trans (hb2.mono hb01.size)
    have q3' : Boxed w2 w.heap.size 40 (.func (.func g) #[] #[]) := (hb2.block _ q3.lt).trans q3
    have hbe : ∀ (v : Value) (o : Obj), Boxed ((w2.alloc (.cells #[v] 22)).alloc o) w2.heap.size 22 v := fun v o => (Boxed.new w2 _ v).alloc o
    have hbc := fun v o => (hbe v o).cell
    have Hbe := Lib.hid hbe
    clear hbe
    gi_wp2_with fail
    refine ⟨trivial, (callsIn_wide.2 (orders_any m _)).mono ?_⟩
    rintro e w3 ⟨rfl, rfl⟩
    gi_wp2_with fail
    obtain ⟨W0, hW0⟩ : ∃ W0, W0 = (((w2.alloc (.cells #[.slice A2 m c2] 22)).alloc (.cells #[.bool false, .int .i64 0] 63)).alloc (.cells #[.int .i64 m] 3)) := ⟨_, rfl⟩
    rw [← hW0]
    have hs0 : W0.heap.size = w2.heap.size + 3 := by rw [hW0]; simp
    have z0 : Boxed W0 w.heap.size 40 (.func (.func g) #[] #[]) := by rw [hW0]; exact ((q3'.alloc _).alloc _).alloc _
    have z1 : Boxed W0 w2.heap.size 22 (.slice A2 m c2) := by rw [hW0]; exact (((Boxed.new w2 _ _).alloc _).alloc _)
    have z2 : BestI W0 (w2.heap.size + 1) none := by
      rw [hW0]
      unfold BestI
      rw [heap_al, if_neg (by simp), heap_al, if_pos (by simp)]
      rfl
    have z3 : Boxed W0 (w2.heap.size + 2) 3 (.int .i64 m) := by
      rw [hW0]
      have := Boxed.new ((w2.alloc (.cells #[.slice A2 m c2] 22)).alloc (.cells #[.bool false, .int .i64 0] 63)) 3 (.int .i64 m)
      simpa using this
    have z4 : Rd W0 w2.heap.size A2 m c2 ((red ws).map S) := by
      rw [hW0]
      exact ho2.rd.below (kp_alloc _ (kp_alloc _ (kp_alloc _ (Below.refl _ _) (Nat.le_refl _)) (Nat.le_refl _)) (Nat.le_refl _))
    have z5 : Below w.heap.size w W0 := by
      rw [hW0]
      exact kp_alloc _ (kp_alloc _ (kp_alloc _ hb02 (Nat.le_refl _)) (Nat.le_refl _)) (Nat.le_refl _)
    have hs2 : w.heap.size ≤ w2.heap.size := hb02.size
    have hw2 : w.heap.size < w2.heap.size := q3'.lt
    have Hs0 := Lib.hid hs0
    clear hW0 hs0 hbc ho2 hb2 hb0 hb1 hb01 hr1 hr0 q3 q3' hvr0 hvr1
    refine wpIn_orders 7 (by omega) m (w2.heap.size + 2) (by omega) z3 rfl
      (fun pre W => Boxed W w.heap.size 40 (.func (.func g) #[] #[]) ∧ Boxed W w2.heap.size 22 (.slice A2 m c2) ∧ BestI W (w2.heap.size + 1) (keptI (way (red ws) bh) pre) ∧ Rd W w2.heap.size A2 m c2 ((red ws).map S) ∧ Below w.heap.size w W) ?hI ⟨z0, z1, z2, z4, z5⟩ ?assign ?body ?done
    case hI =>
      rintro pre A B ⟨y0, y1, y2, y3, y4⟩ hw
      have hsz := Hs0.out
      have hlt := y1.lt
      have hb : Below w2.heap.size A B := hw.below (by omega) (by omega)
      refine ⟨(hw.block _ y0.lt (.inl (by omega))).trans y0, (hw.block _ y1.lt (.inl (by omega))).trans y1, (hw.block _ (Array.getElem?_eq_some_iff.1 y2).1 (.inl (by omega))).trans y2, y3.below hb, y4.trans (hb.mono hs2)⟩
    case assign =>
      intro l v W K hK
      gi_wp2
      exact hK
    case body =>
      rintro l pre x v W ⟨y0, y1, y2, y3, y4⟩ hx hsz ⟨rfl, cur, hcur, hcl⟩
      have hxl : x.length = m := by simpa using hx.length_eq
      obtain rfl := hxl
      simp only [setTwo, List.setIfInBounds_toArray, List.set_cons_zero, List.set_cons_succ]
      gi_wp2
      have hor : Rd W W.heap.size (some ⟨W0.heap.size + 2 + 1, 0, none⟩) x.length x.length (x.map NI) := by
        refine ⟨by simp, Nat.le_refl _, by unfold maxLen; omega, fun _ => ⟨_, _, rfl, (Array.getElem?_eq_some_iff.1 hcur).1, fun j u hu => ?_⟩⟩
        rw [Nat.zero_add, cell_of_row W _ j cur _ (0, 0) hcur, ← Array.getElem?_toList, hcl]
        exact hu
      have Hx := Lib.hid hx
      clear hcur hcl hx z0 z1 z2 z3 z4 z5
      gi_loopw [8, 23] (fun s i wr => ∃ k : Nat, k ≤ x.length ∧ i = .int .i64 k ∧ s = .int .i64 (wayTo (red ws) bh x k) ∧ Quiet W wr) (fun _ i _ => x.length - (intOf i).toNat)
      case atStart => exact ⟨0, Nat.zero_le _, rfl, rfl, Quiet.refl _⟩
      case round =>
        obtain ⟨k, hk, rfl, rfl, hq⟩ := hrel
        by_cases hlt : k < x.length
        · have hlt' : (k : Int) < (x.length : Int) := by omega
          have hc3 : wr.cell? ⟨w.heap.size, 0, none⟩ = some (.func (.func g) #[] #[]) := by obtain ⟨q, rfl⟩ := hq; exact y0.cell
          have hcall := hg _ _ _ _ _ _ wr (hq.rd hor) hlt
          obtain ⟨hi, hj⟩ := hbh x x.length k Hx.out hlt
          have hwle := wayTo_le (ws := red ws) (B := 6) bh x (fun i => by
            unfold wd
            rw [List.getD_eq_getElem?_getD]
            cases h : (red ws)[i]? with
            | none => simp
            | some y => exact hl7 y (red_mem (List.mem_of_getElem? h))) k
          have hw0 := wayTo_nonneg (red ws) bh x k
          obtain ⟨s, hs⟩ : ∃ s, s = wayTo (red ws) bh x k := ⟨_, rfl⟩
          have Hst := Lib.hid (show wayTo (red ws) bh x (k + 1) = s + stp (red ws) (bh x k).1 (bh x k).2 by rw [hs]; rfl)
          rw [← hs] at hwle hw0 ⊢
          obtain ⟨i, hi'⟩ : ∃ i, i = (bh x k).1 := ⟨_, rfl⟩
          obtain ⟨j, hj'⟩ : ∃ j, j = (bh x k).2 := ⟨_, rfl⟩
          rw [← hi'] at hi hcall Hst
          rw [← hj'] at hj hcall Hst
          clear hs hi' hj'
          gi_wp2_with fail
          refine ⟨trivial, (CallsIn.inRound l (callsIn_wide.2 hcall)).mono ?_⟩
          rintro e wr2 ⟨rfl, hq2⟩
          have hqq : Quiet W wr2 := by obtain ⟨q, rfl⟩ := hq; obtain ⟨q2, rfl⟩ := hq2; exact ⟨q + q2, by rw [World.drewN_drewN]⟩
          have hcw : wr2.cell? ⟨w2.heap.size, 0, none⟩ = some (.slice A2 x.length c2) := by obtain ⟨q, rfl⟩ := hqq; exact y1.cell
          obtain ⟨b, off, u, rfl, _, hu, hcu⟩ := (hqq.rd y3).str hi
          obtain ⟨v, hv, hcv⟩ := (hqq.rd y3).str_at hj
          have hu6 := hl7 u (red_mem (List.mem_of_getElem? hu))
          have hv6 := hl7 v (red_mem (List.mem_of_getElem? hv))
          have hO := fun w' => overlap_any u v w' (by omega) (by omega)
          have ho1 := ovl_le_left u v
          have Hsp := Lib.hid (show stp (red ws) i j = (u.length : Int) - (ovl u v : Nat) by unfold stp; rw [wd_at hu, wd_at hv])
          obtain ⟨t, ht⟩ : ∃ t, t = ovl u v := ⟨_, rfl⟩
          rw [← ht] at hO ho1 Hsp
          have i1 : (i : Int) < (x.length : Int) := by omega
          have i0 : (0 : Int) ≤ (i : Int) := by omega
          have j1 : (j : Int) < (x.length : Int) := by omega
          have j0 : (0 : Int) ≤ (j : Int) := by omega
          have e1 : IntKind.i64.wrap ((u.length : Int) - (t : Int)) = (u.length : Int) - (t : Int) := by rw [IntKind.wrap_i64]; omega
          have e2 : IntKind.i64.wrap (s + ((u.length : Int) - (t : Int))) = s + ((u.length : Int) - (t : Int)) := by rw [IntKind.wrap_i64]; omega
          clear hu hv ht hcall hc3 hq hq2
          gi_wp2_with fail
          refine round_quiet (by kernel_rfl) (by kernel_rfl) (by rintro ⟨_, _, h⟩; exact h) (by kernel_rfl) ?_
          repeat (quiet_step ((go_at_call 44; exact Calls.quiet_of_same ((hO _).mono fun _ _ ⟨h1, h2⟩ => ⟨h1, h2.symm⟩))))
          refine wpQuiet_nil ?_
          intro _ hw'
          obtain ⟨nq, hw''⟩ := hw'
          subst hw''
          clear e1 e2 hO
          gi_wp2_with fail
          go_roundw
          case rel => exact ⟨k + 1, by omega, by go_num, by rw [Hst.out, Hsp.out], hqq.drewN _⟩
          case measure => simp [intOf]; omega
        · obtain rfl : k = x.length := by omega
          have hlt' : ¬ (x.length : Int) < (x.length : Int) := by omega
          obtain ⟨q, rfl⟩ := hq
          have hO := offerI_any (w2.heap.size + 1) (keptI (way (red ws) bh) pre) (wayTo (red ws) bh x x.length) (W.drewN q) y2
          have ek : keepI (keptI (way (red ws) bh) pre) (wayTo (red ws) bh x x.length) = keptI (way (red ws) bh) (pre ++ [x]) := (keptI_snoc _ _ _).symm
          rw [ek] at hO
          clear ek
          gi_wp2_with fail
          refine ⟨trivial, (CallsIn.inRound l (callsIn_wide.2 hO)).mono ?_⟩
          rintro e w5 ⟨rfl, hB5, hg5⟩
          have hg5' : W.grownBy w5 (some (w2.heap.size + 1)) := ⟨hg5.os, hg5.tape, hg5.output, hg5.size, hg5.block⟩
          clear hO hg5
          gi_wp2_with fail
          have hsz' := Hs0.out
          have hb5 : Below w2.heap.size W w5 := (Win.of_grown (lo := w2.heap.size) (hi := w2.heap.size + 2) hg5' (fun k e => by cases e; omega)).below (Nat.le_refl _) (by omega)
          refine ⟨Keeps.of_grown hg5' (fun k e => by cases e; omega), (hg5'.block _ y0.lt (by simp; omega)).trans y0, (hg5'.block _ y1.lt (by simp)).trans y1, hB5, y3.below hb5, y4.trans (hb5.mono hs2)⟩
    case done =>
      rintro W ⟨y0, y1, y2, y3, y4⟩ hK
      have c1 := cell_of_row W (w2.heap.size + 1) 1 _ _ (0, 0) y2
      have c1' : W.cell? ⟨w2.heap.size + 1, 1, none⟩ = some (.int .i64 ((keptI (way (red ws) bh) (ord m m [])).getD 0)) := by rw [c1]; rfl
      clear c1
      gi_wp2
      have hsz' := Hs0.out
      have hlt := y1.lt
      refine ⟨by simp, .inl ⟨_, _, rfl, run_takeDeferred hK, ?_⟩⟩
      rw [Hv.out, Hm.out]
      exact ⟨_, results_tmp rfl _ _ _, rfl, y4.trans (((Win.putObj (lo := W0.heap.size) (hi := W0.heap.size + 1) W _ (Nat.le_refl _) (by omega)).below (by omega) (by omega)).mono hs2)⟩
theorem perm_getD {o : List Nat} {m k : Nat} (h : o.Perm (List.range m)) (hk : k < m) : o.getD k 0 < m := by
  have hl : o.length = m := by simpa using h.length_eq
  rw [List.getD_eq_getElem?_getD, List.getElem?_eq_getElem (by omega)]
  have := h.mem_iff.1 (List.getElem_mem (show k < o.length by omega))
  simpa using this
theorem bhR_lt (o : List Nat) (m k : Nat) (h : o.Perm (List.range m)) (hk : k < m) : (bhR o k).1 < m ∧ (bhR o k).2 < m := by
  have hl : o.length = m := by simpa using h.length_eq
  refine ⟨perm_getD h hk, perm_getD h ?_⟩
  rw [hl]
  exact Nat.mod_lt _ (by omega)
theorem bhC_lt (o : List Nat) (m k : Nat) (h : o.Perm (List.range m)) (hk : k < m) : (bhC o k).1 < m ∧ (bhC o k).2 < m := ⟨hk, perm_getD h hk⟩
theorem RingLength_any (A : Option Addr) (n c : Nat) (ws : List (List UInt8)) (w : World) (hr : Rd w w.heap.size A n c (ws.map S)) (hl : Len47 ws) (hvr : Vr w) :
    Calls Try.prog 18 #[.slice A n c] w (RetVal w (.int .i64 (WY ws bhR))) := by
  have hW := ways_any A n c ws w hr hl hvr 39 bhR (enters_of Try.func39 (by kernel_rfl) rfl) ring1_any bhR_lt
  clear hr hl hvr
  go_enter Try.func18, Try.ntmps18
  go_wp2_with fail
  refine hW.mono ?_
  rintro e w' ⟨rfl, hb⟩
  go_wp2_with fail
  go_ret
  exact ⟨rfl, hb⟩
theorem CoverLength_any (A : Option Addr) (n c : Nat) (ws : List (List UInt8)) (w : World) (hr : Rd w w.heap.size A n c (ws.map S)) (hl : Len47 ws) (hvr : Vr w) :
    Calls Try.prog 15 #[.slice A n c] w (RetVal w (.int .i64 (WY ws bhC))) := by
  have hW := ways_any A n c ws w hr hl hvr 37 bhC (enters_of Try.func37 (by kernel_rfl) rfl) cover1_any bhC_lt
  clear hr hl hvr
  go_enter Try.func15, Try.ntmps15
  go_wp2_with fail
  refine hW.mono ?_
  rintro e w' ⟨rfl, hb⟩
  go_wp2_with fail
  go_ret
  exact ⟨rfl, hb⟩
end Go.Proofs.Ytfppbfhlmbakoaa
