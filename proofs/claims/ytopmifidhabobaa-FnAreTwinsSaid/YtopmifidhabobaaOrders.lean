/-
  All orders of the numbers below n, one behind the other: what the function that hands them over does.
-/
import Derived.Test.YtopmifidhabobaaIter
import Derived.Test.YtopmifidhabobaaOrdN
import Derived.Maps.AppendAt
import Derived.Laws.EntriesVeiled
namespace Go.Proofs.Ytopmifidhabobaa
open Go.RowKit
set_option linter.unusedVariables false
set_option linter.unusedSimpArgs false
attribute [local go_sem] Oper.semAt_some

def NI (i : Nat) : Value := .int .i64 i
theorem room_any {F : Fence} (hd : F.depth = none) (k : Nat) : F.room k := fun d h => by rw [hd] at h; cases h
theorem yield_any {F : Fence} (hd : F.depth = none) {m : Nat} (m' : Nat) {P : Program} {l : Nat} {args : Array Value} {W : World} {R : Ending → World → Prop} (h : YieldAt F m P l args W R) : YieldAt F m' P l args W R := by
  obtain ⟨fn, tmps, assign, body, hy, hR⟩ := h
  exact ⟨fn, tmps, assign, body, hy, hR.1, fun c cs _ => hR.2 c cs (room_any hd _)⟩
/-- What the walk over the orders keeps: the four blocks from lo on, and the number below it. -/
structure OrdAt (Bn lo l n : Nat) (h : List Nat) (W : World) : Prop where
  num : Boxed W Bn 3 (.int .i64 n)
  yld : Boxed W lo 30 (.func (.yield l) #[] #[])
  row : ∃ cur, W.heap[lo + 1]? = some (.cells cur 3 (0, 0)) ∧ cur.size = n ∧ cur.toList.take h.length = h.map NI
  ord : Boxed W (lo + 2) 22 (.slice (some ⟨lo + 1, 0, none⟩) h.length n)
  slf : Boxed W (lo + 3) 105 (.func (.func 126) #[] #[.pointer (some ⟨lo + 2, 0, none⟩), .pointer (some ⟨Bn, 0, none⟩), .pointer (some ⟨lo, 0, none⟩), .pointer (some ⟨lo + 3, 0, none⟩)])
/-- What a round is handed: an order, in the walk's own cells. -/
def OrdArg (lo : Nat) (x : List Nat) (v : Value) (W : World) : Prop :=
  v = .slice (some ⟨lo + 1, 0, none⟩) x.length x.length ∧ ∃ cur, W.heap[lo + 1]? = some (.cells cur 3 (0, 0)) ∧ cur.toList = x.map NI
theorem OrdArg.keeps {lo : Nat} {x : List Nat} {v : Value} {A B : World} (h : OrdArg lo x v A) (hk : Keeps lo (lo + 4) A B) : OrdArg lo x v B := by
  obtain ⟨h1, cur, h2, h3⟩ := h
  exact ⟨h1, cur, (hk.same _ (by omega) (by omega) (Array.getElem?_eq_some_iff.1 h2).1).trans h2, h3⟩
theorem box_keeps {A B : World} {k lo hi : Nat} {t : TypeId} {v : Value} (h : Boxed A k t v) (hk : Keeps lo hi A B) (h1 : lo ≤ k) (h2 : k < hi) : Boxed B k t v := (hk.same k h1 h2 h.lt).trans h
theorem OrdAt.keeps {Bn lo l n : Nat} {h : List Nat} {A B : World} (hs : OrdAt Bn lo l n h A) (hk : Keeps lo (lo + 4) A B) (hn : Boxed B Bn 3 (.int .i64 n)) : OrdAt Bn lo l n h B := by
  obtain ⟨cur, h2, h3⟩ := hs.row
  exact ⟨hn, box_keeps hs.yld hk (by omega) (by omega), ⟨cur, (hk.same _ (by omega) (by omega) (Array.getElem?_eq_some_iff.1 h2).1).trans h2, h3⟩, box_keeps hs.ord hk (by omega) (by omega), box_keeps hs.slf hk (by omega) (by omega)⟩
theorem OrdAt.lt {Bn lo l n : Nat} {h : List Nat} {A : World} (hs : OrdAt Bn lo l n h A) : lo + 4 ≤ A.heap.size := by have := hs.slf.lt; omega
set_option maxHeartbeats 800000 in
theorem IndexI_any (A : Option Addr) (n c : Nat) (zs : List Int) (x : Int) (w : World) (B : Nat) (hr : Rd w B A n c (zs.map I)) :
    Calls Try.prog 105 #[.slice A n c, .int .i64 x] w fun e w' => ∃ r : Int, e = .returned (.int .i64 r) ∧ decide (0 ≤ r) = decide (x ∈ zs) ∧ w' = w := by
  have hm := hr.2.2.1
  have hnc := hr.2.1
  have Hn := Lib.hid hr.ilen
  unfold maxLen at hm
  go_enter Try.func105, Try.ntmps105
  go_wp2
  go_loopw [8] (fun i wr => ∃ k : Nat, k ≤ n ∧ i = .int .i64 k ∧ x ∉ zs.take k ∧ wr = w) (fun i _ => n - (intOf i).toNat)
  case atStart => exact ⟨0, Nat.zero_le _, rfl, by simp, rfl⟩
  case round =>
    obtain ⟨k, hk, rfl, hall, rfl⟩ := hrel
    have Hall := Lib.hid hall
    clear hall
    by_cases hlt : k < n
    · obtain ⟨b, o, y, rfl, hb, hy, hc⟩ := hr.int hlt
      have hlt' : (k : Int) < (n : Int) := by omega
      have k0 : (0 : Int) ≤ (k : Int) := by omega
      have Hy := Lib.hid hy
      clear hy
      by_cases hxy : x = y
      · subst hxy
        have e1 : (x == x) = true := by simp
        have Hany := Lib.hid (show x ∈ zs from List.mem_of_getElem? Hy.out)
        go_wp2_with fail
        go_ret
        exact ⟨_, rfl, by have := Hany.out; simp [this], rfl⟩
      · have e1 : (x == y) = false := by simpa using hxy
        have e2 : (y == x) = false := by simpa using Ne.symm hxy
        have Hxy := Lib.hid hxy
        clear hxy
        go_wp2_with fail
        go_roundw
        case rel =>
          refine ⟨k + 1, by omega, by go_num, fun hx => ?_, trivial⟩
          obtain ⟨h1, h2⟩ := List.getElem?_eq_some_iff.1 Hy.out
          rw [List.take_succ_eq_append_getElem h1, h2, List.mem_append, List.mem_singleton] at hx
          exact hx.elim Hall.out Hxy.out
        case measure => simp [intOf]; omega
    · obtain rfl : k = n := by omega
      have hlt' : ¬ (k : Int) < (k : Int) := by omega
      have Hany := Lib.hid (show x ∉ zs by
        have h := Hall.out
        rwa [List.take_of_length_le (by have := Hn.out; omega)] at h)
      go_wp2_with fail
      go_ret
      exact ⟨_, rfl, by have := Hany.out; simp [this], rfl⟩
theorem ContainsI_any (A : Option Addr) (n c : Nat) (zs : List Int) (x : Int) (w : World) (B : Nat) (hr : Rd w B A n c (zs.map I)) :
    Calls Try.prog 86 #[.slice A n c, .int .i64 x] w fun e w' => e = .returned (.bool (decide (x ∈ zs))) ∧ w' = w := by
  have H := Lib.hid (IndexI_any A n c zs x w B hr)
  clear hr
  go_enter Try.func86, Try.ntmps86
  go_wp2_with fail
  refine H.out.mono ?_
  rintro e w' ⟨r, rfl, hd, rfl⟩
  have Hd := Lib.hid hd
  clear hd
  go_wp2_with fail
  go_ret
  exact ⟨ret_bool Hd.out, rfl⟩
theorem ord_take (n f : Nat) (h : List Nat) {k : Nat} (hk : k ≤ n) : ordTo n f h k <+: ordTo n f h n := by
  unfold ordTo
  obtain ⟨d, rfl⟩ : ∃ d, n = k + d := ⟨n - k, by omega⟩
  rw [List.range_add, List.flatMap_append]
  exact List.prefix_append _ _
set_option maxRecDepth 100000 in
set_option maxHeartbeats 3200000 in
theorem from_in (Bn lo l n : Nat) (hBn : Bn < lo) (hn6 : n ≤ 1000) (J : List (List Nat) → World → Prop) (xs : List (List Nat))
    (hJ : ∀ pre A B, J pre A → Win lo (lo + 4) A B → J pre B)
    (hY : ∀ m pre x v W1, J pre W1 → (pre ++ [x]) <+: xs → lo + 4 ≤ W1.heap.size → OrdArg lo x v W1 → YieldAt Fence.wide m Try.prog l #[v] W1 fun e W' => e = .returned (.bool true) ∧ J (pre ++ [x]) W' ∧ Keeps Bn (Bn + 1) W1 W' ∧ Keeps lo (lo + 4) W1 W') (f : Nat) :
    ∀ (d : Nat) (h : List Nat) (pre : List (List Nat)) (W : World), OrdAt Bn lo l n h W → J pre W → h.length + f = n → (pre ++ ord n f h) <+: xs →
    CallsIn Fence.wide d Try.prog 126 #[.pointer (some ⟨lo + 2, 0, none⟩), .pointer (some ⟨Bn, 0, none⟩), .pointer (some ⟨lo, 0, none⟩), .pointer (some ⟨lo + 3, 0, none⟩)] W fun e W' => e = .returned (.bool true) ∧ J (pre ++ ord n f h) W' ∧ OrdAt Bn lo l n h W' := by
  have ef := enters_of Try.func126 (by kernel_rfl) rfl
  induction f with
  | zero =>
    intro d h pre W hs hj hlen hpre
    obtain rfl : h.length = n := by omega
    have hdd : ∀ k : Nat, (Fence.wide.depth.isSome = true → 1 ≤ k) := fun k h => by cases h
    have c1 := hs.num.cell
    have c2 := hs.yld.cell
    have c3 := hs.ord.cell
    obtain ⟨fn, tmps, assign, body, hy, hR⟩ := hY (d - 1) pre h _ W hj (by simpa [ord] using hpre) hs.lt ⟨rfl, by
      obtain ⟨cur, h1, h2, h3⟩ := hs.row
      exact ⟨cur, h1, by rwa [List.take_of_length_le (by simp; omega)] at h3⟩⟩
    have e1 : ((h.length : Int) == (h.length : Int)) = true := by simp
    refine callsIn_of_wp Try.func126 rfl trivial ?_ rfl
    simp only [Try.ntmps126, List.size_toArray, List.length_cons, List.length_nil, Nat.reduceAdd, Nat.reduceSub, Array.replicate_succ, Array.replicate_zero, List.push_toArray, List.append_toArray, List.nil_append, List.cons_append]
    gi_wp2
    refine ⟨hdd _, ?_⟩
    refine hR.mono ?_
    rintro e W3 ⟨rfl, hj3, hk1, hk2⟩
    gi_wp2
    go_ret
    exact ⟨rfl, by simpa [ord] using hj3, hs.keeps hk2 (box_keeps hs.num hk1 (Nat.le_refl _) (by omega))⟩
  | succ f ih =>
    intro d h pre W hs hj hlen hpre
    rw [ord_succ] at hpre ⊢
    have hdd : ∀ k : Nat, (Fence.wide.depth.isSome = true → 1 ≤ k) := fun k h => by cases h
    have c1 := hs.num.cell
    have c3 := hs.ord.cell
    have e1 : ((h.length : Int) == (n : Int)) = false := by simp; omega
    have Hlen := Lib.hid hlen
    have Hpre := Lib.hid hpre
    have hln : h.length < n := by omega
    clear hlen hpre
    refine callsIn_of_wp Try.func126 rfl trivial ?_ rfl
    simp only [Try.ntmps126, List.size_toArray, List.length_cons, List.length_nil, Nat.reduceAdd, Nat.reduceSub, Array.replicate_succ, Array.replicate_zero, List.push_toArray, List.append_toArray, List.nil_append, List.cons_append]
    gi_wp2
    gi_loopw [14] (fun i wr => ∃ k : Nat, k ≤ n ∧ i = .int .i64 k ∧ J (pre ++ ordTo n f h k) wr ∧ OrdAt Bn lo l n h wr) (fun i _ => n - (intOf i).toNat)
    case atStart => exact ⟨0, Nat.zero_le _, rfl, by simpa [ordTo] using hj, hs⟩
    case round =>
      clear hs hj c1 c3
      obtain ⟨k, hk, rfl, hj, hs⟩ := hrel
      have c1 := hs.num.cell
      have c2 := hs.slf.cell
      have c3 := hs.ord.cell
      by_cases hkn : k < n
      · have hkn' : (k : Int) < (n : Int) := by omega
        obtain ⟨cur, hrw, hsz, htk⟩ := hs.row
        have hown : Row wr lo 3 (some ⟨lo + 1, 0, none⟩) h.length n ((h.map fun i : Nat => (i : Int)).map I) := by
          refine ⟨by simp, .inr ⟨lo + 1, n, cur, rfl, by omega, hrw, by omega, by unfold maxLen; omega, by omega, ?_⟩⟩
          rw [Nat.mul_one, htk]
          simp [NI, I]
        have hC := ContainsI_any _ _ _ _ (k : Int) wr _ hown.rd
        by_cases hmem : k ∈ h
        · have e2 : decide ((k : Int) ∈ h.map fun i : Nat => (i : Int)) = true := decide_eq_true (List.mem_map.2 ⟨k, hmem, rfl⟩)
          rw [e2] at hC
          have Hs := Lib.hid (show ordTo n f h (k + 1) = ordTo n f h k by rw [ordTo_succ, if_pos hmem, List.append_nil])
          clear e2 hmem hown
          gi_wp2_with fail
          refine ⟨trivial, hdd _, (callsIn_wide.2 hC).mono ?_⟩
          rintro e w' ⟨rfl, rfl⟩
          gi_wp2_with fail
          go_roundw
          case rel => exact ⟨k + 1, by omega, by go_num, by rw [Hs.out]; exact hj, hs⟩
          case measure => simp [intOf]; omega
        · have e2 : decide ((k : Int) ∈ h.map fun i : Nat => (i : Int)) = false := by
            rw [decide_eq_false_iff_not, List.mem_map]
            rintro ⟨a, ha, hka⟩
            exact hmem (by rwa [show a = k by omega] at ha)
          rw [e2] at hC
          have Hs := Lib.hid (show ordTo n f h (k + 1) = ordTo n f h k ++ ord n f (h ++ [k]) by rw [ordTo_succ, if_neg hmem])
          clear e2 hmem
          obtain ⟨i0, hi, hz0, hz1, hz2⟩ := info_parts Try.infoI
          gi_wp2_with fail
          refine ⟨trivial, hdd _, (callsIn_wide.2 hC).mono ?_⟩
          rintro e w' ⟨rfl, rfl⟩
          clear hC
          gi_wp2_with (gi_at_builtin; refine wpListIn_append_fits _ rfl _ _ 22 rfl lo 3 i0 1 Try.underlying22 hi hz1 (lo + 1) h.length n _ rfl (hown.alloc _) ⟨w'.heap.size, 0, none⟩ 1 1 [.int .i64 k] rfl rfl (cell_one_new _ _ _) (by simp [Value.oneCell']) (by omega) ?_; intro w2 hown2 hgrow2; have b2 := (hs.ord.alloc (.cells #[.int .i64 k] 3)).kept hgrow2 (by simp); have b3 := (hs.slf.alloc (.cells #[.int .i64 k] 3)).kept hgrow2 (by simp); have f2 := b2.frozen; have d2 := b2.cell; have d3 := b3.cell)
          obtain ⟨W5, hW5⟩ : ∃ W5, W5 = w2.setCell ⟨lo + 2, 0, none⟩ (.slice (some ⟨lo + 1, 0, none⟩) (h.length + 1) n) := ⟨_, rfl⟩
          have oth : ∀ b, b ≠ lo + 2 → W5.heap[b]? = w2.heap[b]? := fun b hb => by rw [hW5]; exact Below.heap_setCell _ _ _ _ hb
          have hs5 : OrdAt Bn lo l n (h ++ [k]) W5 := by
            refine ⟨(oth _ (by omega)).trans ((hs.num.alloc _).kept hgrow2 (by simp; omega)), (oth _ (by omega)).trans ((hs.yld.alloc _).kept hgrow2 (by simp)), ?_, ?_, (oth _ (by omega)).trans b3⟩
            · obtain ⟨_, ⟨e2, _⟩ | ⟨g2, cap2, cur2, e2, _, hh2, _, _, hz, ht2⟩⟩ := hown2
              · cases e2
              · injection e2 with e2 _ e3
                injection e2 with e2
                injection e2 with e2 _
                subst e2 e3
                refine ⟨cur2, (oth _ (by omega)).trans hh2, by omega, ?_⟩
                rw [List.length_append, List.length_singleton]
                rw [Nat.mul_one] at ht2
                rw [ht2]
                simp [NI, I]
            · have := b2.set (.slice (some ⟨lo + 1, 0, none⟩) (h.length + 1) n)
              rw [← hW5] at this
              simpa using this
          have hj5 : J (pre ++ ordTo n f h k) W5 := by
            refine hJ _ _ _ hj (((Win.alloc _ _ _ _).trans (Win.of_grown hgrow2 (fun x e => by cases e; omega))).trans ?_)
            rw [hW5]
            exact Win.setCell _ _ (by omega) (by omega)
          rw [← hW5]
          have hih := ih (d - 1) (h ++ [k]) (pre ++ ordTo n f h k) W5 hs5 hj5 (by have := Hlen.out; simp; omega) (by
            refine List.IsPrefix.trans ?_ Hpre.out
            rw [List.append_assoc, ← Hs.out]
            exact (List.prefix_append_right_inj _).2 (ord_take n f h (by omega)))
          clear b2 b3 f2 d2 d3 hown2 hgrow2 oth hs5 hj5 hW5 hown hrw hsz htk c1 c2 c3 hs hj
          refine ⟨trivial, hdd _, hih.mono ?_⟩
          clear hih
          rintro e W6 ⟨rfl, hj6, hs6⟩
          have c4 := hs6.ord.cell
          have f4 := hs6.ord.frozen
          rw [List.length_append, List.length_singleton] at c4
          gi_wp2_with fail
          go_roundw
          case rel =>
            refine ⟨k + 1, by omega, by go_num, ?_, ?_⟩
            · rw [Hs.out, ← List.append_assoc]
              exact hJ _ _ _ hj6 (Win.setCell _ _ (by omega) (by omega))
            · have oth : ∀ b, b ≠ lo + 2 → (W6.setCell ⟨lo + 2, 0, none⟩ (.slice (some ⟨lo + 1, 0, none⟩) h.length n)).heap[b]? = W6.heap[b]? := fun b hb => Below.heap_setCell _ _ _ _ hb
              obtain ⟨cur6, h61, h62, h63⟩ := hs6.row
              refine ⟨(oth _ (by omega)).trans hs6.num, (oth _ (by omega)).trans hs6.yld, ⟨cur6, (oth _ (by omega)).trans h61, h62, ?_⟩, hs6.ord.set _, (oth _ (by omega)).trans hs6.slf⟩
              have := congrArg (List.take h.length) h63
              rw [List.take_take, List.length_append, List.length_singleton, Nat.min_eq_left (by omega), List.map_append, List.take_left' (by simp)] at this
              exact this
          case measure => simp [intOf]; omega
      · obtain rfl : k = n := by omega
        have hkn' : ¬ (k : Int) < (k : Int) := by omega
        gi_wp2_with fail
        go_ret
        exact ⟨rfl, hj, hs⟩
set_option maxRecDepth 100000 in
set_option maxHeartbeats 1600000 in
theorem orders1_in (Bn l n d : Nat) (W : World) (hBn : Bn < W.heap.size) (hn6 : n ≤ 1000) (hnum : Boxed W Bn 3 (.int .i64 n)) (J : List (List Nat) → World → Prop)
    (hJ : ∀ pre A B, J pre A → Win W.heap.size (W.heap.size + 4) A B → J pre B)
    (hY : ∀ m pre x v W1, J pre W1 → (pre ++ [x]) <+: ord n n [] → W.heap.size + 4 ≤ W1.heap.size → OrdArg W.heap.size x v W1 → YieldAt Fence.wide m Try.prog l #[v] W1 fun e W' => e = .returned (.bool true) ∧ J (pre ++ [x]) W' ∧ Keeps Bn (Bn + 1) W1 W' ∧ Keeps W.heap.size (W.heap.size + 4) W1 W')
    (h0 : J [] W) :
    CallsIn Fence.wide d Try.prog 125 #[.func (.yield l) #[] #[], .pointer (some ⟨Bn, 0, none⟩)] W fun e W' => (∃ v, e = .returned v) ∧ J (ord n n []) W' := by
  have ef := enters_of Try.func126 (by kernel_rfl) rfl
  have hdd : ∀ k : Nat, (Fence.wide.depth.isSome = true → 1 ≤ k) := fun k h => by cases h
  obtain ⟨i0, hi, hz0, hz1, hz2⟩ := info_parts Try.infoI
  have c1 := hnum.cell
  have c1a := fun o => (hnum.alloc o).cell
  refine callsIn_of_wp Try.func125 rfl trivial ?_ rfl
  simp only [Try.ntmps125, List.size_toArray, List.length_cons, List.length_nil, Nat.reduceAdd, Nat.reduceSub, Array.replicate_succ, Array.replicate_zero, List.push_toArray, List.append_toArray, List.nil_append, List.cons_append]
  have hmk : ∀ w : World, (Instr.makeSlice 22 (.int .i64 0) (.int .i64 (n : Int))).run Try.prog w = .ok (.slice (some ⟨w.heap.size, 0, none⟩) 0 n) (w.alloc (.cells (madeCells (Value.int .i64 0).cells n) 3)) := fun w => by
    have := run_make (P := Try.prog) w 22 3 i0 (.int .i64 0) Try.underlying22 hi hz0 .i64 .i64 0 n (by omega) (by omega) (by rw [hz2]; omega) (by omega)
    rw [hz1] at this
    simpa using this
  obtain ⟨W4, hW4⟩ : ∃ W4, W4 = ((((W.alloc (.cells #[.func (.yield l) #[] #[]] 30)).alloc (.cells (madeCells #[.int .i64 0] n) 3)).alloc (.cells #[.slice (some ⟨W.heap.size + 1, 0, none⟩) 0 n] 22)).alloc (.cells #[.func (.func 126) #[] #[.pointer (some ⟨W.heap.size + 1 + 1, 0, none⟩), .pointer (some ⟨Bn, 0, none⟩), .pointer (some ⟨W.heap.size, 0, none⟩), .pointer (some ⟨W.heap.size + 1 + 1 + 1, 0, none⟩)]] 105)) := ⟨_, rfl⟩
  have hs4 : OrdAt Bn W.heap.size l n [] W4 := by
    rw [hW4]
    refine ⟨(((hnum.alloc _).alloc _).alloc _).alloc _, (((Boxed.new W _ _).alloc _).alloc _).alloc _, ⟨madeCells #[.int .i64 0] n, ?_, ?_, rfl⟩, ?_, ?_⟩
    · rw [heap_al, if_neg (by simp), heap_al, if_neg (by simp), heap_al, if_pos (by simp)]
    · simp [madeCells]
    · have := (Boxed.new ((W.alloc (.cells #[.func (.yield l) #[] #[]] 30)).alloc (.cells (madeCells #[.int .i64 0] n) 3)) 22 (.slice (some ⟨W.heap.size + 1, 0, none⟩) 0 n)).alloc (.cells #[.func (.func 126) #[] #[.pointer (some ⟨W.heap.size + 1 + 1, 0, none⟩), .pointer (some ⟨Bn, 0, none⟩), .pointer (some ⟨W.heap.size, 0, none⟩), .pointer (some ⟨W.heap.size + 1 + 1 + 1, 0, none⟩)]] 105)
      simpa using this
    · have := Boxed.new (((W.alloc (.cells #[.func (.yield l) #[] #[]] 30)).alloc (.cells (madeCells #[.int .i64 0] n) 3)).alloc (.cells #[.slice (some ⟨W.heap.size + 1, 0, none⟩) 0 n] 22)) 105 (.func (.func 126) #[] #[.pointer (some ⟨W.heap.size + 2, 0, none⟩), .pointer (some ⟨Bn, 0, none⟩), .pointer (some ⟨W.heap.size, 0, none⟩), .pointer (some ⟨W.heap.size + 3, 0, none⟩)])
      simpa using this
  have hj4 : J [] W4 := hJ _ _ _ h0 (by rw [hW4]; exact (((Win.alloc _ _ _ _).trans (Win.alloc _ _ _ _)).trans (Win.alloc _ _ _ _)).trans (Win.alloc _ _ _ _))
  have hF := from_in Bn W.heap.size l n hBn hn6 J (ord n n []) hJ hY n (d - 1) [] [] W4 hs4 hj4 (by simp) (by simp)
  have qb : ∀ (o1 o2 o3 : Obj) (v : Value), Boxed ((((W.alloc o1).alloc o2).alloc o3).alloc (.cells #[v] 105)) (W.heap.size + 1 + 1 + 1) 105 v := fun o1 o2 o3 v => by
    have := Boxed.new (((W.alloc o1).alloc o2).alloc o3) 105 v
    simpa using this
  have q3c := fun o1 o2 o3 v => (qb o1 o2 o3 v).cell
  have q3f := fun o1 o2 o3 v => (qb o1 o2 o3 v).frozen
  have qa : ∀ (o1 o2 : Obj) (v : Value), Boxed (((W.alloc o1).alloc o2).alloc (.cells #[v] 22)) (W.heap.size + 1 + 1) 22 v := fun o1 o2 v => by
    have := Boxed.new ((W.alloc o1).alloc o2) 22 v
    simpa using this
  have q2c := fun o1 o2 v => (qa o1 o2 v).cell
  have q2f := fun o1 o2 v => (qa o1 o2 v).frozen
  have HW := Lib.hid hW4
  clear qb qa hs4 hj4 hW4 hY hJ h0
  gi_wp2
  rw [← HW.out]
  refine ⟨trivial, hdd _, hF.mono ?_⟩
  rintro e W6 ⟨rfl, hj6, _⟩
  rw [List.nil_append] at hj6
  gi_wp2
  go_end0
  exact ⟨⟨_, rfl⟩, hj6⟩
theorem orders_any (n : Nat) (w : World) :
    Calls Try.prog 103 #[.int .i64 n] w fun e w' => e = .returned (.func (.func 125) #[] #[.pointer (some ⟨w.heap.size, 0, none⟩)]) ∧ w' = w.alloc (.cells #[.int .i64 n] 3) := by
  go_enter Try.func103, Try.ntmps103
  go_wp2_with fail
  go_ret
  exact ⟨rfl, rfl⟩
theorem ord_len {m : Nat} {pre : List (List Nat)} {x : List Nat} (h : (pre ++ [x]) <+: ord m m []) : x.Perm (List.range m) := (mem_orders m x).1 (h.subset (by simp))
/-- A range over all orders, whose rounds all end normally. -/
theorem wpIn_orders {n : Nat} {g : Operand} {p : Nat} (q : Nat) {assign body : Code} {Q : Exit → Act → World → Prop} {a : Act} {w : World} (h1 : 1 ≤ n) (m Bn : Nat) (hm : m ≤ 1000) (hBn : Boxed w Bn 3 (.int .i64 m))
    (hg : a.eval g = .func (.func 125) #[] #[.pointer (some ⟨Bn, 0, none⟩)])
    (I : List (List Nat) → World → Prop) (hI : ∀ pre A B, I pre A → Win w.heap.size (w.heap.size + 6) A B → I pre B) (h0 : I [] w)
    (hassign : ∀ (l : Nat) (v : Value) (W : World) (K : Act → World → Prop), K (setTwo a.tmps p q v) W →
      assign.wpIn (Fence.wide.inRound l) (n - 1 - 1) Try.prog (Exit.then K (fun _ _ _ => False)) { tmps := a.tmps.setIfInBounds p v, defers := [] } W)
    (hbody : ∀ (l : Nat) (pre : List (List Nat)) (x : List Nat) (v : Value) (W : World), I pre W → x.Perm (List.range m) → w.heap.size + 6 ≤ W.heap.size → OrdArg (w.heap.size + 2) x v W →
      body.wpIn (Fence.wide.inRound l) (n - 1 - 1) Try.prog (roundOk Bn (w.heap.size + 6) I (pre ++ [x]) W) (setTwo a.tmps p q v) W)
    (hdone : ∀ (W : World), I (ord m m []) W → W.heap[w.heap.size]? = some (.deferred (some [])) → Q .normal { a with defers := { target := .collected w.heap.size, args := #[] } :: a.defers } W) :
    (Code.rangeFunc g #[p] assign body).wpIn Fence.wide n Try.prog Q a w := by
  have hlt := hBn.lt
  refine wpIn_range_win1 q rfl h1 hg trivial (enters_of Try.func125 (by kernel_rfl) rfl) Bn 4 (by omega) (OrdArg (w.heap.size + 2)) (ord m m []) ?_ (fun x v A B h hk _ => h.keeps hk) I hI h0 hassign ?_ hdone
  · intro l J W hs hb hJ hY hj0
    have hn : Boxed W Bn 3 (.int .i64 m) := (hb.block _ hlt).trans hBn
    refine orders1_in Bn l m (n - 1) W (by omega) hm hn J ?_ ?_ hj0
    · rw [hs]
      exact hJ
    · intro k pre x v W1 hj hp hz hat
      rw [hs] at hz hat
      refine (yield_any rfl k (hY pre x v W1 hj hp hz hat)).mono ?_
      rintro e W' ⟨he, hj', hk1, hk2⟩
      rw [hs]
      exact ⟨he, hj', ⟨hk1.size, fun b h1 h2 h3 => hk1.same b h1 (by omega) h3⟩, hk2⟩
  · intro l pre x v W hi hp hz hat
    exact hbody l pre x v W hi (ord_len hp) hz hat
end Go.Proofs.Ytopmifidhabobaa
