/-
  The reference's texts that windows make: the walk of textsFrom.
-/
import Derived.Test.YtfbmcfdmffpfmaaTxtS
import Derived.Test.YtfbmcfdmffpfmaaPut
namespace Go.Proofs.Ytfbmcfdmffpfmaa
open Go.RowKit
set_option linter.unusedVariables false
set_option linter.unusedSimpArgs false

/-- A row of the call's own lies from its block's begin. -/
def Front (A : Option Addr) (n : Nat) : Prop := 0 < n → ∃ g, A = some ⟨g, 0, none⟩
theorem Row.front {w : World} {B : Nat} {e : TypeId} {A : Option Addr} {n c : Nat} {xs : List Value} (h : Row w B e A n c xs) : Front A n := by
  intro hn
  obtain ⟨g, cur, hA, _⟩ := Row.blk (g := 0) h hn
  exact ⟨g, hA⟩
theorem Own.front {w : World} {B : Nat} {e : TypeId} {A : Option Addr} {n c : Nat} {xs : List Value} (h : Own w B e A n c xs) : Front A n := by
  intro hn
  obtain ⟨g, _, hA, _⟩ := h.2.2.2 hn
  exact ⟨g, hA⟩
theorem fold_insT_len (M : List (List UInt8)) : ∀ L : List (List UInt8), (M.foldl insT L).length ≤ L.length + M.length := by
  induction M with
  | nil => intro L; simp
  | cons x M ih =>
    intro L
    have h1 := ih (insT L x)
    have h2 := insT_len_le L x
    rw [List.foldl_cons, List.length_cons]
    omega
theorem txsTo_mono {k f : Nat} {s : List UInt8} {left : List (List UInt8)} {i j : Nat} (h : i ≤ j) : (txsTo k f s left i).length ≤ (txsTo k f s left j).length := by
  induction j with
  | zero => rw [show i = 0 by omega]; exact Nat.le_refl _
  | succ j ih =>
    rcases Nat.lt_or_ge i (j + 1) with h1 | h1
    · have := ih (by omega)
      rw [txsTo_succ, List.length_append]
      omega
    · rw [show i = j + 1 by omega]; exact Nat.le_refl _
theorem getDs {L : List (List UInt8)} {i : Nat} {x : List UInt8} (h : L[i]? = some x) : L.getD i [] = x := by rw [List.getD_eq_getElem?_getD, h]; rfl
theorem tx_go {k f : Nat} {s x : List UInt8} {left : List (List UInt8)} {i : Nat} (hx : left[i]? = some x) (hg : goesT k s left i = true) : txsTo k f s left (i + 1) = txsTo k f s left i ++ txs k f (nxtT k s x) (left.eraseIdx i) := by
  rw [txsTo_succ, if_pos hg, getDs hx]
theorem tx_skip {k f : Nat} {s : List UInt8} {left : List (List UInt8)} {i : Nat} (hg : goesT k s left i = false) : txsTo k f s left (i + 1) = txsTo k f s left i := by
  rw [txsTo_succ, hg]
  simp
theorem goes0 {k : Nat} {s x : List UInt8} {left : List (List UInt8)} {i : Nat} (hx : left[i]? = some x) (hi : i = 0) {b : Bool} (hb : (decide (s = []) || decide (s.drop (s.length + 1 - k) = x.take (k - 1))) = b) : goesT k s left i = b := by
  unfold goesT
  rw [getDs hx, hb, hi]
  simp
theorem goes1 {k : Nat} {s x y : List UInt8} {left : List (List UInt8)} {i m : Nat} (hx : left[i]? = some x) (hy : left[m]? = some y) (hm : m + 1 = i) (hne : x ≠ y) {b : Bool} (hb : (decide (s = []) || decide (s.drop (s.length + 1 - k) = x.take (k - 1))) = b) : goesT k s left i = b := by
  subst hm
  unfold goesT
  rw [show m + 1 - 1 = m by omega, getDs hx, getDs hy, hb, decide_eq_false hne]
  simp
theorem goes2 {k : Nat} {s x y : List UInt8} {left : List (List UInt8)} {i m : Nat} (hx : left[i]? = some x) (hy : left[m]? = some y) (hm : m + 1 = i) (hne : x = y) : goesT k s left i = false := by
  subst hm
  unfold goesT
  rw [show m + 1 - 1 = m by omega, getDs hx, getDs hy, decide_eq_true hne]
  simp
theorem sub_bound {k f : Nat} {s : List UInt8} {left L : List (List UInt8)} {i : Nat} {x : List UInt8} (hL : L.length + (txs k (f + 1) s left).length ≤ 1000000) (hi : i < left.length) (hst : txsTo k f s left (i + 1) = txsTo k f s left i ++ txs k f (nxtT k s x) (left.eraseIdx i)) : ((txsTo k f s left i).foldl insT L).length + (txs k f (nxtT k s x) (left.eraseIdx i)).length ≤ 1000000 := by
  have h1 := fold_insT_len (txsTo k f s left i) L
  have h2 := txsTo_mono (k := k) (f := f) (s := s) (left := left) (show i + 1 ≤ left.length by omega)
  rw [hst, List.length_append] at h2
  rw [txs_succ] at hL
  omega
theorem nxt_len {k : Nat} {s x : List UInt8} (hk : 1 ≤ k) (hx : x.length = k) (hs : s ≠ [] → k ≤ s.length) : k ≤ (nxtT k s x).length ∧ (nxtT k s x).length ≤ max k (s.length + 1) := by
  unfold nxtT
  by_cases h : s = []
  · rw [if_pos h]
    omega
  · have := hs h
    rw [if_neg h, List.length_append, List.length_drop]
    omega
theorem erase_S (left : List (List UInt8)) (i : Nat) : (left.eraseIdx i).map S = (left.map S).take i ++ (left.map S).drop (i + 1) := by
  rw [List.eraseIdx_eq_take_drop_succ, List.map_append, List.map_take, List.map_drop]
theorem tail_nat {p : Nat} : (((p : Int) + 1).toNat) = p + 1 := by omega
def TextsOk (k f : Nat) : Prop := ∀ (s : List UInt8) (A : Option Addr) (n c : Nat) (left : List (List UInt8)) (g no co : Nat) (L : List (List UInt8)) (B : Nat) (w : World),
  Rd w w.heap.size A n c (left.map S) → Front A n → Row w B 9 (some ⟨g, 0, none⟩) no co (L.map S) → B ≤ w.heap.size → left.length = f → (∀ x ∈ left, x.length = k) → (s ≠ [] → k ≤ s.length) → s.length + f ≤ 100 → L.length + (txs k f s left).length ≤ 1000000 →
  Calls Try.prog 78 #[.string ⟨s.toArray⟩, .slice A n c, .slice (some ⟨g, 0, none⟩) no co] w (RetOwn w B (((txs k f s left).foldl insT L).map S))
set_option maxRecDepth 8000 in
set_option maxHeartbeats 25600000 in
theorem textsFrom_any (k : Nat) (hk : 1 ≤ k) (hk6 : k ≤ 6) (f : Nat) (hf : f ≤ 8) : TextsOk k f := by
  induction f with
  | zero =>
    intro s A n c left g no co L B w hr hA hrow hB hlen hx hs hsl hL
    obtain rfl := List.eq_nil_of_length_eq_zero hlen
    obtain rfl : n = 0 := by have := hr.slen; simpa using this.symm
    have hn := hrow.len
    rw [List.length_map] at hn
    have hI := Lib.hid (insertText_any g no co L s w B hrow (by omega) hB)
    go_enter Try.func78, Try.ntmps78
    go_wp2_with fail
    refine hI.out.mono ?_
    rintro e w2 ⟨g2, n2, c2, rfl, hrow2, hb2⟩
    go_wp2_with fail
    go_ret
    exact ⟨g2, n2, c2, rfl, hrow2, hb2⟩
  | succ f ih =>
    intro s A n c left g no co L B w hr hA hrow hB hlen hx hs hsl hL
    have Ih := Lib.hid (ih (by omega))
    clear ih
    have hnl : n = f + 1 := by have := hr.slen; omega
    obtain ⟨gl, rfl⟩ := hA (by omega)
    obtain ⟨x0, hx0, hc0⟩ := hr.str_at (show 0 < n by omega)
    rw [Nat.zero_add] at hc0
    have hxk0 : x0.length = k := hx x0 (List.mem_of_getElem? hx0)
    have Hxk := Lib.hid hx
    have HL := Lib.hid hL
    have Hlen := Lib.hid hlen
    have Hnl := Lib.hid hnl
    have Hr := Lib.hid hr
    have Hs := Lib.hid hs
    have n0 : (0 : Int) < (n : Int) := by omega
    have n1 : ((n : Int) == 0) = false := by simp; omega
    have hm := hr.2.2.1
    have hnc := hr.2.1
    unfold maxLen at hm
    obtain ⟨i0, hi, hz0, hz1, hz2⟩ := info_parts Try.infoXs
    obtain ⟨q, hq⟩ : ∃ q, q + 1 = k := ⟨k - 1, by omega⟩
    have e7 : IntKind.i64.wrap ((k : Int) - 1) = (q : Int) := by rw [IntKind.wrap_i64]; omega
    have e8 : (k : Int) - 1 = (q : Int) := by omega
    have b7 : (q : Int) ≤ (k : Int) := by omega
    have b8 : (0 : Int) ≤ (q : Int) := by omega
    have b9 : q ≤ k := by omega
    have Hq := Lib.hid hq
    clear hx hx0 hL hlen hr hq hs
    have hn8 : n ≤ 8 := by omega
    clear hnl
    go_enter Try.func78, Try.ntmps78
    go_wp2_with fail
    clear hc0 hxk0
    go_loopw [2, 8] (fun v i wr => ∃ (j g' n' c' : Nat), j ≤ n ∧ i = .int .i64 j ∧ v = .slice (some ⟨g', 0, none⟩) n' c' ∧ Row wr B 9 (some ⟨g', 0, none⟩) n' c' (((txsTo k f s left j).foldl insT L).map S) ∧ Below w.heap.size w wr) (fun _ i _ => n - (intOf i).toNat)
    case atStart => exact ⟨0, g, no, co, Nat.zero_le _, rfl, rfl, by simpa [txsTo] using hrow, Below.refl _ _⟩
    case round =>
      obtain ⟨i, g', n', c', hi8, rfl, rfl, hrowr, hbw⟩ := hrel
      clear hrow
      have hsz := hbw.size
      by_cases hlt : i < n
      · obtain ⟨x, hx, hcx⟩ := (Hr.out.below hbw).str_at hlt
        rw [Nat.zero_add] at hcx
        have hxk := Hxk.out x (List.mem_of_getElem? hx)
        have h0 : (i : Int) < (n : Int) := by omega
        have h00 : (0 : Int) ≤ (i : Int) := by omega
        have hi9 : i ≤ n := by omega
        have hbl : gl < w.heap.size := by
          obtain ⟨b, o, e, hb, _⟩ := Hr.out.2.2.2 (by omega)
          injection e with e
          injection e with e1 e2
          omega
        by_cases hsn : s = []
        · subst hsn
          rcases Nat.eq_zero_or_pos i with hi0 | hi0
          · have hd0 : decide (0 < i) = false := by simp [hi0]
            have hd1 : decide ((0 : Int) < (i : Int)) = false := by simp [hi0]
            have Hg := Lib.hid (goes0 (k := k) (s := ([] : List UInt8)) hx hi0 (show (decide (([] : List UInt8) = []) || decide (([] : List UInt8).drop (([] : List UInt8).length + 1 - k) = x.take (k - 1))) = true from rfl))
            have Hx := Lib.hid hx
            clear hx hi0
            have Hst := Lib.hid (tx_go (f := f) Hx.out Hg.out)
            have Hsub := Lib.hid (sub_bound HL.out (show i < left.length by rw [Hlen.out, ← Hnl.out]; exact hlt) Hst.out)
            have Hnx := Lib.hid (nxt_len (s := ([] : List UInt8)) hk hxk Hs.out)
            go_wp2_with fail
            go_quiet (fail)
            go_wp2_with fail
            obtain ⟨w0, hw0⟩ : ∃ w0, w0 = wr.drewN nq := ⟨_, rfl⟩
            have hb0 : Below w.heap.size w w0 := by rw [hw0]; exact bel_drewN hbw _
            have hrow0 : Row w0 B 9 (some ⟨g', 0, none⟩) n' c' (((txsTo k f ([] : List UInt8) left i).foldl insT L).map S) := by rw [hw0]; exact hrowr
            have hcx0 : w0.cell? ⟨gl, i, none⟩ = some (.string ⟨x.toArray⟩) := by rw [hw0]; exact hcx
            have hsz0 := hb0.size
            have hrd0 : Rd w0 w0.heap.size (some ⟨gl, 0, none⟩) n c (left.map S) := (Hr.out.below hb0).more hsz0
            have hlen0 : (left.map S).length = n := hrd0.1
            have Hb0 := Lib.hid hb0
            rw [← hw0]
            have hB0 : B ≤ w0.heap.size := by omega
            obtain ⟨r, hr1⟩ : ∃ r, r = i + 1 := ⟨_, rfl⟩
            have e9 : IntKind.i64.wrap ((i : Int) + 1) = (r : Int) := by rw [IntKind.wrap_i64]; omega
            have e10 : (i : Int) + 1 = (r : Int) := by omega
            have e11 : IntKind.i64.wrap (r : Int) = (r : Int) := by rw [IntKind.wrap_i64]; omega
            have hc1 : (r : Int) ≤ (n : Int) := by omega
            have hc2 : (r : Int) ≤ (c : Int) := by omega
            have hc3 : (0 : Int) ≤ (r : Int) := by omega
            have hc5 : r ≤ n := by omega
            have hrf : i + (n - r) = f := by have := Hnl.out; omega
            have Hr1 := Lib.hid hr1
            clear hr1
            have hc4 : (i : Int) ≤ (c : Int) := by omega
            clear hw0 hbw hrowr hcx hb0
            go_region_held3 (fun w' => Below w0.heap.size w0 w')
              ((focus (repeat (first | exact Below.refl _ _ | assumption | refine kp_grown ?_ (Nat.le_refl _) hgrow1 (own_ge (Nat.le_refl _)) | refine kp_grown ?_ (Nat.le_refl _) hgrow1 (own_ge (Nat.le_add_right _ _)) | refine kp_grown ?_ (Nat.le_refl _) hgrow2 (row_ge hrow1) | refine kp_alloc _ ?_ (Nat.le_refl _) | apply Below.drew))))
              (first
               | (refine step_app _ (by rfl) _ _ _ (by rfl) w0.heap.size 9 i0 _ 16 Try.underlying24 hi hz0 hz1 hz2 rfl _ 0 0 [] (by rfl) ?_ _ i _ ((left.map S).take i) (by rfl) (len_front hlen0 hi9) (rd_front hrd0 ?_) (one_front _ _ (oneS _)) i ?_ ?_ ?_ ?_ ?_
                  first | exact Row.of_block #[] 0 (heap_al0 _ _) (Nat.le_refl _) rfl (Nat.zero_le _) | exact Row.of_block #[] 0 (heap_al1 _ _ _) (Nat.le_refl _) rfl (Nat.zero_le _) | exact Row.of_block #[] 0 (heap_al2 _ _ _) (Nat.le_add_right _ _) rfl (Nat.zero_le _)
                  (focus (repeat (first | exact Below.refl _ _ | assumption | refine kp_grown ?_ (Nat.le_refl _) hgrow1 (own_ge (Nat.le_refl _)) | refine kp_grown ?_ (Nat.le_refl _) hgrow1 (own_ge (Nat.le_add_right _ _)) | refine kp_grown ?_ (Nat.le_refl _) hgrow2 (row_ge hrow1) | refine kp_alloc _ ?_ (Nat.le_refl _) | apply Below.drew)))
                  omega
                  omega
                  omega
                  (refine kp_size (N := w0.heap.size) ?_; focus (repeat (first | exact Below.refl _ _ | assumption | refine kp_grown ?_ (Nat.le_refl _) hgrow1 (own_ge (Nat.le_refl _)) | refine kp_grown ?_ (Nat.le_refl _) hgrow1 (own_ge (Nat.le_add_right _ _)) | refine kp_grown ?_ (Nat.le_refl _) hgrow2 (row_ge hrow1) | refine kp_alloc _ ?_ (Nat.le_refl _) | apply Below.drew)))
                  intro A1 c1 w1 hrow1 hgrow1)
               | (refine step_app _ (by rfl) _ _ _ (by rfl) w0.heap.size 9 i0 _ 16 Try.underlying24 hi hz0 hz1 hz2 rfl A1 _ c1 _ ?_ hrow1 (if c = r then ⟨gl, 0, none⟩ else ⟨gl, r, none⟩) (n - r) (c - r) ((left.map S).drop r) ?_ (len_back hlen0) (rd_back2 hrd0 ?_) (one_back _ _ (oneS _)) f ?_ ?_ ?_ ?_ ?_
                  rfl
                  exact slice_if
                  (focus (repeat (first | exact Below.refl _ _ | assumption | refine kp_grown ?_ (Nat.le_refl _) hgrow1 (own_ge (Nat.le_refl _)) | refine kp_grown ?_ (Nat.le_refl _) hgrow1 (own_ge (Nat.le_add_right _ _)) | refine kp_grown ?_ (Nat.le_refl _) hgrow2 (row_ge hrow1) | refine kp_alloc _ ?_ (Nat.le_refl _) | apply Below.drew)))
                  omega
                  omega
                  omega
                  (refine kp_size (N := w0.heap.size) ?_; focus (repeat (first | exact Below.refl _ _ | assumption | refine kp_grown ?_ (Nat.le_refl _) hgrow1 (own_ge (Nat.le_refl _)) | refine kp_grown ?_ (Nat.le_refl _) hgrow1 (own_ge (Nat.le_add_right _ _)) | refine kp_grown ?_ (Nat.le_refl _) hgrow2 (row_ge hrow1) | refine kp_alloc _ ?_ (Nat.le_refl _) | apply Below.drew)))
                  intro A2 c2 w2 hrow2 hgrow2))
            have hB2 : Below w0.heap.size w0 w2 := by focus (repeat (first | exact Below.refl _ _ | assumption | refine kp_grown ?_ (Nat.le_refl _) hgrow1 (own_ge (Nat.le_refl _)) | refine kp_grown ?_ (Nat.le_refl _) hgrow1 (own_ge (Nat.le_add_right _ _)) | refine kp_grown ?_ (Nat.le_refl _) hgrow2 (row_ge hrow1) | refine kp_alloc _ ?_ (Nat.le_refl _) | apply Below.drew))
            have hs2 := hB2.size
            have hrow2' : Row w2 w0.heap.size 9 A2 f c2 ((left.eraseIdx i).map S) := by rw [erase_S, ← Hr1.out]; exact hrow2
            have hcx2 := (hB2.cell (p := ⟨gl, i, none⟩) (by show gl < _; omega)).trans hcx0
            have hrowL := hrow0.kept hB2
            have hI := Lib.hid (Ih.out (nxtT k ([] : List UInt8) x) A2 f c2 (left.eraseIdx i) g' n' c' _ B w2 hrow2'.rd hrow2'.front hrowL (by omega) (by rw [List.length_eraseIdx_of_lt (by rw [Hlen.out]; omega), Hlen.out]; rfl) (fun z hz => Hxk.out z (List.mem_of_mem_eraseIdx hz)) (fun _ => Hnx.out.1) (by have := Hnx.out.2; omega) Hsub.out)
            have hb2w : Below w.heap.size w w2 := Hb0.out.trans (hB2.mono hsz0)
            clear hB2 hgrow1 hgrow2 hrow1 hrow2 hrow2' hrowL hcx0 hrow0 hrd0
            clear e9 e10 e11
            generalize (if c = r then (some ⟨gl, 0, none⟩ : Option Addr) else some ⟨gl, r, none⟩) = V
            go_wp2_with fail
            rw [show nxtT k ([] : List UInt8) x = x from rfl] at hI
            refine hI.out.mono ?_
            rintro e w3 ⟨g3, n3, c3, rfl, hrow3, hb3⟩
            have hb3w : Below w.heap.size w w3 := hb2w.trans (hb3.mono (by omega))
            clear hcx2
            go_wp2_with fail
            go_roundw
            case rel => exact ⟨i + 1, g3, n3, c3, by omega, by go_num, rfl, by rw [Hst.out, List.foldl_append]; exact hrow3, hb3w⟩
            case measure => simp [intOf]; omega
          · obtain ⟨m, hm1⟩ : ∃ m, m + 1 = i := ⟨i - 1, by omega⟩
            obtain ⟨y, hy, hcy⟩ := (Hr.out.below hbw).str_at (show m < n by omega)
            rw [Nat.zero_add] at hcy
            have hd0 : decide (0 < i) = true := by simp [hi0]
            have hd1 : decide ((0 : Int) < (i : Int)) = true := by simp [hi0]
            have e1 : IntKind.i64.wrap ((i : Int) - 1) = (m : Int) := by rw [IntKind.wrap_i64]; omega
            have e2 : (i : Int) - 1 = (m : Int) := by omega
            have b1 : (m : Int) < (n : Int) := by omega
            have b0 : (0 : Int) ≤ (m : Int) := by omega
            by_cases hxy : x = y
            · have hee : (x == y) = true := by simp [hxy]
              have Hg := Lib.hid (goes2 (k := k) (s := ([] : List UInt8)) hx hy hm1 hxy)
              have Hx := Lib.hid hx
              clear hx hy hm1 hi0 hxy
              have Hst := Lib.hid (tx_skip (f := f) Hg.out)
              go_wp2_with fail
              go_quiet (fail)
              have hbq : Below w.heap.size w (wr.drewN nq) := bel_drewN hbw _
              have hrowq : Row (wr.drewN nq) B 9 (some ⟨g', 0, none⟩) n' c' (((txsTo k f ([] : List UInt8) left i).foldl insT L).map S) := hrowr
              go_wp2_with fail
              go_roundw
              case rel => exact ⟨i + 1, g', n', c', by omega, by go_num, rfl, by rw [Hst.out]; exact hrowq, hbq⟩
              case measure => simp [intOf]; omega
            · have hee : (x == y) = false := by simp [hxy]
              have Hg := Lib.hid (goes1 (k := k) (s := ([] : List UInt8)) hx hy hm1 hxy (show (decide (([] : List UInt8) = []) || decide (([] : List UInt8).drop (([] : List UInt8).length + 1 - k) = x.take (k - 1))) = true from rfl))
              have Hx := Lib.hid hx
              clear hx hy hm1 hi0 hxy
              have Hst := Lib.hid (tx_go (f := f) Hx.out Hg.out)
              have Hsub := Lib.hid (sub_bound HL.out (show i < left.length by rw [Hlen.out, ← Hnl.out]; exact hlt) Hst.out)
              have Hnx := Lib.hid (nxt_len (s := ([] : List UInt8)) hk hxk Hs.out)
              go_wp2_with fail
              go_quiet (fail)
              go_wp2_with fail
              obtain ⟨w0, hw0⟩ : ∃ w0, w0 = wr.drewN nq := ⟨_, rfl⟩
              have hb0 : Below w.heap.size w w0 := by rw [hw0]; exact bel_drewN hbw _
              have hrow0 : Row w0 B 9 (some ⟨g', 0, none⟩) n' c' (((txsTo k f ([] : List UInt8) left i).foldl insT L).map S) := by rw [hw0]; exact hrowr
              have hcx0 : w0.cell? ⟨gl, i, none⟩ = some (.string ⟨x.toArray⟩) := by rw [hw0]; exact hcx
              have hsz0 := hb0.size
              have hrd0 : Rd w0 w0.heap.size (some ⟨gl, 0, none⟩) n c (left.map S) := (Hr.out.below hb0).more hsz0
              have hlen0 : (left.map S).length = n := hrd0.1
              have Hb0 := Lib.hid hb0
              rw [← hw0]
              have hB0 : B ≤ w0.heap.size := by omega
              obtain ⟨r, hr1⟩ : ∃ r, r = i + 1 := ⟨_, rfl⟩
              have e9 : IntKind.i64.wrap ((i : Int) + 1) = (r : Int) := by rw [IntKind.wrap_i64]; omega
              have e10 : (i : Int) + 1 = (r : Int) := by omega
              have e11 : IntKind.i64.wrap (r : Int) = (r : Int) := by rw [IntKind.wrap_i64]; omega
              have hc1 : (r : Int) ≤ (n : Int) := by omega
              have hc2 : (r : Int) ≤ (c : Int) := by omega
              have hc3 : (0 : Int) ≤ (r : Int) := by omega
              have hc5 : r ≤ n := by omega
              have hrf : i + (n - r) = f := by have := Hnl.out; omega
              have Hr1 := Lib.hid hr1
              clear hr1
              have hc4 : (i : Int) ≤ (c : Int) := by omega
              clear hw0 hbw hrowr hcx hb0
              go_region_held3 (fun w' => Below w0.heap.size w0 w')
                ((focus (repeat (first | exact Below.refl _ _ | assumption | refine kp_grown ?_ (Nat.le_refl _) hgrow1 (own_ge (Nat.le_refl _)) | refine kp_grown ?_ (Nat.le_refl _) hgrow1 (own_ge (Nat.le_add_right _ _)) | refine kp_grown ?_ (Nat.le_refl _) hgrow2 (row_ge hrow1) | refine kp_alloc _ ?_ (Nat.le_refl _) | apply Below.drew))))
                (first
                 | (refine step_app _ (by rfl) _ _ _ (by rfl) w0.heap.size 9 i0 _ 16 Try.underlying24 hi hz0 hz1 hz2 rfl _ 0 0 [] (by rfl) ?_ _ i _ ((left.map S).take i) (by rfl) (len_front hlen0 hi9) (rd_front hrd0 ?_) (one_front _ _ (oneS _)) i ?_ ?_ ?_ ?_ ?_
                    first | exact Row.of_block #[] 0 (heap_al0 _ _) (Nat.le_refl _) rfl (Nat.zero_le _) | exact Row.of_block #[] 0 (heap_al1 _ _ _) (Nat.le_refl _) rfl (Nat.zero_le _) | exact Row.of_block #[] 0 (heap_al2 _ _ _) (Nat.le_add_right _ _) rfl (Nat.zero_le _)
                    (focus (repeat (first | exact Below.refl _ _ | assumption | refine kp_grown ?_ (Nat.le_refl _) hgrow1 (own_ge (Nat.le_refl _)) | refine kp_grown ?_ (Nat.le_refl _) hgrow1 (own_ge (Nat.le_add_right _ _)) | refine kp_grown ?_ (Nat.le_refl _) hgrow2 (row_ge hrow1) | refine kp_alloc _ ?_ (Nat.le_refl _) | apply Below.drew)))
                    omega
                    omega
                    omega
                    (refine kp_size (N := w0.heap.size) ?_; focus (repeat (first | exact Below.refl _ _ | assumption | refine kp_grown ?_ (Nat.le_refl _) hgrow1 (own_ge (Nat.le_refl _)) | refine kp_grown ?_ (Nat.le_refl _) hgrow1 (own_ge (Nat.le_add_right _ _)) | refine kp_grown ?_ (Nat.le_refl _) hgrow2 (row_ge hrow1) | refine kp_alloc _ ?_ (Nat.le_refl _) | apply Below.drew)))
                    intro A1 c1 w1 hrow1 hgrow1)
                 | (refine step_app _ (by rfl) _ _ _ (by rfl) w0.heap.size 9 i0 _ 16 Try.underlying24 hi hz0 hz1 hz2 rfl A1 _ c1 _ ?_ hrow1 (if c = r then ⟨gl, 0, none⟩ else ⟨gl, r, none⟩) (n - r) (c - r) ((left.map S).drop r) ?_ (len_back hlen0) (rd_back2 hrd0 ?_) (one_back _ _ (oneS _)) f ?_ ?_ ?_ ?_ ?_
                    rfl
                    exact slice_if
                    (focus (repeat (first | exact Below.refl _ _ | assumption | refine kp_grown ?_ (Nat.le_refl _) hgrow1 (own_ge (Nat.le_refl _)) | refine kp_grown ?_ (Nat.le_refl _) hgrow1 (own_ge (Nat.le_add_right _ _)) | refine kp_grown ?_ (Nat.le_refl _) hgrow2 (row_ge hrow1) | refine kp_alloc _ ?_ (Nat.le_refl _) | apply Below.drew)))
                    omega
                    omega
                    omega
                    (refine kp_size (N := w0.heap.size) ?_; focus (repeat (first | exact Below.refl _ _ | assumption | refine kp_grown ?_ (Nat.le_refl _) hgrow1 (own_ge (Nat.le_refl _)) | refine kp_grown ?_ (Nat.le_refl _) hgrow1 (own_ge (Nat.le_add_right _ _)) | refine kp_grown ?_ (Nat.le_refl _) hgrow2 (row_ge hrow1) | refine kp_alloc _ ?_ (Nat.le_refl _) | apply Below.drew)))
                    intro A2 c2 w2 hrow2 hgrow2))
              have hB2 : Below w0.heap.size w0 w2 := by focus (repeat (first | exact Below.refl _ _ | assumption | refine kp_grown ?_ (Nat.le_refl _) hgrow1 (own_ge (Nat.le_refl _)) | refine kp_grown ?_ (Nat.le_refl _) hgrow1 (own_ge (Nat.le_add_right _ _)) | refine kp_grown ?_ (Nat.le_refl _) hgrow2 (row_ge hrow1) | refine kp_alloc _ ?_ (Nat.le_refl _) | apply Below.drew))
              have hs2 := hB2.size
              have hrow2' : Row w2 w0.heap.size 9 A2 f c2 ((left.eraseIdx i).map S) := by rw [erase_S, ← Hr1.out]; exact hrow2
              have hcx2 := (hB2.cell (p := ⟨gl, i, none⟩) (by show gl < _; omega)).trans hcx0
              have hrowL := hrow0.kept hB2
              have hI := Lib.hid (Ih.out (nxtT k ([] : List UInt8) x) A2 f c2 (left.eraseIdx i) g' n' c' _ B w2 hrow2'.rd hrow2'.front hrowL (by omega) (by rw [List.length_eraseIdx_of_lt (by rw [Hlen.out]; omega), Hlen.out]; rfl) (fun z hz => Hxk.out z (List.mem_of_mem_eraseIdx hz)) (fun _ => Hnx.out.1) (by have := Hnx.out.2; omega) Hsub.out)
              have hb2w : Below w.heap.size w w2 := Hb0.out.trans (hB2.mono hsz0)
              clear hB2 hgrow1 hgrow2 hrow1 hrow2 hrow2' hrowL hcx0 hrow0 hrd0
              clear e9 e10 e11
              generalize (if c = r then (some ⟨gl, 0, none⟩ : Option Addr) else some ⟨gl, r, none⟩) = V
              go_wp2_with fail
              rw [show nxtT k ([] : List UInt8) x = x from rfl] at hI
              refine hI.out.mono ?_
              rintro e w3 ⟨g3, n3, c3, rfl, hrow3, hb3⟩
              have hb3w : Below w.heap.size w w3 := hb2w.trans (hb3.mono (by omega))
              clear hcx2
              go_wp2_with fail
              go_roundw
              case rel => exact ⟨i + 1, g3, n3, c3, by omega, by go_num, rfl, by rw [Hst.out, List.foldl_append]; exact hrow3, hb3w⟩
              case measure => simp [intOf]; omega
        · have hsk := Hs.out hsn
          have hse : s.isEmpty = false := by cases s <;> simp_all
          have hsb : (s == []) = false := by simpa using hsn
          have hsb2 : (s != []) = true := by simp [hsn]
          obtain ⟨p, hp⟩ : ∃ p, p + k = s.length := ⟨s.length - k, by omega⟩
          have e5 : IntKind.i64.wrap ((s.length : Int) - (k : Int)) = (p : Int) := by rw [IntKind.wrap_i64]; omega
          have e6 : (s.length : Int) - (k : Int) = (p : Int) := by omega
          have b5 : (p : Int) + 1 ≤ (s.length : Int) := by omega
          have b6 : (0 : Int) ≤ (p : Int) + 1 := by omega
          have b4 : p + 1 ≤ s.length := by omega
          have Hp := Lib.hid hp
          clear hp
          by_cases hsf : s.drop (s.length + 1 - k) = x.take (k - 1)
          · have hf2 : List.drop (p + 1) s = List.take q x := by rw [← show s.length + 1 - k = p + 1 by have := Hp.out; omega, ← show k - 1 = q by have := Hq.out; omega]; exact hsf
            have hcmp : (List.take (s.length - (p + 1)) (List.drop (p + 1) s) == List.take q x) = true := by rw [List.take_of_length_le (by rw [List.length_drop]; exact Nat.le_refl _), hf2]; simp
            have Hb := Lib.hid (show (decide (s = []) || decide (s.drop (s.length + 1 - k) = x.take (k - 1))) = true by rw [decide_eq_true hsf]; simp)
            have Hsn := Lib.hid hsn
            clear hsf hf2 hsn
            rcases Nat.eq_zero_or_pos i with hi0 | hi0
            · have hd0 : decide (0 < i) = false := by simp [hi0]
              have hd1 : decide ((0 : Int) < (i : Int)) = false := by simp [hi0]
              have Hg := Lib.hid (goes0 (k := k) (s := s) hx hi0 Hb.out)
              have Hx := Lib.hid hx
              clear hx hi0
              have Hst := Lib.hid (tx_go (f := f) Hx.out Hg.out)
              have Hsub := Lib.hid (sub_bound HL.out (show i < left.length by rw [Hlen.out, ← Hnl.out]; exact hlt) Hst.out)
              have Hnx := Lib.hid (nxt_len (s := s) hk hxk Hs.out)
              go_wp2_with fail
              go_quiet (fail)
              go_wp2_with fail
              obtain ⟨w0, hw0⟩ : ∃ w0, w0 = wr.drewN nq := ⟨_, rfl⟩
              have hb0 : Below w.heap.size w w0 := by rw [hw0]; exact bel_drewN hbw _
              have hrow0 : Row w0 B 9 (some ⟨g', 0, none⟩) n' c' (((txsTo k f s left i).foldl insT L).map S) := by rw [hw0]; exact hrowr
              have hcx0 : w0.cell? ⟨gl, i, none⟩ = some (.string ⟨x.toArray⟩) := by rw [hw0]; exact hcx
              have hsz0 := hb0.size
              have hrd0 : Rd w0 w0.heap.size (some ⟨gl, 0, none⟩) n c (left.map S) := (Hr.out.below hb0).more hsz0
              have hlen0 : (left.map S).length = n := hrd0.1
              have Hb0 := Lib.hid hb0
              rw [← hw0]
              have hB0 : B ≤ w0.heap.size := by omega
              obtain ⟨r, hr1⟩ : ∃ r, r = i + 1 := ⟨_, rfl⟩
              have e9 : IntKind.i64.wrap ((i : Int) + 1) = (r : Int) := by rw [IntKind.wrap_i64]; omega
              have e10 : (i : Int) + 1 = (r : Int) := by omega
              have e11 : IntKind.i64.wrap (r : Int) = (r : Int) := by rw [IntKind.wrap_i64]; omega
              have hc1 : (r : Int) ≤ (n : Int) := by omega
              have hc2 : (r : Int) ≤ (c : Int) := by omega
              have hc3 : (0 : Int) ≤ (r : Int) := by omega
              have hc5 : r ≤ n := by omega
              have hrf : i + (n - r) = f := by have := Hnl.out; omega
              have Hr1 := Lib.hid hr1
              clear hr1
              have hc4 : (i : Int) ≤ (c : Int) := by omega
              clear hw0 hbw hrowr hcx hb0
              go_region_held3 (fun w' => Below w0.heap.size w0 w')
                ((focus (repeat (first | exact Below.refl _ _ | assumption | refine kp_grown ?_ (Nat.le_refl _) hgrow1 (own_ge (Nat.le_refl _)) | refine kp_grown ?_ (Nat.le_refl _) hgrow1 (own_ge (Nat.le_add_right _ _)) | refine kp_grown ?_ (Nat.le_refl _) hgrow2 (row_ge hrow1) | refine kp_alloc _ ?_ (Nat.le_refl _) | apply Below.drew))))
                (first
                 | (refine step_app _ (by rfl) _ _ _ (by rfl) w0.heap.size 9 i0 _ 16 Try.underlying24 hi hz0 hz1 hz2 rfl _ 0 0 [] (by rfl) ?_ _ i _ ((left.map S).take i) (by rfl) (len_front hlen0 hi9) (rd_front hrd0 ?_) (one_front _ _ (oneS _)) i ?_ ?_ ?_ ?_ ?_
                    first | exact Row.of_block #[] 0 (heap_al0 _ _) (Nat.le_refl _) rfl (Nat.zero_le _) | exact Row.of_block #[] 0 (heap_al1 _ _ _) (Nat.le_refl _) rfl (Nat.zero_le _) | exact Row.of_block #[] 0 (heap_al2 _ _ _) (Nat.le_add_right _ _) rfl (Nat.zero_le _)
                    (focus (repeat (first | exact Below.refl _ _ | assumption | refine kp_grown ?_ (Nat.le_refl _) hgrow1 (own_ge (Nat.le_refl _)) | refine kp_grown ?_ (Nat.le_refl _) hgrow1 (own_ge (Nat.le_add_right _ _)) | refine kp_grown ?_ (Nat.le_refl _) hgrow2 (row_ge hrow1) | refine kp_alloc _ ?_ (Nat.le_refl _) | apply Below.drew)))
                    omega
                    omega
                    omega
                    (refine kp_size (N := w0.heap.size) ?_; focus (repeat (first | exact Below.refl _ _ | assumption | refine kp_grown ?_ (Nat.le_refl _) hgrow1 (own_ge (Nat.le_refl _)) | refine kp_grown ?_ (Nat.le_refl _) hgrow1 (own_ge (Nat.le_add_right _ _)) | refine kp_grown ?_ (Nat.le_refl _) hgrow2 (row_ge hrow1) | refine kp_alloc _ ?_ (Nat.le_refl _) | apply Below.drew)))
                    intro A1 c1 w1 hrow1 hgrow1)
                 | (refine step_app _ (by rfl) _ _ _ (by rfl) w0.heap.size 9 i0 _ 16 Try.underlying24 hi hz0 hz1 hz2 rfl A1 _ c1 _ ?_ hrow1 (if c = r then ⟨gl, 0, none⟩ else ⟨gl, r, none⟩) (n - r) (c - r) ((left.map S).drop r) ?_ (len_back hlen0) (rd_back2 hrd0 ?_) (one_back _ _ (oneS _)) f ?_ ?_ ?_ ?_ ?_
                    rfl
                    exact slice_if
                    (focus (repeat (first | exact Below.refl _ _ | assumption | refine kp_grown ?_ (Nat.le_refl _) hgrow1 (own_ge (Nat.le_refl _)) | refine kp_grown ?_ (Nat.le_refl _) hgrow1 (own_ge (Nat.le_add_right _ _)) | refine kp_grown ?_ (Nat.le_refl _) hgrow2 (row_ge hrow1) | refine kp_alloc _ ?_ (Nat.le_refl _) | apply Below.drew)))
                    omega
                    omega
                    omega
                    (refine kp_size (N := w0.heap.size) ?_; focus (repeat (first | exact Below.refl _ _ | assumption | refine kp_grown ?_ (Nat.le_refl _) hgrow1 (own_ge (Nat.le_refl _)) | refine kp_grown ?_ (Nat.le_refl _) hgrow1 (own_ge (Nat.le_add_right _ _)) | refine kp_grown ?_ (Nat.le_refl _) hgrow2 (row_ge hrow1) | refine kp_alloc _ ?_ (Nat.le_refl _) | apply Below.drew)))
                    intro A2 c2 w2 hrow2 hgrow2))
              have hB2 : Below w0.heap.size w0 w2 := by focus (repeat (first | exact Below.refl _ _ | assumption | refine kp_grown ?_ (Nat.le_refl _) hgrow1 (own_ge (Nat.le_refl _)) | refine kp_grown ?_ (Nat.le_refl _) hgrow1 (own_ge (Nat.le_add_right _ _)) | refine kp_grown ?_ (Nat.le_refl _) hgrow2 (row_ge hrow1) | refine kp_alloc _ ?_ (Nat.le_refl _) | apply Below.drew))
              have hs2 := hB2.size
              have hrow2' : Row w2 w0.heap.size 9 A2 f c2 ((left.eraseIdx i).map S) := by rw [erase_S, ← Hr1.out]; exact hrow2
              have hcx2 := (hB2.cell (p := ⟨gl, i, none⟩) (by show gl < _; omega)).trans hcx0
              have hrowL := hrow0.kept hB2
              have hI := Lib.hid (Ih.out (nxtT k s x) A2 f c2 (left.eraseIdx i) g' n' c' _ B w2 hrow2'.rd hrow2'.front hrowL (by omega) (by rw [List.length_eraseIdx_of_lt (by rw [Hlen.out]; omega), Hlen.out]; rfl) (fun z hz => Hxk.out z (List.mem_of_mem_eraseIdx hz)) (fun _ => Hnx.out.1) (by have := Hnx.out.2; omega) Hsub.out)
              have hb2w : Below w.heap.size w w2 := Hb0.out.trans (hB2.mono hsz0)
              clear hB2 hgrow1 hgrow2 hrow1 hrow2 hrow2' hrowL hcx0 hrow0 hrd0
              clear e9 e10 e11
              generalize (if c = r then (some ⟨gl, 0, none⟩ : Option Addr) else some ⟨gl, r, none⟩) = V
              go_wp2_with fail
              rw [show s ++ List.take (k - q) (List.drop q x) = nxtT k s x by unfold nxtT; rw [if_neg Hsn.out, List.take_of_length_le (by rw [List.length_drop, hxk]; exact Nat.le_refl _), show k - 1 = q by have := Hq.out; omega]]
              refine hI.out.mono ?_
              rintro e w3 ⟨g3, n3, c3, rfl, hrow3, hb3⟩
              have hb3w : Below w.heap.size w w3 := hb2w.trans (hb3.mono (by omega))
              clear hcx2
              go_wp2_with fail
              go_roundw
              case rel => exact ⟨i + 1, g3, n3, c3, by omega, by go_num, rfl, by rw [Hst.out, List.foldl_append]; exact hrow3, hb3w⟩
              case measure => simp [intOf]; omega
            · obtain ⟨m, hm1⟩ : ∃ m, m + 1 = i := ⟨i - 1, by omega⟩
              obtain ⟨y, hy, hcy⟩ := (Hr.out.below hbw).str_at (show m < n by omega)
              rw [Nat.zero_add] at hcy
              have hd0 : decide (0 < i) = true := by simp [hi0]
              have hd1 : decide ((0 : Int) < (i : Int)) = true := by simp [hi0]
              have e1 : IntKind.i64.wrap ((i : Int) - 1) = (m : Int) := by rw [IntKind.wrap_i64]; omega
              have e2 : (i : Int) - 1 = (m : Int) := by omega
              have b1 : (m : Int) < (n : Int) := by omega
              have b0 : (0 : Int) ≤ (m : Int) := by omega
              by_cases hxy : x = y
              · have hee : (x == y) = true := by simp [hxy]
                have Hg := Lib.hid (goes2 (k := k) (s := s) hx hy hm1 hxy)
                have Hx := Lib.hid hx
                clear hx hy hm1 hi0 hxy
                have Hst := Lib.hid (tx_skip (f := f) Hg.out)
                go_wp2_with fail
                go_quiet (fail)
                have hbq : Below w.heap.size w (wr.drewN nq) := bel_drewN hbw _
                have hrowq : Row (wr.drewN nq) B 9 (some ⟨g', 0, none⟩) n' c' (((txsTo k f s left i).foldl insT L).map S) := hrowr
                go_wp2_with fail
                go_roundw
                case rel => exact ⟨i + 1, g', n', c', by omega, by go_num, rfl, by rw [Hst.out]; exact hrowq, hbq⟩
                case measure => simp [intOf]; omega
              · have hee : (x == y) = false := by simp [hxy]
                have Hg := Lib.hid (goes1 (k := k) (s := s) hx hy hm1 hxy Hb.out)
                have Hx := Lib.hid hx
                clear hx hy hm1 hi0 hxy
                have Hst := Lib.hid (tx_go (f := f) Hx.out Hg.out)
                have Hsub := Lib.hid (sub_bound HL.out (show i < left.length by rw [Hlen.out, ← Hnl.out]; exact hlt) Hst.out)
                have Hnx := Lib.hid (nxt_len (s := s) hk hxk Hs.out)
                go_wp2_with fail
                go_quiet (fail)
                go_wp2_with fail
                obtain ⟨w0, hw0⟩ : ∃ w0, w0 = wr.drewN nq := ⟨_, rfl⟩
                have hb0 : Below w.heap.size w w0 := by rw [hw0]; exact bel_drewN hbw _
                have hrow0 : Row w0 B 9 (some ⟨g', 0, none⟩) n' c' (((txsTo k f s left i).foldl insT L).map S) := by rw [hw0]; exact hrowr
                have hcx0 : w0.cell? ⟨gl, i, none⟩ = some (.string ⟨x.toArray⟩) := by rw [hw0]; exact hcx
                have hsz0 := hb0.size
                have hrd0 : Rd w0 w0.heap.size (some ⟨gl, 0, none⟩) n c (left.map S) := (Hr.out.below hb0).more hsz0
                have hlen0 : (left.map S).length = n := hrd0.1
                have Hb0 := Lib.hid hb0
                rw [← hw0]
                have hB0 : B ≤ w0.heap.size := by omega
                obtain ⟨r, hr1⟩ : ∃ r, r = i + 1 := ⟨_, rfl⟩
                have e9 : IntKind.i64.wrap ((i : Int) + 1) = (r : Int) := by rw [IntKind.wrap_i64]; omega
                have e10 : (i : Int) + 1 = (r : Int) := by omega
                have e11 : IntKind.i64.wrap (r : Int) = (r : Int) := by rw [IntKind.wrap_i64]; omega
                have hc1 : (r : Int) ≤ (n : Int) := by omega
                have hc2 : (r : Int) ≤ (c : Int) := by omega
                have hc3 : (0 : Int) ≤ (r : Int) := by omega
                have hc5 : r ≤ n := by omega
                have hrf : i + (n - r) = f := by have := Hnl.out; omega
                have Hr1 := Lib.hid hr1
                clear hr1
                have hc4 : (i : Int) ≤ (c : Int) := by omega
                clear hw0 hbw hrowr hcx hb0
                go_region_held3 (fun w' => Below w0.heap.size w0 w')
                  ((focus (repeat (first | exact Below.refl _ _ | assumption | refine kp_grown ?_ (Nat.le_refl _) hgrow1 (own_ge (Nat.le_refl _)) | refine kp_grown ?_ (Nat.le_refl _) hgrow1 (own_ge (Nat.le_add_right _ _)) | refine kp_grown ?_ (Nat.le_refl _) hgrow2 (row_ge hrow1) | refine kp_alloc _ ?_ (Nat.le_refl _) | apply Below.drew))))
                  (first
                   | (refine step_app _ (by rfl) _ _ _ (by rfl) w0.heap.size 9 i0 _ 16 Try.underlying24 hi hz0 hz1 hz2 rfl _ 0 0 [] (by rfl) ?_ _ i _ ((left.map S).take i) (by rfl) (len_front hlen0 hi9) (rd_front hrd0 ?_) (one_front _ _ (oneS _)) i ?_ ?_ ?_ ?_ ?_
                      first | exact Row.of_block #[] 0 (heap_al0 _ _) (Nat.le_refl _) rfl (Nat.zero_le _) | exact Row.of_block #[] 0 (heap_al1 _ _ _) (Nat.le_refl _) rfl (Nat.zero_le _) | exact Row.of_block #[] 0 (heap_al2 _ _ _) (Nat.le_add_right _ _) rfl (Nat.zero_le _)
                      (focus (repeat (first | exact Below.refl _ _ | assumption | refine kp_grown ?_ (Nat.le_refl _) hgrow1 (own_ge (Nat.le_refl _)) | refine kp_grown ?_ (Nat.le_refl _) hgrow1 (own_ge (Nat.le_add_right _ _)) | refine kp_grown ?_ (Nat.le_refl _) hgrow2 (row_ge hrow1) | refine kp_alloc _ ?_ (Nat.le_refl _) | apply Below.drew)))
                      omega
                      omega
                      omega
                      (refine kp_size (N := w0.heap.size) ?_; focus (repeat (first | exact Below.refl _ _ | assumption | refine kp_grown ?_ (Nat.le_refl _) hgrow1 (own_ge (Nat.le_refl _)) | refine kp_grown ?_ (Nat.le_refl _) hgrow1 (own_ge (Nat.le_add_right _ _)) | refine kp_grown ?_ (Nat.le_refl _) hgrow2 (row_ge hrow1) | refine kp_alloc _ ?_ (Nat.le_refl _) | apply Below.drew)))
                      intro A1 c1 w1 hrow1 hgrow1)
                   | (refine step_app _ (by rfl) _ _ _ (by rfl) w0.heap.size 9 i0 _ 16 Try.underlying24 hi hz0 hz1 hz2 rfl A1 _ c1 _ ?_ hrow1 (if c = r then ⟨gl, 0, none⟩ else ⟨gl, r, none⟩) (n - r) (c - r) ((left.map S).drop r) ?_ (len_back hlen0) (rd_back2 hrd0 ?_) (one_back _ _ (oneS _)) f ?_ ?_ ?_ ?_ ?_
                      rfl
                      exact slice_if
                      (focus (repeat (first | exact Below.refl _ _ | assumption | refine kp_grown ?_ (Nat.le_refl _) hgrow1 (own_ge (Nat.le_refl _)) | refine kp_grown ?_ (Nat.le_refl _) hgrow1 (own_ge (Nat.le_add_right _ _)) | refine kp_grown ?_ (Nat.le_refl _) hgrow2 (row_ge hrow1) | refine kp_alloc _ ?_ (Nat.le_refl _) | apply Below.drew)))
                      omega
                      omega
                      omega
                      (refine kp_size (N := w0.heap.size) ?_; focus (repeat (first | exact Below.refl _ _ | assumption | refine kp_grown ?_ (Nat.le_refl _) hgrow1 (own_ge (Nat.le_refl _)) | refine kp_grown ?_ (Nat.le_refl _) hgrow1 (own_ge (Nat.le_add_right _ _)) | refine kp_grown ?_ (Nat.le_refl _) hgrow2 (row_ge hrow1) | refine kp_alloc _ ?_ (Nat.le_refl _) | apply Below.drew)))
                      intro A2 c2 w2 hrow2 hgrow2))
                have hB2 : Below w0.heap.size w0 w2 := by focus (repeat (first | exact Below.refl _ _ | assumption | refine kp_grown ?_ (Nat.le_refl _) hgrow1 (own_ge (Nat.le_refl _)) | refine kp_grown ?_ (Nat.le_refl _) hgrow1 (own_ge (Nat.le_add_right _ _)) | refine kp_grown ?_ (Nat.le_refl _) hgrow2 (row_ge hrow1) | refine kp_alloc _ ?_ (Nat.le_refl _) | apply Below.drew))
                have hs2 := hB2.size
                have hrow2' : Row w2 w0.heap.size 9 A2 f c2 ((left.eraseIdx i).map S) := by rw [erase_S, ← Hr1.out]; exact hrow2
                have hcx2 := (hB2.cell (p := ⟨gl, i, none⟩) (by show gl < _; omega)).trans hcx0
                have hrowL := hrow0.kept hB2
                have hI := Lib.hid (Ih.out (nxtT k s x) A2 f c2 (left.eraseIdx i) g' n' c' _ B w2 hrow2'.rd hrow2'.front hrowL (by omega) (by rw [List.length_eraseIdx_of_lt (by rw [Hlen.out]; omega), Hlen.out]; rfl) (fun z hz => Hxk.out z (List.mem_of_mem_eraseIdx hz)) (fun _ => Hnx.out.1) (by have := Hnx.out.2; omega) Hsub.out)
                have hb2w : Below w.heap.size w w2 := Hb0.out.trans (hB2.mono hsz0)
                clear hB2 hgrow1 hgrow2 hrow1 hrow2 hrow2' hrowL hcx0 hrow0 hrd0
                clear e9 e10 e11
                generalize (if c = r then (some ⟨gl, 0, none⟩ : Option Addr) else some ⟨gl, r, none⟩) = V
                go_wp2_with fail
                rw [show s ++ List.take (k - q) (List.drop q x) = nxtT k s x by unfold nxtT; rw [if_neg Hsn.out, List.take_of_length_le (by rw [List.length_drop, hxk]; exact Nat.le_refl _), show k - 1 = q by have := Hq.out; omega]]
                refine hI.out.mono ?_
                rintro e w3 ⟨g3, n3, c3, rfl, hrow3, hb3⟩
                have hb3w : Below w.heap.size w w3 := hb2w.trans (hb3.mono (by omega))
                clear hcx2
                go_wp2_with fail
                go_roundw
                case rel => exact ⟨i + 1, g3, n3, c3, by omega, by go_num, rfl, by rw [Hst.out, List.foldl_append]; exact hrow3, hb3w⟩
                case measure => simp [intOf]; omega
          · have hf2 : ¬ List.drop (p + 1) s = List.take q x := by rw [← show s.length + 1 - k = p + 1 by have := Hp.out; omega, ← show k - 1 = q by have := Hq.out; omega]; exact hsf
            have hcmp : (List.take (s.length - (p + 1)) (List.drop (p + 1) s) == List.take q x) = false := by rw [List.take_of_length_le (by rw [List.length_drop]; exact Nat.le_refl _)]; simpa using hf2
            have Hb := Lib.hid (show (decide (s = []) || decide (s.drop (s.length + 1 - k) = x.take (k - 1))) = false by rw [decide_eq_false hsf, decide_eq_false hsn]; rfl)
            have Hsn := Lib.hid hsn
            clear hsf hf2 hsn
            rcases Nat.eq_zero_or_pos i with hi0 | hi0
            · have hd0 : decide (0 < i) = false := by simp [hi0]
              have hd1 : decide ((0 : Int) < (i : Int)) = false := by simp [hi0]
              have Hg := Lib.hid (goes0 (k := k) (s := s) hx hi0 Hb.out)
              have Hx := Lib.hid hx
              clear hx hi0
              have Hst := Lib.hid (tx_skip (f := f) Hg.out)
              go_wp2_with fail
              go_quiet (fail)
              have hbq : Below w.heap.size w (wr.drewN nq) := bel_drewN hbw _
              have hrowq : Row (wr.drewN nq) B 9 (some ⟨g', 0, none⟩) n' c' (((txsTo k f s left i).foldl insT L).map S) := hrowr
              go_wp2_with fail
              go_roundw
              case rel => exact ⟨i + 1, g', n', c', by omega, by go_num, rfl, by rw [Hst.out]; exact hrowq, hbq⟩
              case measure => simp [intOf]; omega
            · obtain ⟨m, hm1⟩ : ∃ m, m + 1 = i := ⟨i - 1, by omega⟩
              obtain ⟨y, hy, hcy⟩ := (Hr.out.below hbw).str_at (show m < n by omega)
              rw [Nat.zero_add] at hcy
              have hd0 : decide (0 < i) = true := by simp [hi0]
              have hd1 : decide ((0 : Int) < (i : Int)) = true := by simp [hi0]
              have e1 : IntKind.i64.wrap ((i : Int) - 1) = (m : Int) := by rw [IntKind.wrap_i64]; omega
              have e2 : (i : Int) - 1 = (m : Int) := by omega
              have b1 : (m : Int) < (n : Int) := by omega
              have b0 : (0 : Int) ≤ (m : Int) := by omega
              by_cases hxy : x = y
              · have hee : (x == y) = true := by simp [hxy]
                have Hg := Lib.hid (goes2 (k := k) (s := s) hx hy hm1 hxy)
                have Hx := Lib.hid hx
                clear hx hy hm1 hi0 hxy
                have Hst := Lib.hid (tx_skip (f := f) Hg.out)
                go_wp2_with fail
                go_quiet (fail)
                have hbq : Below w.heap.size w (wr.drewN nq) := bel_drewN hbw _
                have hrowq : Row (wr.drewN nq) B 9 (some ⟨g', 0, none⟩) n' c' (((txsTo k f s left i).foldl insT L).map S) := hrowr
                go_wp2_with fail
                go_roundw
                case rel => exact ⟨i + 1, g', n', c', by omega, by go_num, rfl, by rw [Hst.out]; exact hrowq, hbq⟩
                case measure => simp [intOf]; omega
              · have hee : (x == y) = false := by simp [hxy]
                have Hg := Lib.hid (goes1 (k := k) (s := s) hx hy hm1 hxy Hb.out)
                have Hx := Lib.hid hx
                clear hx hy hm1 hi0 hxy
                have Hst := Lib.hid (tx_skip (f := f) Hg.out)
                go_wp2_with fail
                go_quiet (fail)
                have hbq : Below w.heap.size w (wr.drewN nq) := bel_drewN hbw _
                have hrowq : Row (wr.drewN nq) B 9 (some ⟨g', 0, none⟩) n' c' (((txsTo k f s left i).foldl insT L).map S) := hrowr
                go_wp2_with fail
                go_roundw
                case rel => exact ⟨i + 1, g', n', c', by omega, by go_num, rfl, by rw [Hst.out]; exact hrowq, hbq⟩
                case measure => simp [intOf]; omega
      · obtain rfl : i = n := by omega
        have Hfin := Lib.hid (show txs k (f + 1) s left = txsTo k f s left i by rw [txs_succ, Hlen.out, Hnl.out])
        go_wp2_with fail
        go_ret
        exact ⟨g', n', c', rfl, by rw [Hfin.out]; exact hrowr, hbw⟩
end Go.Proofs.Ytfbmcfdmffpfmaa
