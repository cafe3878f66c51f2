/-
  The program's windows: taken out of the channel, sorted.
-/
import Derived.Test.YtfbmcfdmffpfmaaSent
import Derived.Test.YtfbmcfdmffpfmaaValT
namespace Go.Proofs.Ytfbmcfdmffpfmaa
open Go.RowKit Go.Conc
set_option linter.unusedVariables false
set_option linter.unusedSimpArgs false

def lenW : Value → Nat
  | .slice _ n _ => n
  | _ => 0
theorem Row.not_chan {w : World} {B : Nat} {e : TypeId} {A : Option Addr} {n c : Nat} {xs : List Value} (h : Row w B e A n c xs) {b cap s r : Nat} {buf : Array Value} {cl tm : Bool} (hc : w.heap[b]? = some (.chan cap buf cl s r tm)) : some b ≠ (Value.slice A n c).ownBlock := by
  obtain ⟨h1, ⟨hv, _⟩ | ⟨g, cap', cur, hv, hb, hh, _⟩⟩ := h
  · injection hv with e1 e2 e3
    rw [e1]
    intro h
    cases h
  · injection hv with e1 e2 e3
    rw [e1]
    intro h
    injection h with h
    subst h
    rw [hh] at hc
    cases hc
theorem S_getD (L : List (List UInt8)) (j : Nat) (h : j < L.length) : (((L.drop j).map S).toArray).getD 0 undef = S (L[j]) := by
  rw [List.drop_eq_getElem_cons h]
  rfl
theorem S_rest (L : List (List UInt8)) (j : Nat) (h : j < L.length) : (((L.drop j).map S).toArray).extract 1 ((L.drop j).map S).toArray.size = ((L.drop (j + 1)).map S).toArray := by
  have e : (((L.drop j).map S).toArray).extract 1 ((L.drop j).map S).toArray.size = (((L.drop j).map S).drop 1).toArray := by
    rw [List.extract_toArray, List.extract_eq_take_drop]
    rw [List.take_of_length_le (by simp; omega)]
  rw [e, ← List.map_drop, List.drop_drop]
set_option maxRecDepth 8000 in
set_option maxHeartbeats 3200000 in
theorem windows_any (s : List UInt8) (k : Nat) (w : World) (hs : s.length ≤ 1000) (hk : 1 ≤ k) (hk2 : k ≤ 1000) :
    Calls Try.prog 69 #[.string ⟨s.toArray⟩, .int .i64 k] w (RetRow w 9 ((stT (winds s k)).map S)) := by
  obtain ⟨i0, hi, hz0, hz1, hz2⟩ := info_parts Try.infoXs
  have HL := Lib.hid (winds_len s k)
  refine calls_of_codeN Try.func69 rfl ?_
  simp only [Try.ntmps69, List.size_toArray, List.length_cons, List.length_nil, Nat.reduceAdd, Nat.reduceSub, Array.replicate_succ, Array.replicate_zero, List.push_toArray, List.append_toArray, List.nil_append, List.cons_append]
  refine codeN_seq_k fun K hK => codeN_of ?_
  go_wp2_with fail
  refine codeN_seq_k fun K hK => codeN_of ?_
  go_wp2_with (at_make; refine wpList_make_own _ rfl _ _ 24 rfl w.heap.size 9 i0 (.string ⟨#[]⟩) 1 Try.underlying24 hi hz0 hz1 .i64 .i64 s.length s.length rfl rfl rfl (by rw [hz2]; omega) (by unfold maxLen; omega) (Nat.le_refl _) ?_; intro w1 hown0 hgrow0)
  have hb1 : Below w.heap.size w w1 := kp_grown (Below.refl _ _) (Nat.le_refl _) hgrow0 (fun k hk => by cases hk)
  clear hgrow0
  refine codeN_seq_k fun K hK => codeN_seq_k fun K0 hK0 => codeN_of ?_
  go_wp2_with fail
  refine (sent_any s k w1 (by omega) hk hk2).mono ?_
  rintro e w2 ⟨d, rfl, hd, hch, hb2⟩
  have s1 := hb1.size
  have hrow2 : Row w2 w.heap.size 9 (some ⟨w.heap.size, 0, none⟩) 0 s.length [] := Row.kept hown0 hb2
  have hbw2 : Below w.heap.size w w2 := hb1.trans (hb2.mono s1)
  have hdB : w.heap.size ≤ d := by omega
  obtain ⟨m, hm⟩ : ∃ m, m = s.length + 1 - k := ⟨_, rfl⟩
  obtain ⟨L, hL⟩ : ∃ L, L = winds s k := ⟨_, rfl⟩
  have hLm : L.length = m := by rw [hL, winds_len, hm]
  rw [show windsTo s k (s.length + 1 - k) = L from hL.symm, ← hm] at hch
  have HL := Lib.hid hL
  have HM := Lib.hid (show m ≤ s.length by omega)
  clear hown0 hb2 hd hb1 hm hL
  rw [← HL.out]
  go_wp2_with fail
  refine codeN_block ?_
  refine codeN_loop (fun a wr => ∃ (j : Nat) (A : Option Addr) (c : Nat) (v6 v13 v14 v15 v16 v17 v18 v19 : Value), j ≤ m ∧ a = { tmps := #[.string ⟨s.toArray⟩, .int .i64 (k : Int), undef, undef, .slice none 0 0, .slice A j c, v6, .string ⟨s.toArray⟩, .int .i64 (s.length : Int), .slice (some ⟨w.heap.size, 0, none⟩) 0 s.length, .string ⟨s.toArray⟩, .int .i64 (k : Int), .chan (some d), v13, v14, v15, v16, v17, v18, v19, undef, undef, undef, undef, undef, undef, undef, undef], defers := [] } ∧ wr.heap[d]? = some (.chan (s.length + 1) ((L.drop j).map S).toArray true m j false) ∧ Row wr w.heap.size 9 A j c ((L.take j).map S) ∧ Below w.heap.size w wr) (fun a _ => m - lenW (a.tmps.getD 5 undef)) ⟨0, _, _, _, _, _, _, _, _, _, _, Nat.zero_le _, rfl, hch, hrow2, hbw2⟩ ?_
  rintro a wr ⟨j, A, c, v6, v13, v14, v15, v16, v17, v18, v19, hj, rfl, hc, hrow, hb⟩
  clear hch hrow2 hbw2
  by_cases hjm : j < m
  · refine codeN_seq_k fun K1 hK1 => codeN_region ?_
    show OpsN _ _ [0, 1] _ _ _
    obtain ⟨w3, hw3⟩ : ∃ w3, w3 = wr.setChan d (s.length + 1) ((L.drop (j + 1)).map S).toArray true m (j + 1) false := ⟨_, rfl⟩
    have hlt : d < wr.heap.size := (Array.getElem?_eq_some_iff.1 hc).1
    refine opsN_recv (c := d) (z := .string ⟨#[]⟩) (ok := true) (w₁ := wr) rfl (by simp [Region.wanted]) (by simp [go_sem, execOp, Act.eval, rcase]) hc (by simp; omega) ?_
    have hc3 : w3.heap[d]? = some (.chan (s.length + 1) ((L.drop (j + 1)).map S).toArray true m (j + 1) false) := by rw [hw3, heap_setChan _ _ _ _ _ _ _ _ hlt]
    have hb3 : Below w.heap.size w w3 := by rw [hw3]; exact below_setChan hb hdB _ _ _ _ _ _
    have hrow3 : Row w3 w.heap.size 9 A j c ((L.take j).map S) := by
      refine World.ownsRow.kept (row := some d) hrow ?_ (.inr fun e => hrow.not_chan hc e.symm)
      rw [hw3]
      exact ⟨rfl, rfl, rfl, by simp [World.setChan], fun b _ hne => by simp only [World.setChan]; rw [Array.getElem?_setIfInBounds_ne (fun e => hne (by rw [e]))]⟩
    rw [S_getD L j (by omega), S_rest L j (by omega), ← hw3]
    obtain ⟨x, hx⟩ : ∃ x, x = L[j]'(by omega) := ⟨_, rfl⟩
    have Ht := Lib.hid (show L.take (j + 1) = L.take j ++ [x] by rw [hx]; exact List.take_succ_eq_append_getElem (by omega))
    rw [← hx]
    clear hx hw3 hc hb hrow hlt
    refine opsN_value (v := .bool true) (w₁ := w3) rfl (by simp [Region.wanted]) (by simp [go_sem, execOp, Act.eval, Act.put, got]) ?_
    refine opsN_nil ?_
    simp [Exit.inBlock, Exit.then, Act.put, got]
    refine hK1 _ _ (codeN_of ?_)
    unfold S
    have hsz := hb3.size
    have hm3 := HM.out
    clear hK1
    go_wp2_with (at_builtin; refine wpList_app1 _ rfl _ _ 24 rfl w.heap.size 9 i0 (.string ⟨#[]⟩) 16 Try.underlying24 hi hz0 hz1 hz2 rfl _ _ _ _ rfl (hrow3.alloc _) _ (.string ⟨x.toArray⟩) rfl (cell_one_new _ _ _) rfl (by omega) (by omega) (by simp; omega) ?_; intro A2 c2 w4 hown4 hgrow4)
    have hlt3 : d < w3.heap.size := (Array.getElem?_eq_some_iff.1 hc3).1
    have hc4 := (hgrow4.block d (by simp; omega) (fun e => hrow3.not_chan hc3 e)).trans ((Below.heap_alloc w3 (.cells #[.string ⟨x.toArray⟩] 9) d hlt3).trans hc3)
    have hb4 : Below w.heap.size w w4 := kp_grown (kp_alloc _ hb3 (Nat.le_refl _)) (Nat.le_refl _) hgrow4 (row_ge hrow3)
    refine ⟨⟨j + 1, A2, c2, _, _, _, _, _, _, _, _, by omega, rfl, hc4, ?_, hb4⟩, by show m - (j + 1) < m - j; omega⟩
    rw [Ht.out, List.map_append]
    exact hown4
  · obtain rfl : j = m := by omega
    refine codeN_seq_k fun K1 hK1 => codeN_region ?_
    show OpsN _ _ [0, 1] _ _ _
    have hnil : ((L.drop j).map S).toArray = #[] := by rw [List.drop_of_length_le (by omega)]; rfl
    rw [hnil] at hc
    refine opsN_shut (c := d) (z := .string ⟨#[]⟩) (ok := true) (w₁ := wr) rfl (by simp [Region.wanted]) (by simp [go_sem, execOp, Act.eval, rcase]) hc ?_
    refine opsN_value (v := .bool false) (w₁ := wr) rfl (by simp [Region.wanted]) (by simp [go_sem, execOp, Act.eval, Act.put, got]) ?_
    refine opsN_nil ?_
    simp [Exit.inBlock, Exit.then, Act.put, got]
    refine hK1 _ _ (codeN_of ?_)
    rw [List.take_of_length_le (by omega)] at hrow
    have hS := SortS_any w.heap.size A j c L wr hrow (by have := HM.out; omega)
    have hsz := hb.size
    clear hK1 hc
    go_wp2_with fail
    refine codeN_of ?_
    go_wp2_with fail
    refine hS.mono ?_
    rintro e w5 ⟨rfl, hrow5, hg5⟩
    have hb5 : Below w.heap.size w w5 := kp_grown hb (Nat.le_refl _) hg5 (row_ge hrow)
    have hnc := hrow5.own.2.1
    have hcm := hrow5.own.2.2.1
    unfold maxLen at hcm
    have hm3 := HM.out
    clear hg5 hrow hS
    go_wp2_with fail
    go_ret
    rw [← HL.out]
    exact ⟨A, j, j, rfl, hrow5.own.clip, hb5⟩
set_option maxHeartbeats 1600000 in
theorem WindowsOf_any (s : List UInt8) (k : Int) (w : World) (hs : s.length ≤ 1048576) :
    Calls Try.prog 23 #[.string ⟨s.toArray⟩, .int .i64 k] w (RetRow w 9 ((WO s k).map S)) := by
  cases h1 : vt s with
  | false =>
    have Hv := Lib.hid (show WO s k = [] by unfold WO; rw [h1]; rfl)
    have H1 := Lib.hid h1
    clear h1
    go_enter Try.func23, Try.ntmps23
    go_wp2_with fail
    refine (ValidText_any _ _ (by omega)).mono ?_
    rintro e w' ⟨rfl, hb⟩
    rw [H1.out]
    go_wp2_with fail
    go_ret
    rw [Hv.out]
    exact retRow_nil' _ hb
  | true =>
    have hl40 := vt_len h1
    have H1 := Lib.hid h1
    clear h1
    cases h2 : inR k 1 6 with
    | false =>
      have Hv := Lib.hid (show WO s k = [] by unfold WO; rw [h2]; simp)
      have H2 := Lib.hid h2
      clear h2
      go_enter Try.func23, Try.ntmps23
      go_wp2_with fail
      refine (ValidText_any _ _ (by omega)).mono ?_
      rintro e w' ⟨rfl, hb⟩
      rw [H1.out]
      go_wp2_with fail
      refine (within_any _ _ _ _).mono ?_
      rintro e w' ⟨rfl, rfl⟩
      rw [H2.out]
      go_wp2_with fail
      go_ret
      rw [Hv.out]
      exact retRow_nil' _ hb
    | true =>
      obtain ⟨h3, h4⟩ := inR_true h2
      obtain ⟨k, rfl⟩ := Int.eq_ofNat_of_zero_le (show 0 ≤ k by omega)
      have Hv := Lib.hid (show WO s (k : Int) = stT (winds s k) by unfold WO; rw [H1.out, h2]; simp)
      have H2 := Lib.hid h2
      clear h2
      go_enter Try.func23, Try.ntmps23
      go_wp2_with fail
      refine (ValidText_any _ _ (by omega)).mono ?_
      rintro e w1 ⟨rfl, hb1⟩
      rw [H1.out]
      go_wp2_with fail
      refine (within_any _ _ _ _).mono ?_
      rintro e w' ⟨rfl, rfl⟩
      rw [H2.out]
      go_wp2_with fail
      refine (windows_any s k w1 (by omega) (by omega) (by omega)).mono ?_
      rintro e w2 ⟨A1, n1, c1, rfl, ho, hb2⟩
      go_wp2_with fail
      go_ret
      exact ⟨_, _, _, rfl, by rw [Hv.out]; exact ho.more hb1.size, hb1.trans (hb2.mono hb1.size)⟩
end Go.Proofs.Ytfbmcfdmffpfmaa
