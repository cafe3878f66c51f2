/-
  The program's windows: sent into a channel and taken out of it.
-/
import Derived.Test.YtfbmcfdmffpfmaaChan
import Derived.Test.YtfbmcfdmffpfmaaFacL
import Derived.Test.YtfbmcfdmffpfmaaText
namespace Go.Proofs.Ytfbmcfdmffpfmaa
open Go.RowKit Go.Conc
set_option linter.unusedVariables false
set_option linter.unusedSimpArgs false

theorem Try.infoSent : (Try.prog.info? 9).map (fun i => (i.zero, i.size, i.bytes)) = some (some (.string ⟨#[]⟩), 1, 16) := by kernel_rfl
set_option maxRecDepth 8000 in
set_option maxHeartbeats 1600000 in
theorem sent_any (s : List UInt8) (k : Nat) (w : World) (hs : s.length ≤ 1048576) (hk : 1 ≤ k) (hk2 : k ≤ 1000) :
    Calls Try.prog 97 #[.string ⟨s.toArray⟩, .int .i64 k] w (fun e w' => ∃ c, e = .returned (.chan (some c)) ∧ w.heap.size ≤ c ∧ w'.heap[c]? = some (.chan (s.length + 1) ((windsTo s k (s.length + 1 - k)).map S).toArray true (s.length + 1 - k) 0 false) ∧ Below w.heap.size w w') := by
  refine calls_of_codeN Try.func97 rfl ?_
  simp only [Try.ntmps97, List.size_toArray, List.length_cons, List.length_nil, Nat.reduceAdd, Nat.reduceSub, Array.replicate_succ, Array.replicate_zero, List.push_toArray, List.append_toArray, List.nil_append, List.cons_append]
  have hmk : (Instr.makeChan 85 (.int .i64 ((s.length : Int) + 1))).run Try.prog w = .ok (.chan (some w.heap.size)) (w.alloc (.chan (s.length + 1) #[] false 0 0 false)) := by
    obtain ⟨i0, hi, hz0, hz1, hz2⟩ := info_parts Try.infoSent
    have h := run_makeChan (P := Try.prog) (w := w) Try.underlying85 hi .i64 (s.length + 1) (by omega) (by rw [hz2]; omega)
    rw [show ((s.length + 1 : Nat) : Int) = (s.length : Int) + 1 by omega] at h
    exact h
  have e1 : IntKind.i64.wrap ((s.length : Int) + 1) = (s.length : Int) + 1 := by rw [IntKind.wrap_i64]; omega
  refine codeN_seq_k fun K hK => codeN_of ?_
  go_wp2_with fail
  refine codeN_seq_k fun K hK => codeN_of ?_
  go_wp2_with fail
  refine codeN_seq_k fun K hK => codeN_seq_k fun K2 hK2 => codeN_of ?_
  go_wp2_with fail
  refine codeN_block ?_
  refine codeN_loop (fun a wr => ∃ (j : Nat) (v11 v12 v13 v14 v15 v16 v17 v18 v19 v20 v21 v22 v23 v24 v25 : Value), j ≤ s.length + 1 - k ∧ a = { tmps := #[.string ⟨s.toArray⟩, .int .i64 (k : Int), undef, undef, .chan none, .chan (some w.heap.size), .int .i64 (j : Int), .string ⟨s.toArray⟩, .int .i64 (s.length : Int), .int .i64 ((s.length : Int) + 1), .chan (some w.heap.size), v11, v12, v13, v14, v15, v16, v17, v18, v19, v20, v21, v22, v23, v24, v25, undef, undef], defers := [] } ∧ wr.heap[w.heap.size]? = some (.chan (s.length + 1) ((windsTo s k j).map S).toArray false j 0 false) ∧ Below w.heap.size w wr) (fun a _ => s.length + 1 - (intOf (a.tmps.getD 6 undef)).toNat) ⟨0, _, _, _, _, _, _, _, _, _, _, _, _, _, _, _, Nat.zero_le _, rfl, heap_alloc_new _ _, (Below.refl _ _).alloc (Nat.le_refl _) _⟩ ?_
  rintro a wr ⟨j, v11, v12, v13, v14, v15, v16, v17, v18, v19, v20, v21, v22, v23, v24, v25, hj, rfl, hc, hb⟩
  have hlt : w.heap.size < wr.heap.size := (Array.getElem?_eq_some_iff.1 hc).1
  by_cases hjk : j + k ≤ s.length
  · have e2 : IntKind.i64.wrap ((j : Int) + (k : Int)) = (j : Int) + (k : Int) := by rw [IntKind.wrap_i64]; omega
    refine codeN_seq_k fun K1 hK1 => codeN_of ?_
    go_wp2_with fail
    refine codeN_seq_k fun K2 hK2 => codeN_block ?_
    refine codeN_region ?_
    show OpsN _ _ [0, 1, 2, 3, 4, 5, 6, 7] _ _ _
    refine opsN_value (v := .chan (some w.heap.size)) (w₁ := wr) rfl (by simp [Region.wanted]) (by simp [go_sem, execOp, Act.eval]) ?_
    refine opsN_value (v := .string ⟨s.toArray⟩) (w₁ := wr) rfl (by simp [Region.wanted]) (by simp [go_sem, execOp, Act.eval, Act.put]) ?_
    refine opsN_value (v := .int .i64 (j : Int)) (w₁ := wr) rfl (by simp [Region.wanted]) (by simp [go_sem, execOp, Act.eval, Act.put]) ?_
    refine opsN_value (v := .int .i64 (j : Int)) (w₁ := wr) rfl (by simp [Region.wanted]) (by simp [go_sem, execOp, Act.eval, Act.put]) ?_
    refine opsN_value (v := .int .i64 (k : Int)) (w₁ := wr) rfl (by simp [Region.wanted]) (by simp [go_sem, execOp, Act.eval, Act.put]) ?_
    refine opsN_value (v := .int .i64 ((j : Int) + (k : Int))) (w₁ := wr) rfl (by simp [Region.wanted]) (by simp [go_sem, execOp, Act.eval, Act.put, e2]) ?_
    refine opsN_value (v := S (win s k j)) (w₁ := wr) rfl (by simp [Region.wanted]) (by simp [go_sem, execOp, Act.eval, Act.put]; rw [if_pos (by omega), if_pos (by omega), show ((j : Int) + (k : Int)).toNat - j = k by omega]; rfl) ?_
    refine opsN_send (c := w.heap.size) (v := S (win s k j)) (z' := .tuple #[]) (w₁ := wr) rfl (by simp [Region.wanted]) (by simp [go_sem, execOp, Act.eval, Act.put, scase]) hc (by simp [windsTo_len]; omega) ?_
    obtain ⟨w2, hw2⟩ : ∃ w2, w2 = wr.setChan w.heap.size (s.length + 1) (((windsTo s k j).map S).toArray.push (S (win s k j))) false (j + 1) 0 false := ⟨_, rfl⟩
    have hc2 : w2.heap[w.heap.size]? = some (.chan (s.length + 1) ((windsTo s k (j + 1)).map S).toArray false (j + 1) 0 false) := by
      rw [hw2, heap_setChan _ _ _ _ _ _ _ _ hlt, windsTo_succ, List.map_append, List.push_toArray]
      rfl
    have hb2 : Below w.heap.size w w2 := by rw [hw2]; exact below_setChan hb (Nat.le_refl _) _ _ _ _ _ _
    rw [← hw2]
    refine opsN_nil ?_
    simp [Exit.inBlock, Exit.then, Act.put]
    refine hK2 _ _ (codeN_of ?_)
    clear hK2 hc hb hw2 hmk
    go_wp2_with fail
    refine ⟨⟨j + 1, by omega, ⟨_, _, _, _, _, _, _, _, _, _, _, _, _, _, _, rfl⟩, hc2, hb2⟩, ?_⟩
    simp [intOf]
    omega
  · have e2 : IntKind.i64.wrap ((j : Int) + (k : Int)) = (j : Int) + (k : Int) := by rw [IntKind.wrap_i64]; omega
    refine codeN_seq_k fun K1 hK1 => codeN_of ?_
    go_wp2_with fail
    obtain rfl : j = s.length + 1 - k := by omega
    obtain ⟨w2, hw2⟩ : ∃ w2, w2 = wr.setChan w.heap.size (s.length + 1) ((windsTo s k (s.length + 1 - k)).map S).toArray true (s.length + 1 - k) 0 false := ⟨_, rfl⟩
    have hc2 : w2.heap[w.heap.size]? = some (.chan (s.length + 1) ((windsTo s k (s.length + 1 - k)).map S).toArray true (s.length + 1 - k) 0 false) := by
      rw [hw2, heap_setChan _ _ _ _ _ _ _ _ hlt]
    have hb2 : Below w.heap.size w w2 := by rw [hw2]; exact below_setChan hb (Nat.le_refl _) _ _ _ _ _ _
    have hcl := fun ats ty => run_close_open (P := Try.prog) (w := wr) ats ty hc
    have hw3 := hw2
    unfold World.setChan at hw3
    rw [← hw3] at hcl
    clear hw2 hw3 hc hb hmk
    refine codeN_seq_k fun K2 hK2 => codeN_of ?_
    go_wp2_with fail
    refine codeN_of ?_
    go_wp2_with fail
    go_ret
    exact ⟨_, rfl, Nat.le_refl _, hc2, hb2⟩
end Go.Proofs.Ytfbmcfdmffpfmaa
