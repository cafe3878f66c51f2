/-
  Points with distances: the program's search, from what is left.
-/
import Derived.Test.YtopmifidhabobaaPli
namespace Go.Proofs.Ytopmifidhabobaa
open Go.RowKit Go.Sort
set_option linter.unusedVariables false
set_option linter.unusedSimpArgs false

theorem info_parts2 {x : Option TypeInfo} {z : Value} {s b : Nat} (h : x.map (fun i => (i.zero, i.size, i.bytes)) = some (some z, s, b)) : ∃ i, x = some i ∧ i.zero = some z ∧ i.size = s ∧ i.bytes = b := by
  cases x with
  | none => cases h
  | some i => simp at h; exact ⟨i, rfl, h.1, h.2.1, h.2.2⟩
theorem Try.infoSI2 : (Try.prog.info? 22).map (fun i => (i.zero, i.size, i.bytes)) = some (some (.slice none 0 0), 1, 24) := by kernel_rfl
set_option maxRecDepth 8000 in
set_option maxHeartbeats 3200000 in
theorem from_end (A : Option Addr) (n c : Nat) (pts : List Int) (Af : Option Addr) (nf cf : Nat) (P : List SP) (A2 : Option Addr) (c2 : Nat) (B R : Nat) (w : World)
    (hst : St w B R A n c pts Af nf cf P) (hn : n ≤ 1000) (hP : P.length ≤ 1000000) (hB : B ≤ w.heap.size) :
    Calls Try.prog 89 #[.pointer (some ⟨R, 0, none⟩), .slice A2 0 c2] w (FromPost w B R A n c pts Af nf cf P [srt pts]) := by
  obtain ⟨i1, hj, hy0, hy1, hy2⟩ := info_parts2 Try.infoSI2
  have hc0 : w.cell? ⟨R, 0, none⟩ = some (.slice A n c) := by rw [cell_of_row w R 0 _ _ (0, 0) hst.obj]; rfl
  have hc1 : w.cell? ⟨R, 1, none⟩ = some (.slice Af nf cf) := by rw [cell_of_row w R 1 _ _ (0, 0) hst.obj]; rfl
  have hRlt := hst.lt
  have hlf : P.length = nf := by have := hst.frow.len; simpa using this
  go_enter Try.func89, Try.ntmps89
  go_wp2_with fail
  refine wp_region_noPanic ?_
  refine region_plain (fun w' => w'.cell? ⟨R, 0, none⟩ = some (.slice A n c) ∧ w'.cell? ⟨R, 1, none⟩ = some (.slice Af nf cf)) 15 (by kernel_rfl) ?_
  have hS : w.drew.cell? ⟨R, 0, none⟩ = some (.slice A n c) ∧ w.drew.cell? ⟨R, 1, none⟩ = some (.slice Af nf cf) := ⟨hc0, hc1⟩
  refine take_T 0 (.pointer (some ⟨R, 0, none⟩)) #[true, false, false, false, false, false, false, false, false, false, false, false, false, false, false, false] rfl (by kernel_rfl) (fun _ _ _ h => h) (by simp [Region.wanted, yielded, Act.put]) (fun w' hS => by obtain ⟨h1, h2⟩ := hS; simp [go_sem, execOp, Act.eval, Act.put, h1, h2]) hS ?_
  refine take_T 1 (.pointer (some ⟨R, 0, none⟩)) #[true, true, false, false, false, false, false, false, false, false, false, false, false, false, false, false] rfl (by kernel_rfl) (fun _ _ _ h => h) (by simp [Region.wanted, yielded, Act.put]) (fun w' hS => by obtain ⟨h1, h2⟩ := hS; simp [go_sem, execOp, Act.eval, Act.put, h1, h2]) hS ?_
  refine take_T 2 (.pointer (some ⟨R, 0, none⟩)) #[true, true, true, false, false, false, false, false, false, false, false, false, false, false, false, false] rfl (by kernel_rfl) (fun _ _ _ h => h) (by simp [Region.wanted, yielded, Act.put]) (fun w' hS => by obtain ⟨h1, h2⟩ := hS; simp [go_sem, execOp, Act.eval, Act.put, h1, h2]) hS ?_
  refine take_T 3 (.pointer (some ⟨R, 1, none⟩)) #[true, true, true, true, false, false, false, false, false, false, false, false, false, false, false, false] rfl (by kernel_rfl) (fun _ _ _ h => h) (by simp [Region.wanted, yielded, Act.put]) (fun w' hS => by obtain ⟨h1, h2⟩ := hS; simp [go_sem, execOp, Act.eval, Act.put, h1, h2]) hS ?_
  refine take_T 4 (.slice Af nf cf) #[true, true, true, true, true, false, false, false, false, false, false, false, false, false, false, false] rfl (by kernel_rfl) (fun _ _ _ h => h) (by simp [Region.wanted, yielded, Act.put]) (fun w' hS => by obtain ⟨h1, h2⟩ := hS; simp [go_sem, execOp, Act.eval, Act.put, h1, h2]) hS ?_
  refine take_T 5 (.pointer (some ⟨R, 0, none⟩)) #[true, true, true, true, true, true, false, false, false, false, false, false, false, false, false, false] rfl (by kernel_rfl) (fun _ _ _ h => h) (by simp [Region.wanted, yielded, Act.put]) (fun w' hS => by obtain ⟨h1, h2⟩ := hS; simp [go_sem, execOp, Act.eval, Act.put, h1, h2]) hS ?_
  refine take_T 6 (.pointer (some ⟨R, 0, none⟩)) #[true, true, true, true, true, true, true, false, false, false, false, false, false, false, false, false] rfl (by kernel_rfl) (fun _ _ _ h => h) (by simp [Region.wanted, yielded, Act.put]) (fun w' hS => by obtain ⟨h1, h2⟩ := hS; simp [go_sem, execOp, Act.eval, Act.put, h1, h2]) hS ?_
  refine take_T 7 (.pointer (some ⟨R, 0, none⟩)) #[true, true, true, true, true, true, true, true, false, false, false, false, false, false, false, false] rfl (by kernel_rfl) (fun _ _ _ h => h) (by simp [Region.wanted, yielded, Act.put]) (fun w' hS => by obtain ⟨h1, h2⟩ := hS; simp [go_sem, execOp, Act.eval, Act.put, h1, h2]) hS ?_
  refine take_T 8 (.slice A n c) #[true, true, true, true, true, true, true, true, true, false, false, false, false, false, false, false] rfl (by kernel_rfl) (fun _ _ _ h => h) (by simp [Region.wanted, yielded, Act.put]) (fun w' hS => by obtain ⟨h1, h2⟩ := hS; simp [go_sem, execOp, Act.eval, Act.put, h1, h2]) hS ?_
  refine only_T 9 #[true, true, true, true, true, true, true, true, true, true, false, false, false, false, false, false] rfl (by kernel_rfl) (by simp [Region.wanted]) ?_
  go_wp2_with fail
  refine ((callsIn_wide (n := 5)).1 (Values_any 5 A n c w.drew)).mono ?_
  rintro e w1 ⟨rfl, rfl⟩
  have hbd : Below w.heap.size w w.drew := (Below.refl w.heap.size w).drew
  have hb1 : Below w.heap.size w (w.drew.alloc (.cells #[.slice A n c] 22)) := kp_alloc _ hbd (Nat.le_refl _)
  have hst1 := hst.below hb1
  have hSt : ∀ w', Below w.heap.size w w' → w'.cell? ⟨R, 0, none⟩ = some (.slice A n c) ∧ w'.cell? ⟨R, 1, none⟩ = some (.slice Af nf cf) := fun w' h => ⟨(h.cell (p := ⟨R, 0, none⟩) hRlt).trans hc0, (h.cell (p := ⟨R, 1, none⟩) hRlt).trans hc1⟩
  refine ⟨hSt _ hb1, ?_⟩
  refine only_T 10 #[true, true, true, true, true, true, true, true, true, true, true, false, false, false, false, false] rfl (by kernel_rfl) (by simp [Region.wanted]) ?_
  have hSo := Sorted_any w.heap.size A n c pts (w.drew.alloc (.cells #[.slice A n c] 22)) (Boxed.new w.drew _ _) (hst1.prow.rd) (by omega)
  go_wp2_with fail
  refine hSo.mono ?_
  rintro e w2 ⟨A2', n2, c2', rfl, hrow2, hb2⟩
  have hB2 : Below w.heap.size w w2 := hb1.trans (hb2.mono hb1.size)
  have hs1 : w.heap.size + 1 ≤ w2.heap.size := by have := hb2.size; simpa using this
  have hge2 : ∀ k, (Value.slice A2' n2 c2').ownBlock = some k → w.heap.size + 1 ≤ k := fun k hk => by have := row_ge hrow2 k hk; simpa using this
  clear hSo
  refine ⟨hSt _ hB2, ?_⟩
  refine only_T 11 #[true, true, true, true, true, true, true, true, true, true, true, true, false, false, false, false] rfl (by kernel_rfl) (by simp [Region.wanted]) ?_
  simp [go_sem, Oper.wp, execOp, Act.eval, Act.put]
  have hst2 := hst.below hB2
  refine ⟨hSt _ (kp_alloc _ hB2 (Nat.le_refl _)), ?_⟩
  refine only_T 12 #[true, true, true, true, true, true, true, true, true, true, true, true, true, false, false, false] rfl (by kernel_rfl) (by simp [Region.wanted]) ?_
  refine wp_app_at _ _ _ 23 rfl B 22 i1 (.slice none 0 0) 24 Try.underlying23 hj hy0 hy1 hy2 rfl Af nf cf (P.map V) rfl (hst2.frow.alloc _) ⟨w2.heap.size, 0, none⟩ 1 1 [.slice A2' n2 c2'] rfl rfl (cell_one_new _ _ _) (by simp [Value.oneCell']) (nf + 1) rfl (by omega) (by omega) (by simp; omega) ?_
  intro A7 c7 w7 hrow7 hg7 hat7
  have hs7 : w2.heap.size + 1 ≤ w7.heap.size := by have := hg7.size; simpa using this
  have hblk7 : ∀ b, b < w2.heap.size → ob Af nf cf ≠ some b → w7.heap[b]? = w2.heap[b]? := fun b h1 h2 =>
    (hg7.block b (by simp; omega) (fun e => h2 e.symm)).trans (Below.heap_alloc w2 _ _ h1)
  have hob7 : w7.heap[R]? = some (.cells #[.slice A n c, .slice Af nf cf] 50 (0, 0)) := (hblk7 R (by omega) hst.ne_f).trans hst2.obj
  have hc70 : w7.cell? ⟨R, 0, none⟩ = some (.slice A n c) := by rw [cell_of_row w7 R 0 _ _ (0, 0) hob7]; rfl
  have hc71 : w7.cell? ⟨R, 1, none⟩ = some (.slice Af nf cf) := by rw [cell_of_row w7 R 1 _ _ (0, 0) hob7]; rfl
  have hf71 := frozen_of_row w7 R 1 _ _ hob7
  refine ⟨fun _ => ⟨hc70, hc71⟩, ?_⟩
  refine only_T 13 #[true, true, true, true, true, true, true, true, true, true, true, true, true, true, false, false] rfl (by kernel_rfl) (by simp [Region.wanted]) ?_
  simp [go_sem, Oper.wp, execOp, Act.eval, Act.put]
  refine ⟨⟨hc70, hc71⟩, ?_⟩
  refine only_T 14 #[true, true, true, true, true, true, true, true, true, true, true, true, true, true, true, false] rfl (by kernel_rfl) (by simp [Region.wanted]) ?_
  simp [go_sem, Oper.wp, execOp, Act.eval, Act.put]
  refine ⟨⟨hc70, hc71⟩, ?_⟩
  refine only_T 15 #[true, true, true, true, true, true, true, true, true, true, true, true, true, true, true, true] rfl (by kernel_rfl) (by simp [Region.wanted]) ?_
  simp [go_sem, Oper.wp, execOp, Act.eval, Act.put, hc71, hf71]
  refine done_T (by kernel_rfl) ?_
  refine NoPanic.normal ?_
  have hnew := heap_setCell_same w7 R 1 _ _ (.slice A7 (nf + 1) c7) hob7
  obtain ⟨W, hW⟩ : ∃ W, W = w7.setCell ⟨R, 1, none⟩ (.slice A7 (nf + 1) c7) := ⟨_, rfl⟩
  rw [← hW] at hnew ⊢
  have hblkW : ∀ b, b < w2.heap.size → ob Af nf cf ≠ some b → b ≠ R → W.heap[b]? = w2.heap[b]? := fun b h1 h2 h3 => by
    rw [hW]
    exact (Below.heap_setCell _ _ _ _ (by show b ≠ R; exact h3)).trans (hblk7 b h1 h2)
  have hsW : w7.heap.size = W.heap.size := by rw [hW]; simp
  have hnw7 : Nw w2 (ob Af nf cf) (ob A7 (nf + 1) c7) := by
    rcases hat7 with h | h
    · exact .inl h
    · exact .inr ⟨_, h, by simp⟩
  have hne7 : ob A7 (nf + 1) c7 ≠ some R := hnw7.ne (by omega) hst.ne_f
  have hfrW : Fr R (ob A n c) (ob Af nf cf) w2 W := by
    refine ⟨?_, ?_, ?_, by omega, fun b h1 h2 _ h4 => hblkW b h1 h4 h2⟩
    · rw [hW]; exact hg7.os
    · rw [hW]; exact hg7.tape
    · rw [hW]; exact hg7.output
  have hin2 := OwnP.fr hst2 hfrW (.inr rfl)
  have hgeA : ∀ g, ob A n c = some g → g < w.heap.size := fun g hg => by
    obtain ⟨cur, hc⟩ := row_own hst.prow hg
    exact (Array.getElem?_eq_some_iff.1 hc).1
  have hfin : ∀ w', w' = W → FromPost w B R A n c pts Af nf cf P [srt pts] (.returned (.tuple #[])) w' := by
    rintro w' rfl
    have hown2 : Own w' B 3 A2' n2 c2' ((srt pts).map I) := by
      obtain ⟨o1, o2, o3, o4⟩ := hrow2.own
      refine ⟨o1, o2, o3, fun hn2 => ?_⟩
      obtain ⟨g, cur, e, hg, hh, ht⟩ := o4 hn2
      obtain ⟨n1, n2'⟩ := hst2.in_ne hh
      exact ⟨g, cur, e, by have := hge2 g (by rw [e]; rfl); omega, (hblkW g (Array.getElem?_eq_some_iff.1 hh).1 n2' n1).trans hh, ht⟩
    refine ⟨rfl, A, c, A7, nf + 1, c7, [((A2', n2, c2'), srt pts)], ?_, rfl, ?_, .refl _ _, (Nw.refl _ _).trans hnw7 (by omega)⟩
    · refine ⟨by simpa using hnew, ?_, ?_, hin2.snoc hown2, hst.hR, fun p hp g hpn hpg => ?_, ?_⟩
      · refine Row.keep2 hst2.prow (fun j hj hjl => hblkW j hjl (hst2.ne_pf hj) ?_)
        rintro rfl; exact hst.ne_p hj
      · rw [List.map_append, hW]
        exact Row.keep2 hrow7 (fun j hj _ => Below.heap_setCell _ _ _ _ (by show j ≠ R; rintro rfl; exact hne7 hj))
      · rw [List.mem_append, List.mem_singleton] at hp
        rcases hp with hp | rfl
        · exact hst.apart p hp g hpn hpg
        · intro e
          have h1 := hgeA g e
          have h2 := hge2 g (by dsimp only at hpg; rw [hpg]; rfl)
          omega
      · unfold DistP
        rw [List.pairwise_append]
        refine ⟨hst.dist, by simp, fun p hp q hq g hpn hqn hpg hqg => ?_⟩
        rw [List.mem_singleton] at hq
        subst hq
        obtain ⟨_, _, _, h4⟩ := hst.own p hp
        obtain ⟨g', cur, e, _, hh, _⟩ := h4 hpn
        rw [hpg] at e
        injection e with e
        injection e with e1 e2
        subst e1
        have h1 := (Array.getElem?_eq_some_iff.1 hh).1
        have h2 := hge2 g (by dsimp only at hqg; rw [hqg]; rfl)
        omega
    · exact (Fr.of_below hB2).trans hfrW (.refl _ _) (.refl _ _)
  clear hW
  go_wp2_with fail
  refine bodyPost_ret (results_none rfl _ _ _) rfl ?_
  exact hfin _ rfl
theorem maxOf_mxl {pts : List Int} (h : ∀ p ∈ pts, 0 ≤ p) (h1 : 1 ≤ pts.length) : Lib.maxOf pts = mxl pts := by
  unfold Lib.maxOf mxl
  cases pts with
  | nil => simp at h1
  | cons a l =>
    have := h a (by simp)
    simp only [List.headD_cons, List.foldl_cons]
    rw [Int.max_self, Int.max_eq_right this]
theorem mxl_range {pts : List Int} (h : ∀ p ∈ pts, 0 ≤ p ∧ p ≤ 60) : 0 ≤ mxl pts ∧ mxl pts ≤ 60 := by
  rcases mxl_mem pts 0 with h1 | h1
  · unfold mxl; omega
  · have := h _ h1; unfold mxl; omega
theorem last_at {l : List Int} {m : Nat} {x : Int} (h : l.length = m + 1) (hx : l[m]? = some x) : l.getLastD 0 = x := by
  rw [List.getLastD_eq_getLast?, List.getLast?_eq_getElem?, h, Nat.add_sub_cancel, hx]
  rfl
set_option maxRecDepth 8000 in
set_option maxHeartbeats 3200000 in
theorem from_any (f : Nat) : FromOk f := by
  induction f with
  | zero =>
    intro A n c pts Af nf cf P A2 n2 c2 left B R w hst hlf hl hnum hP hB
    obtain rfl := List.eq_nil_of_length_eq_zero (show left.length = 0 by omega)
    obtain rfl : n2 = 0 := by have := hlf.1.ilen; simpa using this.symm
    have hn := hst.prow.len
    rw [List.length_map] at hn
    have e : lvI 0 pts [] = [srt pts] := by rw [lvI, if_pos rfl]
    rw [e]
    exact from_end A n c pts Af nf cf P A2 c2 B R w hst (by have := hnum.2.2.2.2; omega) (by have : P.length + 2 ^ 0 ≤ _ := hP; omega) hB
  | succ f ih =>
    intro A n c pts Af nf cf P A2 n2 c2 left B R w hst hlf hl hnum hP hB
    have hn := hst.prow.len
    rw [List.length_map] at hn
    by_cases hne : left = []
    · subst hne
      obtain rfl : n2 = 0 := by have := hlf.1.ilen; simpa using this.symm
      have e : lvI (f + 1) pts [] = [srt pts] := by rw [lvI, if_pos rfl]
      rw [e]
      exact from_end A n c pts Af nf cf P A2 c2 B R w hst (by have := hnum.2.2.2.2; omega) (by have : 1 ≤ 2 ^ (f + 1) := Nat.one_le_two_pow; omega) hB
    · have hlr : left.length = n2 := hlf.1.ilen
      have hn21 : 1 ≤ n2 := by rw [← hlr]; exact List.length_pos_iff.2 hne
      obtain ⟨m, rfl⟩ : ∃ m, n2 = m + 1 := ⟨n2 - 1, by omega⟩
      obtain ⟨b2, o2, far, rfl, hb2, hfar, hcf⟩ := hlf.1.int (show m < m + 1 by omega)
      have hfar60 := hnum.2.2.1 far (List.mem_of_getElem? hfar)
      have hlast := last_at hlr hfar
      have hmx := mxl_range hnum.2.1
      obtain ⟨gA, _, hgA, _⟩ := hst.prow.blk (g := 0) (show 0 < n by have := hnum.1; omega)
      subst hgA
      have hMax := fun w' (hr : Rd w' w'.heap.size (some ⟨gA, 0, none⟩) n c (pts.map I)) => Try.slices_Max_int gA 0 n c pts w' (by have := hnum.1; omega) (by omega) (by have := hnum.2.2.2.2; omega) hr.getD
      rw [List.take_of_length_le (by omega), maxOf_mxl (fun p hp => (hnum.2.1 p hp).1) hnum.1] at hMax
      obtain ⟨mx, hmxe⟩ : ∃ mx, mx = mxl pts := ⟨_, rfl⟩
      rw [← hmxe] at hMax hmx
      have HL := Lib.hid (show lvI (f + 1) pts left = tryI (lvI f) pts left far ++ tryI (lvI f) pts left (mx - far) by rw [lvI, if_neg hne, hlast, hmxe])
      have hc0 : w.cell? ⟨R, 0, none⟩ = some (.slice (some ⟨gA, 0, none⟩) n c) := by rw [cell_of_row w R 0 _ _ (0, 0) hst.obj]; rfl
      have hRlt := hst.lt
      have m0 : (m : Int) < (m : Int) + 1 := by omega
      have m1 : (0 : Int) ≤ (m : Int) := by omega
      have e1 : IntKind.i64.wrap ((m : Int) + 1 - 1) = (m : Int) := by rw [IntKind.wrap_i64]; have := hnum.2.2.2.2; omega
      have e2 : ((m : Int) + 1 - 1) = (m : Int) := by omega
      have e3 : IntKind.i64.wrap (m : Int) = (m : Int) := by rw [IntKind.wrap_i64]; have := hnum.2.2.2.2; omega
      have e4 : IntKind.i64.wrap (mx - far) = mx - far := by rw [IntKind.wrap_i64]; omega
      clear hmxe hlast hfar
      go_enter Try.func89, Try.ntmps89
      go_wp2_with fail
      go_quiet ((go_at_call 108; exact Calls.quiet_of_same (hMax _ (hst.prow.rd.drewN _))))
      go_wp2_with fail
      obtain ⟨W0, hW0⟩ : ∃ W0, W0 = (w.drewN nq).alloc (.cells #[.int .i64 far, .int .i64 (mx - far)] 3) := ⟨_, rfl⟩
      have hb0 : Below w.heap.size w W0 := by rw [hW0]; exact kp_alloc _ (bel_drewN (Below.refl _ _) nq) (Nat.le_refl _)
      have hs0 : W0.heap.size = w.heap.size + 1 := by rw [hW0]; simp
      have hst0 := hst.below hb0
      have hlf0 : Lf W0 R (ob (some ⟨gA, 0, none⟩) n c) (ob Af nf cf) (some ⟨b2, o2, none⟩) (m + 1) c2 left := hlf.step (.of_below hb0) (.refl _ _) (.refl _ _)
      have hlit : Lf W0 R (ob (some ⟨gA, 0, none⟩) n c) (ob Af nf cf) (some ⟨w.heap.size, 0, none⟩) 2 2 [far, mx - far] := by
        refine ⟨?_, fun b o _ e => ?_⟩
        · have h := rd_litAt (w := w.drewN nq) w.heap.size rfl #[.int .i64 far, .int .i64 (mx - far)] 3 2 _ rfl rfl (by omega)
          rw [hW0]
          exact h
        · injection e with e
          injection e with e1 e2
          subst e1
          refine ⟨by omega, fun e => ?_, fun e => ?_⟩
          · obtain ⟨cur, hc⟩ := row_own hst.prow e
            have := (Array.getElem?_eq_some_iff.1 hc).1
            omega
          · obtain ⟨cur, hc⟩ := row_own hst.frow e
            have := (Array.getElem?_eq_some_iff.1 hc).1
            omega
      have hpow : 2 ^ (f + 1) = 2 * 2 ^ f := by rw [Nat.pow_succ, Nat.mul_comm]
      have ht1 := tryI_len (pts := pts) (left := left) (lvI_len f) far
      obtain ⟨T1, hT1⟩ : ∃ T1, T1 = tryI (lvI f) pts left far := ⟨_, rfl⟩
      obtain ⟨T2, hT2⟩ : ∃ T2, T2 = tryI (lvI f) pts left (mx - far) := ⟨_, rfl⟩
      rw [← hT1] at ht1
      have H1 := Lib.hid hT1
      have H2 := Lib.hid hT2
      rw [← hW0]
      clear hW0 hT1 hT2 hMax hc0
      go_loopw [43] (fun i wr => ∃ (k : Nat) (A' : Option Addr) (c' : Nat) (Af' : Option Addr) (nf' cf' : Nat) (Q : List SP), k ≤ 2 ∧ i = .int .i64 k ∧ St wr B R A' n c' pts Af' nf' cf' (P ++ Q) ∧ Q.map Prod.snd = (if 1 ≤ k then T1 else []) ++ (if 2 ≤ k then T2 else []) ∧ Fr R (ob (some ⟨gA, 0, none⟩) n c) (ob Af nf cf) W0 wr ∧ Nw W0 (ob (some ⟨gA, 0, none⟩) n c) (ob A' n c') ∧ Nw W0 (ob Af nf cf) (ob Af' nf' cf')) (fun i _ => 2 - (intOf i).toNat)
      case atStart => exact ⟨0, _, c, Af, nf, cf, [], by omega, rfl, by rw [List.append_nil]; exact hst0, rfl, .of_below (Below.refl _ _), .refl _ _, .refl _ _⟩
      case round =>
        obtain ⟨k, A', c', Af', nf', cf', Q, hk, rfl, hstk, hQ, hfr, hnp, hnf⟩ := hrel
        have HQ := Lib.hid hQ
        have hlk := hlf0.step hfr hnp hnf
        have hik := hlit.step hfr hnp hnf
        have hsk := hfr.size
        clear hQ
        by_cases hlt : k < 2
        · obtain ⟨x, hx, hcx⟩ := hik.1.int_at hlt
          rw [Nat.zero_add] at hcx
          have hlt' : (k : Int) < 2 := by omega
          have k0 : (0 : Int) ≤ (k : Int) := by omega
          have e5 : IntKind.i64.wrap ((k : Int) + 1) = (k : Int) + 1 := by rw [IntKind.wrap_i64]; omega
          have hQl : (P ++ Q).length + 2 ^ f ≤ 1000000 := by
            have h := congrArg List.length HQ.out
            rw [List.length_map] at h
            rw [List.length_append]
            rcases (show k = 0 ∨ k = 1 by omega) with rfl | rfl
            · simp at h; rw [h]; simp; omega
            · simp at h; omega
          have hxr : -60 ≤ x ∧ x ≤ 60 := by
            rcases (show k = 0 ∨ k = 1 by omega) with rfl | rfl
            · simp at hx; omega
            · simp at hx; omega
          have hT := try_any f ih A' n c' pts Af' nf' cf' (P ++ Q) (some ⟨b2, o2, none⟩) (m + 1) c2 left B R x wr hstk hlk hne hl hnum hQl (by omega) hxr
          have Hx := Lib.hid hx
          clear hx hlk hik
          go_wp2_with fail
          refine hT.mono ?_
          rintro e w5 ⟨rfl, A5, c5, Af5, nf5, cf5, Q5, hst5, hQ5, hfr5, hnp5, hnf5⟩
          have HQ5 := Lib.hid hQ5
          clear hT hQ5
          go_wp2_with fail
          go_roundw
          case rel =>
            have hq : (Q ++ Q5).map Prod.snd = (if 1 ≤ k + 1 then T1 else []) ++ (if 2 ≤ k + 1 then T2 else []) := by
              rw [List.map_append, HQ.out, HQ5.out]
              have hx := Hx.out
              rcases (show k = 0 ∨ k = 1 by omega) with rfl | rfl
              · simp at hx
                subst hx
                simp [H1.out]
              · simp at hx
                subst hx
                simp [H2.out]
            have hst6 : St w5 B R A5 n c5 pts Af5 nf5 cf5 (P ++ (Q ++ Q5)) := by rw [← List.append_assoc]; exact hst5
            repeat apply Exists.intro
            exact ⟨⟨k + 1, A5, c5, Af5, nf5, cf5, Q ++ Q5, by omega, by go_num, hst6, hq, hfr.trans hfr5 hnp hnf, hnp.trans hnp5 hsk, hnf.trans hnf5 hsk⟩, rfl⟩
          case measure => simp [intOf]; omega
        · obtain rfl : k = 2 := by omega
          go_wp2_with fail
          go_end0
          refine ⟨rfl, A', c', Af', nf', cf', Q, hstk, ?_, (Fr.of_below hb0).trans hfr (.refl _ _) (.refl _ _), (Nw.refl _ _).trans hnp (by omega), (Nw.refl _ _).trans hnf (by omega)⟩
          rw [HQ.out, HL.out, ← H1.out, ← H2.out]
          simp
end Go.Proofs.Ytopmifidhabobaa
