/-
  Points with distances: the reference's search.
-/
import Derived.Test.YtopmifidhabobaaPlu
namespace Go.Proofs.Ytopmifidhabobaa
open Go.RowKit Go.Sort
set_option linter.unusedVariables false
set_option linter.unusedSimpArgs false

/-- The lists found so far, behind k tries. -/
def Dk (T1 T2 L : List (List Int)) (k : Nat) : List (List Int) := if k = 0 then L else if k = 1 then T1.foldl insU L else T2.foldl insU (T1.foldl insU L)
theorem insU_len (L : List (List Int)) (x : List Int) : (insU L x).length ≤ L.length + 1 := by
  unfold insU
  split
  · omega
  · have := congrArg List.length (List.takeWhile_append_dropWhile (p := fun y => ltL y x) (l := L))
    rw [List.length_append] at this
    rw [List.length_append, List.length_cons]
    omega
theorem fold_len (M : List (List Int)) : ∀ L : List (List Int), (M.foldl insU L).length ≤ L.length + M.length := by
  induction M with
  | nil => intro L; simp
  | cons x M ih =>
    intro L
    have h1 := ih (insU L x)
    have h2 := insU_len L x
    rw [List.foldl_cons, List.length_cons]
    omega
def PlaceOk (f : Nat) : Prop := ∀ (Ap : Option Addr) (np cp : Nat) (pts : List Int) (Al : Option Addr) (nl cl : Nat) (left : List Int) (top : Int) (g n c : Nat) (P : List SP) (B : Nat) (w : World),
  Rd w w.heap.size Ap np cp (pts.map I) → Rd w w.heap.size Al nl cl (left.map I) → Row w B 22 (some ⟨g, 0, none⟩) n c (P.map V) → OwnP w B P → Asc (P.map Prod.snd) → Got top pts left → top ≤ 60 → pts.length + left.length ≤ 40 → left.length ≤ f → P.length + 2 ^ f ≤ 1000000 → B ≤ w.heap.size →
  Calls Try.prog 48 #[.slice Ap np cp, .slice Al nl cl, .int .i64 top, .slice (some ⟨g, 0, none⟩) n c] w (PF w B ((lvS f top pts left).foldl insU (P.map Prod.snd)))
set_option maxRecDepth 8000 in
set_option maxHeartbeats 12800000 in
theorem place_any (f : Nat) : PlaceOk f := by
  induction f with
  | zero =>
    intro Ap np cp pts Al nl cl left top g n c P B w hrp hrl hrow hin ha hgot ht hsum hl hP hB
    obtain rfl := List.eq_nil_of_length_eq_zero (show left.length = 0 by omega)
    obtain rfl : nl = 0 := by have := hrl.ilen; simpa using this.symm
    have hn := hrow.len
    have hn2 := hrp.ilen
    rw [List.length_map] at hn
    have e : lvS 0 top pts [] = [srt pts] := by rw [lvS, if_pos rfl]
    rw [e]
    exact place_end Ap np cp pts Al cl top g n c P B w hrp hrow hin ha (by omega) (by omega) hB
  | succ f ih =>
    intro Ap np cp pts Al nl cl left top g n c P B w hrp hrl hrow hin ha hgot ht hsum hl hP hB
    have hn := hrow.len
    have hn2 := hrp.ilen
    rw [List.length_map] at hn
    have h2f : 1 ≤ 2 ^ f := Nat.one_le_two_pow
    have hpow : 2 ^ (f + 1) = 2 ^ f + 2 ^ f := by rw [Nat.pow_succ]; omega
    by_cases hne : left = []
    · subst hne
      obtain rfl : nl = 0 := by have := hrl.ilen; simpa using this.symm
      have e : lvS (f + 1) top pts [] = [srt pts] := by rw [lvS, if_pos rfl]
      rw [e]
      exact place_end Ap np cp pts Al cl top g n c P B w hrp hrow hin ha (by omega) (by omega) hB
    · have hlr : left.length = nl := hrl.ilen
      have hn21 : 1 ≤ nl := by rw [← hlr]; exact List.length_pos_iff.2 hne
      obtain ⟨m, rfl⟩ : ∃ m, nl = m + 1 := ⟨nl - 1, by omega⟩
      have hp1 : 1 ≤ pts.length := List.length_pos_of_mem hgot.zero
      obtain ⟨bl, ol, far, rfl, hbl, hfar, hcf⟩ := hrl.int (show m < m + 1 by omega)
      obtain ⟨bp, op, _, rfl, hbp, _, _⟩ := hrp.int (show 0 < np by omega)
      have hlast := last_at hlr hfar
      have hfr := hgot.left_ far (List.mem_of_getElem? hfar)
      have Hpts := Lib.hid (show ∀ p ∈ pts, 0 ≤ p ∧ p ≤ 60 from fun p hp => by have := hgot.all p hp; omega)
      have Hlp := Lib.hid hn2
      obtain ⟨T1, hT1⟩ : ∃ T1, T1 = tryS (lvS f top) pts left far := ⟨_, rfl⟩
      obtain ⟨T2, hT2⟩ : ∃ T2, T2 = if far = top - far then [] else tryS (lvS f top) pts left (top - far) := ⟨_, rfl⟩
      have h1l : T1.length ≤ 2 ^ f := by rw [hT1]; exact tryS_len (lvS_len f top) far
      have HD := Lib.hid (show Dk T1 T2 (P.map Prod.snd) 2 = (lvS (f + 1) top pts left).foldl insU (P.map Prod.snd) by
        rw [lvS, if_neg hne, hlast, List.foldl_append, ← hT1, ← hT2]
        rfl)
      have hA1 := (fold_insU T1 _ ha).1
      have hL1 := fold_len T1 (P.map Prod.snd)
      rw [List.length_map] at hL1
      obtain ⟨i0, hi, hz0, hz1, hz2⟩ := info_parts Try.infoI
      have m0 : (m : Int) < (m : Int) + 1 := by omega
      have m1 : (0 : Int) ≤ (m : Int) := by omega
      have e1 : IntKind.i64.wrap ((m : Int) + 1 - 1) = (m : Int) := by rw [IntKind.wrap_i64]; omega
      have e2 : ((m : Int) + 1 - 1) = (m : Int) := by omega
      have e3 : IntKind.i64.wrap (m : Int) = (m : Int) := by rw [IntKind.wrap_i64]; omega
      have e4 : IntKind.i64.wrap (top - far) = top - far := by rw [IntKind.wrap_i64]; have := hgot.all top hgot.top_; omega
      have hz9 : (((m : Int) + 1) == 0) = false := by simpa using (by omega : ¬ (m : Int) + 1 = 0)
      have htop := hgot.all top hgot.top_
      obtain ⟨W1, hW1⟩ : ∃ W1, W1 = w.alloc (.cells #[.int .i64 far, .int .i64 (top - far)] 3) := ⟨_, rfl⟩
      have HW1 := Lib.hid (show W1.heap.size = w.heap.size + 1 by rw [hW1]; simp)
      have Hw1 := Lib.hid (show Below w.heap.size w W1 by rw [hW1]; exact kp_alloc _ (.refl _ _) (Nat.le_refl _))
      have hT0c : W1.cell? ⟨w.heap.size, 0, none⟩ = some (.int .i64 far) := by rw [hW1, cell_of_row _ _ 0 _ _ (0, 0) (heap_al0 w _)]; rfl
      have hT1c : W1.cell? ⟨w.heap.size, 1, none⟩ = some (.int .i64 (top - far)) := by rw [hW1, cell_of_row _ _ 1 _ _ (0, 0) (heap_al0 w _)]; rfl
      have hrow1 := hrow.kept Hw1.out
      have hin1 := hin.below Hw1.out
      clear hrow hin hlast hfar hne
      go_enter Try.func48, Try.ntmps48
      go_wp2_with fail
      rw [← hW1]
      clear hW1 hcf
      go_loopw [3, 13] (fun v i wr => ∃ (k g' n' c' : Nat) (P' : List SP), k ≤ 2 ∧ i = .int .i64 k ∧ v = .slice (some ⟨g', 0, none⟩) n' c' ∧ Row wr B 22 (some ⟨g', 0, none⟩) n' c' (P'.map V) ∧ OwnP wr B P' ∧ P'.map Prod.snd = Dk T1 T2 (P.map Prod.snd) k ∧ Below (w.heap.size + 1) W1 wr) (fun _ i _ => 2 - (intOf i).toNat)
      case atStart => exact ⟨0, g, n, c, P, by omega, rfl, rfl, hrow1, hin1, rfl, Below.refl _ _⟩
      case round =>
        obtain ⟨k, g', n', c', P', hk, rfl, rfl, hrowP, hinP, hPs, hbw⟩ := hrel
        have hPl : P'.length = (Dk T1 T2 (P.map Prod.snd) k).length := by rw [← hPs, List.length_map]
        have HP := Lib.hid hPs
        have hcT0 := (hbw.cell (p := ⟨w.heap.size, 0, none⟩) (Nat.lt_succ_self _)).trans hT0c
        have hcT1 := (hbw.cell (p := ⟨w.heap.size, 1, none⟩) (Nat.lt_succ_self _)).trans hT1c
        have hbe : Below w.heap.size w wr := Hw1.out.trans (hbw.mono (Nat.le_succ _))
        clear hPs hrow1 hin1
        rcases (show k = 2 ∨ k = 0 ∨ k = 1 by omega) with rfl | rfl | rfl
        · go_wp2_with fail
          go_ret
          exact ⟨g', n', c', P', rfl, hrowP, hinP, HP.out.trans HD.out, hbe⟩
        · obtain ⟨x, hxe⟩ : ∃ x, x = far := ⟨_, rfl⟩
          have hcT := hcT0
          rw [← hxe] at hcT hT1
          have HX := Lib.hid (show 0 ≤ x ∧ x ≤ top by omega)
          have hP6 : P'.length + 2 ^ f ≤ 1000000 := by
            have : P'.length = (P.map Prod.snd).length := hPl
            rw [List.length_map] at this
            omega
          have HAsc := Lib.hid (show Asc (P'.map Prod.snd) by rw [HP.out]; exact ha)
          have HStep := Lib.hid (show ∀ M, tryS (lvS f top) pts left x = M → Dk T1 T2 (P.map Prod.snd) (0 + 1) = M.foldl insU (Dk T1 T2 (P.map Prod.snd) 0) from fun M h => by rw [← h, ← hT1]; rfl)
          clear hxe hPl hT1 hT2 hT0c hT1c hA1 hL1 h1l
          go_wp2_with fail
          go_quiet (fail)
          have hx0 : 0 ≤ x ∧ x ≤ top := HX.out
          have hbT := hbw.size
          have hsT : w.heap.size + 1 ≤ wr.heap.size := by rw [HW1.out] at hbT; simpa using hbT
          obtain ⟨w4, hw4⟩ : ∃ w4, w4 = wr.drewN nq := ⟨_, rfl⟩
          have hb4 : Below (w.heap.size + 1) W1 w4 := by rw [hw4]; exact bel_drewN hbw _
          have hcT4 : w4.cell? ⟨w.heap.size, 0, none⟩ = some (.int .i64 x) := by rw [hw4]; exact hcT
          have hrow4 : Row w4 B 22 (some ⟨g', 0, none⟩) n' c' (P'.map V) := by rw [hw4]; exact hrowP
          have hin4 : OwnP w4 B P' := by rw [hw4]; exact hinP.quiet ⟨_, rfl⟩
          have hs4 : w.heap.size + 1 ≤ w4.heap.size := by rw [hw4]; exact hsT
          have hbe4 : Below w.heap.size w w4 := Hw1.out.trans (hb4.mono (Nat.le_succ _))
          rw [← hw4]
          clear hw4 hcT hrowP hinP hbw hbT hsT hcT0 hcT1
          go_wp2_with fail
          go_loopw [15, 16] (fun v i wz => ∃ (j : Nat) (A' : Option Addr) (c' : Nat), j ≤ np ∧ i = .int .i64 j ∧ v = .slice A' j c' ∧ Row wz w4.heap.size 3 A' j c' (((gaps x pts).take j).map I) ∧ Below w4.heap.size w4 wz) (fun _ i _ => np - (intOf i).toNat)
          case atStart => exact ⟨0, _, 0, Nat.zero_le _, rfl, rfl, Row.nil_ w4 3, (Below.refl _ _).alloc (Nat.le_refl _) _⟩
          case round =>
            obtain ⟨j, A', cj, hj, rfl, rfl, hown, hbz⟩ := hrel
            by_cases hlj : j < np
            · obtain ⟨y, hy, hcy0⟩ := (hrp.below hbe4).int_at hlj
              have hcy : wr.cell? ⟨bp, op + j, none⟩ = some (.int .i64 y) := (hbz.cell (p := ⟨bp, op + j, none⟩) (by show bp < _; omega)).trans hcy0
              have hby0 : (⟨bp, op + j, none⟩ : Addr).block < w4.heap.size := by show bp < _; omega
              have hy60 := Hpts.out y (List.mem_of_getElem? hy)
              have hlj' : (j : Int) < (np : Int) := by omega
              have j0 : (0 : Int) ≤ (j : Int) := by omega
              have e1 : IntKind.i64.wrap (x - y) = x - y := by rw [IntKind.wrap_i64]; omega
              have e2 : IntKind.i64.wrap (y - x) = y - x := by rw [IntKind.wrap_i64]; omega
              have Hst := Lib.hid (show ((gaps x pts).take (j + 1)).map I = ((gaps x pts).take j).map I ++ [.int .i64 (max (x - y) (y - x))] by
                rw [take_snoc (x := max (x - y) (y - x)) (by unfold gaps; rw [List.getElem?_map, hy]; rfl), List.map_append]
                rfl)
              clear hy
              go_wp2_with fail
              go_region_held3 (fun w' => w'.cell? ⟨bp, op + j, none⟩ = some (.int .i64 y) ∧ Below w4.heap.size w4 w')
                ((refine kp_one hcy0 hby0 ?_; focus (repeat (first | assumption | exact hbz | refine kp_grown ?_ (Nat.le_refl _) hgrow2 (row_ge hown) | refine kp_alloc _ ?_ (Nat.le_refl _) | apply Below.drew))))
                (first
                 | (refine step_app _ (by rfl) _ _ _ (by rfl) w4.heap.size 3 i0 _ 8 Try.underlying22 hi hz0 hz1 hz2 rfl A' j cj _ ?_ (Row.drew_ (hown.alloc _)) ⟨wr.heap.size, 0, none⟩ 1 1 [.int .i64 (max (x - y) (y - x))] ?_ rfl (World.news_of_block (cs := #[.int .i64 (max (x - y) (y - x))]) (t := 3) (fr := (0, 0)) (heap_al0 wr _)) (oneI [max (x - y) (y - x)]) (j + 1) ?_ ?_ ?_ ?_ ?_
                    rfl
                    rfl
                    omega
                    omega
                    omega
                    (refine Nat.le_trans ?_ (kp_size (w0 := w4) (N := w4.heap.size) ?_); (focus exact Nat.le_refl _); focus (repeat (first | assumption | exact hbz | refine kp_grown ?_ (Nat.le_refl _) hgrow2 (row_ge hown) | refine kp_alloc _ ?_ (Nat.le_refl _) | apply Below.drew)))
                    intro A2 c2 w2 hown2 hgrow2))
              have hbz2 : Below w4.heap.size w4 w2 := by first | exact kp_grown ((kp_alloc _ hbz (Nat.le_refl _)).drew) (Nat.le_refl _) hgrow2 (row_ge hown) | exact kp_grown (kp_alloc _ hbz (Nat.le_refl _)) (Nat.le_refl _) hgrow2 (row_ge hown)
              clear hgrow2
              go_wp2_with fail
              go_roundw
              case rel =>
                repeat apply Exists.intro
                exact ⟨⟨j + 1, A2, c2, by omega, by go_num, rfl, by rw [Hst.out]; exact hown2, hbz2⟩, rfl⟩
              case measure => simp [intOf]; omega
            · have hlj' : ¬ (j : Int) < (np : Int) := by omega
              have hgl : (gaps x pts).length = np := by unfold gaps; rw [List.length_map]; exact Hlp.out
              rw [List.take_of_length_le (by omega)] at hown
              have hbe5 : Below w.heap.size w wr := hbe4.trans (hbz.mono (by omega))
              have hs5 := hbz.size
              have hW := takeAll_any (some ⟨bl, ol, none⟩) (m + 1) cl left A' j cj (gaps x pts) wr ((hrl.below hbe5).more hbe5.size) hown.rd (by omega) (by omega) (by omega)
              have hrow5 := hrow4.kept (hbz.mono (Nat.le_refl _))
              have hin5 : OwnP wr B P' := hin4.below hbz
              have hb5 : Below (w.heap.size + 1) W1 wr := hb4.trans (hbz.mono (by omega))
              clear hown hbz hrow4 hin4 hb4 hbe4 hcT4
              go_wp2_with fail
              refine hW.mono ?_
              rintro e w6 ⟨A6, n6, c6, ok, rfl, hb6, hres⟩
              have hbe6 : Below w.heap.size w w6 := hbe5.trans (hb6.mono hbe5.size)
              have hrow6 := hrow5.kept hb6
              have hin6 : OwnP w6 B P' := hin5.below hb6
              have hbw6 : Below (w.heap.size + 1) W1 w6 := hb5.trans (hb6.mono (by omega))
              have hs6 := hb6.size
              clear hW hb5 hrow5 hin5 hbe5
              rcases hres with ⟨hw, rfl⟩ | ⟨r, hw, rfl, hrw6⟩
              · have Hst := Lib.hid (HStep.out [] (by unfold tryS; rw [hw]))
                clear hw
                go_wp2_with fail
                go_roundw
                case rel =>
                  first
                  | exact ⟨0 + 1, g', n', c', P', by omega, by first | rfl | go_num, rfl, hrow6, hin6, by rw [HP.out]; exact Hst.out.symm, hbw6⟩
                  | (repeat apply Exists.intro
                     exact ⟨⟨0 + 1, g', n', c', P', by omega, by first | rfl | go_num, rfl, hrow6, hin6, by rw [HP.out]; exact Hst.out.symm, hbw6⟩, rfl⟩)
                case measure => simp [intOf]
              · have Hst := Lib.hid (HStep.out _ (show tryS (lvS f top) pts left x = lvS f top (pts ++ [x]) r by unfold tryS; rw [hw]))
                have Hgot := Lib.hid (Got.step hgot hx0 hw)
                have hwl := wo_len hw
                rw [hgl] at hwl
                have hrr6 : Rd w6 w6.heap.size A6 n6 c6 (r.map I) := hrw6.rd
                have hrh : Rd w6 w6.heap.size (some ⟨bp, op, none⟩) np cp (pts.map I) := (hrp.below hbe6).more hbe6.size
                have hl2 : (pts.map I).length = np := hrp.1
                have hap' := HAsc.out
                clear hw hrw6
                have hcell : ∀ j u, (pts.map I)[j]? = some u → (w6.alloc (.cells #[] 3)).cell? ((⟨bp, op, none⟩ : Addr).add j) = some u := rd_ad hrh ((Below.refl w6.heap.size w6).alloc (Nat.le_refl _) _)
                have hn0 : 0 + np = np := by omega
                go_wp2_with (first | (at_builtin; refine wpList_appN _ rfl _ _ 22 rfl w6.heap.size 3 i0 (.int .i64 0) 8 Try.underlying22 hi hz0 hz1 hz2 rfl _ _ _ _ rfl (Row.nil_ w6 3) ⟨bp, op, none⟩ np cp (pts.map I) rfl hl2 hcell (oneI _) np hn0 (by omega) (by omega) (by simp) ?_; intro A1 c1 w1 hrow1 hgrow1 hat1; have hs1 : w6.heap.size ≤ w1.heap.size := (by have := hgrow1.size; simp at this; omega)) | (at_builtin; refine wpList_appN _ rfl _ _ 22 rfl w6.heap.size 3 i0 (.int .i64 0) 8 Try.underlying22 hi hz0 hz1 hz2 rfl A1 np c1 _ rfl (hrow1.alloc _) ⟨w1.heap.size, 0, none⟩ 1 1 [.int .i64 x] rfl rfl (cell_one_new _ _ _) (oneI [x]) (np + 1) rfl (by omega) (by omega) (by simp; omega) ?_; intro A2 c2' w2 hrow2 hgrow2 hat2; obtain ⟨gh, _, rfl, _⟩ := hrow2.blk (g := 0) (Nat.succ_pos _)))
                have hbq : Below w6.heap.size w6 w2 := kp_grown (kp_alloc _ (kp_grown (kp_alloc _ (Below.refl _ _) (Nat.le_refl _)) (Nat.le_refl _) hgrow1 (own_ge (Nat.le_refl _))) (Nat.le_refl _)) (Nat.le_refl _) hgrow2 (row_ge hrow1)
                have hq := ih (some ⟨gh, 0, none⟩) (np + 1) c2' (pts ++ [x]) A6 n6 c6 r top g' n' c' P' B w2 (by rw [List.map_append]; exact hrow2.rd) ((hrr6.below hbq).more hbq.size) (hrow6.kept hbq) (hin6.below hbq) hap' Hgot.out (by omega) (by rw [List.length_append, List.length_singleton, Hlp.out]; omega) (by omega) (by omega) (by have := hbq.size; omega)
                clear hrow1 hgrow1 hrow2 hgrow2 hat2 hcell hat1
                refine hq.mono ?_
                rintro e w7 ⟨g7, n7, c7, P7, rfl, hrow7, hin7, hP7, hb7⟩
                have hbe7 : Below w6.heap.size w6 w7 := hbq.trans (hb7.mono hbq.size)
                have hbw7 : Below (w.heap.size + 1) W1 w7 := hbw6.trans (hbe7.mono (by omega))
                have HP7 := Lib.hid hP7
                clear hbq hb7 hbe7 hP7 hq
                go_wp2_with fail
                go_roundw
                case rel =>
                  first
                  | exact ⟨0 + 1, g7, n7, c7, P7, by omega, by first | rfl | go_num, rfl, hrow7, hin7, by rw [HP7.out, HP.out]; exact Hst.out.symm, hbw7⟩
                  | (repeat apply Exists.intro
                     exact ⟨⟨0 + 1, g7, n7, c7, P7, by omega, by first | rfl | go_num, rfl, hrow7, hin7, by rw [HP7.out, HP.out]; exact Hst.out.symm, hbw7⟩, rfl⟩)
                case measure => simp [intOf]
        · obtain ⟨x, hxe⟩ : ∃ x, x = top - far := ⟨_, rfl⟩
          have hcT := hcT1
          rw [← hxe] at hcT hT2 hcT1
          by_cases hfe : far = x
          · have HD1 := Lib.hid (show Dk T1 T2 (P.map Prod.snd) 1 = Dk T1 T2 (P.map Prod.snd) 2 by
              rw [if_pos hfe] at hT2
              rw [hT2]
              rfl)
            have hfe' : (far == x) = true := by simpa using hfe
            clear hxe hT1 hT2 hT0c hT1c hfe
            go_wp2_with fail
            go_quiet (fail)
            go_wp2_with fail
            go_ret
            exact ⟨g', n', c', P', rfl, Row.quiet hrowP ⟨_, rfl⟩, hinP.quiet ⟨_, rfl⟩, HP.out.trans (HD1.out.trans HD.out), bel_drewN hbe _⟩
          · have hfe' : (far == x) = false := by simpa using hfe
            rw [if_neg hfe] at hT2
            rw [← hxe] at e4
            have HX := Lib.hid (show 0 ≤ x ∧ x ≤ top by omega)
            have hP6 : P'.length + 2 ^ f ≤ 1000000 := by
              have : P'.length = (T1.foldl insU (P.map Prod.snd)).length := hPl
              omega
            have HAsc := Lib.hid (show Asc (P'.map Prod.snd) by rw [HP.out]; exact hA1)
            have HStep := Lib.hid (show ∀ M, tryS (lvS f top) pts left x = M → Dk T1 T2 (P.map Prod.snd) (1 + 1) = M.foldl insU (Dk T1 T2 (P.map Prod.snd) 1) from fun M h => by rw [← h, ← hT2]; rfl)
            clear hPl hT1 hT2 hT0c hT1c hA1 hL1 h1l hfe hxe
            go_wp2_with fail
            go_quiet (fail)
            have hx0 : 0 ≤ x ∧ x ≤ top := HX.out
            have hbT := hbw.size
            have hsT : w.heap.size + 1 ≤ wr.heap.size := by rw [HW1.out] at hbT; simpa using hbT
            obtain ⟨w4, hw4⟩ : ∃ w4, w4 = wr.drewN nq := ⟨_, rfl⟩
            have hb4 : Below (w.heap.size + 1) W1 w4 := by rw [hw4]; exact bel_drewN hbw _
            have hcT4 : w4.cell? ⟨w.heap.size, 1, none⟩ = some (.int .i64 x) := by rw [hw4]; exact hcT
            have hrow4 : Row w4 B 22 (some ⟨g', 0, none⟩) n' c' (P'.map V) := by rw [hw4]; exact hrowP
            have hin4 : OwnP w4 B P' := by rw [hw4]; exact hinP.quiet ⟨_, rfl⟩
            have hs4 : w.heap.size + 1 ≤ w4.heap.size := by rw [hw4]; exact hsT
            have hbe4 : Below w.heap.size w w4 := Hw1.out.trans (hb4.mono (Nat.le_succ _))
            rw [← hw4]
            clear hw4 hcT hrowP hinP hbw hbT hsT hcT0 hcT1
            go_wp2_with fail
            go_loopw [15, 16] (fun v i wz => ∃ (j : Nat) (A' : Option Addr) (c' : Nat), j ≤ np ∧ i = .int .i64 j ∧ v = .slice A' j c' ∧ Row wz w4.heap.size 3 A' j c' (((gaps x pts).take j).map I) ∧ Below w4.heap.size w4 wz) (fun _ i _ => np - (intOf i).toNat)
            case atStart => exact ⟨0, _, 0, Nat.zero_le _, rfl, rfl, Row.nil_ w4 3, (Below.refl _ _).alloc (Nat.le_refl _) _⟩
            case round =>
              obtain ⟨j, A', cj, hj, rfl, rfl, hown, hbz⟩ := hrel
              by_cases hlj : j < np
              · obtain ⟨y, hy, hcy0⟩ := (hrp.below hbe4).int_at hlj
                have hcy : wr.cell? ⟨bp, op + j, none⟩ = some (.int .i64 y) := (hbz.cell (p := ⟨bp, op + j, none⟩) (by show bp < _; omega)).trans hcy0
                have hby0 : (⟨bp, op + j, none⟩ : Addr).block < w4.heap.size := by show bp < _; omega
                have hy60 := Hpts.out y (List.mem_of_getElem? hy)
                have hlj' : (j : Int) < (np : Int) := by omega
                have j0 : (0 : Int) ≤ (j : Int) := by omega
                have e1 : IntKind.i64.wrap (x - y) = x - y := by rw [IntKind.wrap_i64]; omega
                have e2 : IntKind.i64.wrap (y - x) = y - x := by rw [IntKind.wrap_i64]; omega
                have Hst := Lib.hid (show ((gaps x pts).take (j + 1)).map I = ((gaps x pts).take j).map I ++ [.int .i64 (max (x - y) (y - x))] by
                  rw [take_snoc (x := max (x - y) (y - x)) (by unfold gaps; rw [List.getElem?_map, hy]; rfl), List.map_append]
                  rfl)
                clear hy
                go_wp2_with fail
                go_region_held3 (fun w' => w'.cell? ⟨bp, op + j, none⟩ = some (.int .i64 y) ∧ Below w4.heap.size w4 w')
                  ((refine kp_one hcy0 hby0 ?_; focus (repeat (first | assumption | exact hbz | refine kp_grown ?_ (Nat.le_refl _) hgrow2 (row_ge hown) | refine kp_alloc _ ?_ (Nat.le_refl _) | apply Below.drew))))
                  (first
                   | (refine step_app _ (by rfl) _ _ _ (by rfl) w4.heap.size 3 i0 _ 8 Try.underlying22 hi hz0 hz1 hz2 rfl A' j cj _ ?_ (Row.drew_ (hown.alloc _)) ⟨wr.heap.size, 0, none⟩ 1 1 [.int .i64 (max (x - y) (y - x))] ?_ rfl (World.news_of_block (cs := #[.int .i64 (max (x - y) (y - x))]) (t := 3) (fr := (0, 0)) (heap_al0 wr _)) (oneI [max (x - y) (y - x)]) (j + 1) ?_ ?_ ?_ ?_ ?_
                      rfl
                      rfl
                      omega
                      omega
                      omega
                      (refine Nat.le_trans ?_ (kp_size (w0 := w4) (N := w4.heap.size) ?_); (focus exact Nat.le_refl _); focus (repeat (first | assumption | exact hbz | refine kp_grown ?_ (Nat.le_refl _) hgrow2 (row_ge hown) | refine kp_alloc _ ?_ (Nat.le_refl _) | apply Below.drew)))
                      intro A2 c2 w2 hown2 hgrow2))
                have hbz2 : Below w4.heap.size w4 w2 := by first | exact kp_grown ((kp_alloc _ hbz (Nat.le_refl _)).drew) (Nat.le_refl _) hgrow2 (row_ge hown) | exact kp_grown (kp_alloc _ hbz (Nat.le_refl _)) (Nat.le_refl _) hgrow2 (row_ge hown)
                clear hgrow2
                go_wp2_with fail
                go_roundw
                case rel =>
                  repeat apply Exists.intro
                  exact ⟨⟨j + 1, A2, c2, by omega, by go_num, rfl, by rw [Hst.out]; exact hown2, hbz2⟩, rfl⟩
                case measure => simp [intOf]; omega
              · have hlj' : ¬ (j : Int) < (np : Int) := by omega
                have hgl : (gaps x pts).length = np := by unfold gaps; rw [List.length_map]; exact Hlp.out
                rw [List.take_of_length_le (by omega)] at hown
                have hbe5 : Below w.heap.size w wr := hbe4.trans (hbz.mono (by omega))
                have hs5 := hbz.size
                have hW := takeAll_any (some ⟨bl, ol, none⟩) (m + 1) cl left A' j cj (gaps x pts) wr ((hrl.below hbe5).more hbe5.size) hown.rd (by omega) (by omega) (by omega)
                have hrow5 := hrow4.kept (hbz.mono (Nat.le_refl _))
                have hin5 : OwnP wr B P' := hin4.below hbz
                have hb5 : Below (w.heap.size + 1) W1 wr := hb4.trans (hbz.mono (by omega))
                clear hown hbz hrow4 hin4 hb4 hbe4 hcT4
                go_wp2_with fail
                refine hW.mono ?_
                rintro e w6 ⟨A6, n6, c6, ok, rfl, hb6, hres⟩
                have hbe6 : Below w.heap.size w w6 := hbe5.trans (hb6.mono hbe5.size)
                have hrow6 := hrow5.kept hb6
                have hin6 : OwnP w6 B P' := hin5.below hb6
                have hbw6 : Below (w.heap.size + 1) W1 w6 := hb5.trans (hb6.mono (by omega))
                have hs6 := hb6.size
                clear hW hb5 hrow5 hin5 hbe5
                rcases hres with ⟨hw, rfl⟩ | ⟨r, hw, rfl, hrw6⟩
                · have Hst := Lib.hid (HStep.out [] (by unfold tryS; rw [hw]))
                  clear hw
                  go_wp2_with fail
                  go_roundw
                  case rel =>
                    first
                    | exact ⟨1 + 1, g', n', c', P', by omega, by first | rfl | go_num, rfl, hrow6, hin6, by rw [HP.out]; exact Hst.out.symm, hbw6⟩
                    | (repeat apply Exists.intro
                       exact ⟨⟨1 + 1, g', n', c', P', by omega, by first | rfl | go_num, rfl, hrow6, hin6, by rw [HP.out]; exact Hst.out.symm, hbw6⟩, rfl⟩)
                  case measure => simp [intOf]
                · have Hst := Lib.hid (HStep.out _ (show tryS (lvS f top) pts left x = lvS f top (pts ++ [x]) r by unfold tryS; rw [hw]))
                  have Hgot := Lib.hid (Got.step hgot hx0 hw)
                  have hwl := wo_len hw
                  rw [hgl] at hwl
                  have hrr6 : Rd w6 w6.heap.size A6 n6 c6 (r.map I) := hrw6.rd
                  have hrh : Rd w6 w6.heap.size (some ⟨bp, op, none⟩) np cp (pts.map I) := (hrp.below hbe6).more hbe6.size
                  have hl2 : (pts.map I).length = np := hrp.1
                  have hap' := HAsc.out
                  clear hw hrw6
                  have hcell : ∀ j u, (pts.map I)[j]? = some u → (w6.alloc (.cells #[] 3)).cell? ((⟨bp, op, none⟩ : Addr).add j) = some u := rd_ad hrh ((Below.refl w6.heap.size w6).alloc (Nat.le_refl _) _)
                  have hn0 : 0 + np = np := by omega
                  go_wp2_with (first | (at_builtin; refine wpList_appN _ rfl _ _ 22 rfl w6.heap.size 3 i0 (.int .i64 0) 8 Try.underlying22 hi hz0 hz1 hz2 rfl _ _ _ _ rfl (Row.nil_ w6 3) ⟨bp, op, none⟩ np cp (pts.map I) rfl hl2 hcell (oneI _) np hn0 (by omega) (by omega) (by simp) ?_; intro A1 c1 w1 hrow1 hgrow1 hat1; have hs1 : w6.heap.size ≤ w1.heap.size := (by have := hgrow1.size; simp at this; omega)) | (at_builtin; refine wpList_appN _ rfl _ _ 22 rfl w6.heap.size 3 i0 (.int .i64 0) 8 Try.underlying22 hi hz0 hz1 hz2 rfl A1 np c1 _ rfl (hrow1.alloc _) ⟨w1.heap.size, 0, none⟩ 1 1 [.int .i64 x] rfl rfl (cell_one_new _ _ _) (oneI [x]) (np + 1) rfl (by omega) (by omega) (by simp; omega) ?_; intro A2 c2' w2 hrow2 hgrow2 hat2; obtain ⟨gh, _, rfl, _⟩ := hrow2.blk (g := 0) (Nat.succ_pos _)))
                  have hbq : Below w6.heap.size w6 w2 := kp_grown (kp_alloc _ (kp_grown (kp_alloc _ (Below.refl _ _) (Nat.le_refl _)) (Nat.le_refl _) hgrow1 (own_ge (Nat.le_refl _))) (Nat.le_refl _)) (Nat.le_refl _) hgrow2 (row_ge hrow1)
                  have hq := ih (some ⟨gh, 0, none⟩) (np + 1) c2' (pts ++ [x]) A6 n6 c6 r top g' n' c' P' B w2 (by rw [List.map_append]; exact hrow2.rd) ((hrr6.below hbq).more hbq.size) (hrow6.kept hbq) (hin6.below hbq) hap' Hgot.out (by omega) (by rw [List.length_append, List.length_singleton, Hlp.out]; omega) (by omega) (by omega) (by have := hbq.size; omega)
                  clear hrow1 hgrow1 hrow2 hgrow2 hat2 hcell hat1
                  refine hq.mono ?_
                  rintro e w7 ⟨g7, n7, c7, P7, rfl, hrow7, hin7, hP7, hb7⟩
                  have hbe7 : Below w6.heap.size w6 w7 := hbq.trans (hb7.mono hbq.size)
                  have hbw7 : Below (w.heap.size + 1) W1 w7 := hbw6.trans (hbe7.mono (by omega))
                  have HP7 := Lib.hid hP7
                  clear hbq hb7 hbe7 hP7 hq
                  go_wp2_with fail
                  go_roundw
                  case rel =>
                    first
                    | exact ⟨1 + 1, g7, n7, c7, P7, by omega, by first | rfl | go_num, rfl, hrow7, hin7, by rw [HP7.out, HP.out]; exact Hst.out.symm, hbw7⟩
                    | (repeat apply Exists.intro
                       exact ⟨⟨1 + 1, g7, n7, c7, P7, by omega, by first | rfl | go_num, rfl, hrow7, hin7, by rw [HP7.out, HP.out]; exact Hst.out.symm, hbw7⟩, rfl⟩)
                  case measure => simp [intOf]
end Go.Proofs.Ytopmifidhabobaa
