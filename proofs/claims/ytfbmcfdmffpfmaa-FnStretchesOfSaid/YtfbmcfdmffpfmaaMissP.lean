/-
  The program's MissingOf.
-/
import Derived.Test.YtfbmcfdmffpfmaaOnceI
namespace Go.Proofs.Ytfbmcfdmffpfmaa
open Go.RowKit Go.Maps Go.Sort Go.Shelf
set_option linter.unusedVariables false
set_option linter.unusedSimpArgs false

theorem nextL {P : Program} (wr : World) (b j : Nat) (hj : j < 4) (hit : wr.heap[b]? = some (.stringIter ⟨#[97, 98, 99, 100]⟩ j)) (ty : TypeId) :
    (Instr.next (.pointer (some ⟨b, 0, none⟩)) true ty).run P wr = .ok (.tuple #[.bool true, .int .i64 j, .int .i32 ((L4m[j]'hj).toNat)]) (wr.iterAt b ⟨#[97, 98, 99, 100]⟩ (j + 1)) := by
  rcases (show j = 0 ∨ j = 1 ∨ j = 2 ∨ j = 3 by omega) with rfl | rfl | rfl | rfl
  all_goals exact Lib.run_next_ascii_at (P := P) wr b ⟨#[97, 98, 99, 100]⟩ _ ty hit (by decide) (by decide)
theorem encode1_ (c : UInt8) (hc : c.toNat < 128) : Utf8.encode (c.toNat : Int) = ⟨[c].toArray⟩ := by
  unfold Utf8.encode
  have hv : Utf8.valid (c.toNat : Int) = true := by unfold Utf8.valid; simp; omega
  simp only [hv, if_true, Int.toNat_natCast, if_pos hc]
  simp
theorem L4m_small (j : Nat) (hj : j < 4) : (L4m[j]'hj).toNat < 128 := by
  rcases (show j = 0 ∨ j = 1 ∨ j = 2 ∨ j = 3 by omega) with rfl | rfl | rfl | rfl <;> simp [L4m]
theorem grown_iterAt (w : World) (b : Nat) (s : ByteArray) (p : Nat) : w.grownBy (w.iterAt b s p) (some b) :=
  ⟨rfl, rfl, rfl, by rw [Lib.iterAt_size]; exact Nat.le_refl _, fun i hi hne => Lib.iterAt_other w b i _ _ (fun e => hne (by rw [e]))⟩
set_option maxRecDepth 8000 in
set_option maxHeartbeats 6400000 in
theorem missing_any (s : List UInt8) (w : World) (hs : s.length ≤ 12) (hvr : Vr w) :
    Calls Try.prog 85 #[.string ⟨s.toArray⟩] w (RetRow w 9 ((missA s (s.length + 1)).map S)) := by
  obtain ⟨i0, hi, hz0, hz1, hz2⟩ := info_parts Try.infoXs
  go_enter Try.func85, Try.ntmps85
  go_wp2_with fail
  go_loopw [3, 4] (fun v t wr => ∃ (A' : Option Addr) (n' c' k : Nat), k ≤ s.length + 1 ∧ v = .slice A' n' c' ∧ t = .int .i64 k ∧ n' ≤ 64 * k ∧ Row wr w.heap.size 9 A' n' c' ((missA s k).map S) ∧ Below w.heap.size w wr) (fun _ t _ => s.length + 1 - (intOf t).toNat)
  case atStart => exact ⟨_, 0, 0, 0, Nat.zero_le _, rfl, rfl, Nat.zero_le _, Row.nil_ w 9, (Below.refl _ _).alloc (Nat.le_refl _) _⟩
  case round =>
    obtain ⟨A', n', c', k, hk, rfl, rfl, hnk, hrow, hbw⟩ := hrel
    have hsz := hbw.size
    by_cases hlt : k ≤ s.length
    · have hfl := fac_len s k
      go_wp2_with fail
      refine (counted_any s k wr (by omega) (by omega)).mono ?_
      rintro e w2 ⟨bm, nn, D, rfl, hbB, hown, hnn, hC, hb2⟩
      have hrow2 := hrow.kept hb2
      have B2 := hbw.trans (hb2.mono hsz)
      have s2 := hb2.size
      clear hbw
      go_wp2_with fail
      refine (MapsKeys_any (some bm) w2).mono ?_
      rintro e w3 ⟨rfl, rfl⟩
      have hS := Lib.hid (SortedKeys_any bm nn D (fac s k) (fac_asc s k) (fun x => by rw [fac_mem, hC.has, List.count_pos_iff]) w2 hown (by omega))
      clear hown hC hb2
      go_wp2_with fail
      refine hS.out.mono ?_
      rintro e w4 ⟨A1, c1, rfl, hrow4, hb4⟩
      have hrl : Away A' n' c' w2.heap.size w4.heap.size := fun b hb => .inl (World.ownsRow.lt hrow2 b hb).2
      have hrow5 := hrow2.kept hb4
      have B4 := B2.trans (hb4.mono B2.size)
      have s4 := hb4.size
      obtain ⟨n1, hn1⟩ : ∃ n1, n1 = (fac s k).length := ⟨_, rfl⟩
      have Hn := Lib.hid hn1
      rw [← hn1] at hrow4 hfl ⊢
      have hW2 : OwnW w4 w2.heap.size w4.heap.size 9 A1 n1 c1 ((fac s k).map S) := hrow4.own.win
      have hnc := hW2.2.1
      have hcm := hW2.2.2.1
      unfold maxLen at hcm
      obtain ⟨lo, hlo⟩ : ∃ lo, lo = w2.heap.size := ⟨_, rfl⟩
      obtain ⟨h2, hh2⟩ : ∃ h2, h2 = w4.heap.size := ⟨_, rfl⟩
      have hh2' : h2 ≤ w4.heap.size := by omega
      have hwlo : w.heap.size ≤ lo := by rw [hlo]; exact B2.size
      rw [← hlo, ← hh2] at hW2 hrl
      have Hfx := Lib.hid (fun (x : List UInt8) (hx : x ∈ fac s k) => (fac_has hx).1)
      have Hall := Lib.hid (missA_succ s k)
      clear hrow hS hrow4 hrow2 hn1 B2 s2 hb4 hlo hh2 s4
      go_wp2_with fail
      go_loopw [3, 23] (fun v t wq => ∃ (A2 : Option Addr) (n2 c2 q : Nat), q ≤ n1 ∧ v = .slice A2 n2 c2 ∧ t = .int .i64 q ∧ n2 ≤ 64 * k + 4 * q ∧ Row wq w.heap.size 9 A2 n2 c2 ((missA s k ++ missKTo s k q).map S) ∧ OwnW wq lo h2 9 A1 n1 c1 ((fac s k).map S) ∧ Away A2 n2 c2 lo h2 ∧ h2 ≤ wq.heap.size ∧ Below w.heap.size w wq) (fun _ t _ => n1 - (intOf t).toNat)
      case atStart => exact ⟨A', n', c', 0, Nat.zero_le _, rfl, rfl, hnk, by simpa [missKTo] using hrow5, hW2, hrl, hh2', B4⟩
      case round =>
        obtain ⟨wq, rfl⟩ : ∃ wq : World, wq = wr := ⟨_, rfl⟩
        obtain ⟨A2, n2, c2, q, hq, rfl, rfl, hnq, hrow, hWq, hawq, hhq, hbq⟩ := hrel
        have hsq := hbq.size
        clear hrow5 hW2 hrl hh2' hnk B4
        by_cases hqn : q < n1
        · have hqn' : (q : Int) < (n1 : Int) := by omega
          obtain ⟨bb, oo, x, he, hbb, hx, hcx⟩ := hWq.rd.str hqn
          subst he
          have hxk := Hfx.out x (List.mem_of_getElem? hx)
          have Hx := Lib.hid hx
          have Hk := Lib.hid (missKTo_succ hx)
          clear hx
          have q0 : (0 : Int) ≤ (q : Int) := by omega
          go_wp2_with fail
          have hit0 := World.iter_heap wq ⟨#[97, 98, 99, 100]⟩ 0
          have hgi : wq.grownBy (wq.iter ⟨#[97, 98, 99, 100]⟩ 0) none := by unfold World.iter; exact World.grownBy_alloc _ _ _
          have hrowi : Row (wq.iter ⟨#[97, 98, 99, 100]⟩ 0) w.heap.size 9 A2 n2 c2 ((missA s k ++ missKTo s k q).map S) := by unfold World.iter; exact hrow.alloc _
          have hWi := hWq.aside hgi (fun i e => by cases e)
          have hbi := bel_iter (B := w.heap.size) wq hbq hsq ⟨#[97, 98, 99, 100]⟩ 0
          have haw1 : Away A2 n2 c2 wq.heap.size (wq.heap.size + 1) := fun b hb => .inl (World.ownsRow.lt hrow b hb).2
          have hsi : wq.heap.size + 1 ≤ (wq.iter ⟨#[97, 98, 99, 100]⟩ 0).heap.size := by unfold World.iter; simp
          obtain ⟨Bi, hBi⟩ : ∃ Bi, Bi = wq.heap.size := ⟨_, rfl⟩
          obtain ⟨wi, hwi⟩ : ∃ wi, wi = wq.iter ⟨#[97, 98, 99, 100]⟩ 0 := ⟨_, rfl⟩
          rw [← hwi] at hit0 hrowi hWi hbi hsi ⊢
          rw [← hBi] at hit0 haw1 hsi hsq hhq ⊢
          have hbb2 : bb < h2 := hbb
          clear hwi hgi hrow hWq hbq hcx hBi
          go_loopw [3] (fun v wz => ∃ (A3 : Option Addr) (n3 c3 r : Nat), r ≤ 4 ∧ v = .slice A3 n3 c3 ∧ n3 ≤ 64 * k + 4 * q + r ∧ Row wz w.heap.size 9 A3 n3 c3 ((missA s k ++ missKTo s k q ++ miss1To s x r).map S) ∧ OwnW wz lo h2 9 (some ⟨bb, oo, none⟩) n1 c1 ((fac s k).map S) ∧ Away A3 n3 c3 lo h2 ∧ Away A3 n3 c3 Bi (Bi + 1) ∧ wz.heap[Bi]? = some (.stringIter ⟨#[97, 98, 99, 100]⟩ r) ∧ Bi + 1 ≤ wz.heap.size ∧ Below w.heap.size w wz) (fun _ wz => 4 - wz.iterPos Bi)
          case atStart => exact ⟨A2, n2, c2, 0, Nat.zero_le _, rfl, by omega, by simpa [miss1To] using hrowi, hWi, hawq, haw1, hit0, hsi, hbi⟩
          case round =>
            obtain ⟨A3, n3, c3, r, hr, rfl, hnr, hrow, hWr, hawr, hawb, hit, hsr, hbr⟩ := hrel
            clear hrowi hWi hawq haw1 hit0 hsi hbi hnq
            have Ip0 := Lib.hid (iterPos_of hit)
            have hwr := hbr.size
            by_cases hr4 : r < 4
            · obtain ⟨ch, hch⟩ : ∃ ch, ch = L4m[r]'hr4 := ⟨_, rfl⟩
              have Hst := Lib.hid (miss1To_succ s x r hr4)
              rw [← hch] at Hst
              have hnx : ∀ ty, (Instr.next (.pointer (some ⟨Bi, 0, none⟩)) true ty).run Try.prog wr = .ok (.tuple #[.bool true, .int .i64 r, .int .i32 (ch.toNat)]) (wr.iterAt Bi ⟨#[97, 98, 99, 100]⟩ (r + 1)) := fun ty => by rw [hch]; exact nextL wr Bi r hr4 hit ty
              have hen : Utf8.encode (ch.toNat : Int) = ⟨[ch].toArray⟩ := encode1_ ch (by rw [hch]; exact L4m_small r hr4)
              obtain ⟨w6, hw6⟩ : ∃ w6, w6 = wr.iterAt Bi ⟨#[97, 98, 99, 100]⟩ (r + 1) := ⟨_, rfl⟩
              rw [← hw6] at hnx
              have hg6 : wr.grownBy w6 (some Bi) := by rw [hw6]; exact grown_iterAt _ _ _ _
              have hit6 : w6.heap[Bi]? = some (.stringIter ⟨#[97, 98, 99, 100]⟩ (r + 1)) := by rw [hw6]; exact Lib.iterAt_heap wr _ _ _ _ hit
              have hrow6 : Row w6 w.heap.size 9 A3 n3 c3 ((missA s k ++ missKTo s k q ++ miss1To s x r).map S) := World.ownsRow.kept hrow hg6 (.inr (fun e => by have := hawb _ e; omega))
              have hW6 := hWr.aside hg6 (fun i e => by cases e; omega)
              have hb6 : Below w.heap.size w w6 := hbr.grown hg6 hwr (fun i e => by cases e; omega)
              have hs6 : Bi + 1 ≤ w6.heap.size := Nat.le_trans hsr hg6.size
              have hvr6 := hvr.keep hb6
              have hadd : ∀ W : World, (Op.stringOp .add ⟨x.toArray⟩ ⟨[ch].toArray⟩).run Try.prog W = .ok (.string ⟨(x ++ [ch]).toArray⟩) W := fun W => by
                have h := run_string_add_sum (P := Try.prog) W ⟨x.toArray⟩ ⟨[ch].toArray⟩ (by show x.length + 1 ≤ _; omega)
                rw [ba_append] at h
                exact h
              have hyl : (x ++ [ch]).length = k + 1 := by simp [hxk]
              obtain ⟨y, hy⟩ : ∃ y, y = x ++ [ch] := ⟨_, rfl⟩
              rw [← hy] at hadd hyl Hst
              have Hyl := Lib.hid hyl
              have hws := hb6.size
              have hy1 : 1 ≤ y.length := by omega
              have Hd := Lib.hid (show y.drop 1 = List.take k y.tail by rw [List.take_of_length_le (by rw [List.length_tail]; omega), List.drop_one])
              have Hit6 := Lib.hid hit6
              have Ip6 := Lib.hid (iterPos_of hit6)
              clear hch hy hw6 hg6 hit hrow hWr hbr hit6 hsr
              cases g1 : hasL s y with
              | true =>
                have G1 := Lib.hid g1
                have Hs2 := Lib.hid (show miss1To s x (r + 1) = miss1To s x r by rw [Hst.out, g1]; simp)
                clear g1
                go_wp2_with fail
                refine (Contains_any _ _ _ (by omega) hvr6).mono ?_
                rintro e w' ⟨rfl, rfl⟩
                rw [G1.out]
                clear hnx hadd hen
                go_wp2_with fail
                go_roundw
                case rel => exact ⟨A3, n3, c3, r + 1, by omega, rfl, by omega, by rw [Hs2.out]; exact hrow6, hW6, hawr, hawb, Hit6.out, hs6, hb6⟩
                case measure => rw [Ip0.out, Ip6.out]; omega
              | false =>
                have G1 := Lib.hid g1
                cases g2 : hasL s (y.drop 1) with
                | false =>
                  have G2 := Lib.hid g2
                  have Hs2 := Lib.hid (show miss1To s x (r + 1) = miss1To s x r by rw [Hst.out, g2]; simp)
                  clear g1 g2
                  go_wp2_with fail
                  refine (Contains_any _ _ _ (by omega) hvr6).mono ?_
                  rintro e w' ⟨rfl, rfl⟩
                  rw [G1.out]
                  clear hnx hadd hen
                  go_wp2_with fail
                  rw [← Hd.out]
                  refine (Contains_any _ _ _ (by omega) hvr6).mono ?_
                  rintro e w' ⟨rfl, rfl⟩
                  rw [G2.out]
                  go_wp2_with fail
                  go_roundw
                  case rel => exact ⟨A3, n3, c3, r + 1, by omega, rfl, by omega, by rw [Hs2.out]; exact hrow6, hW6, hawr, hawb, Hit6.out, hs6, hb6⟩
                  case measure => rw [Ip0.out, Ip6.out]; omega
                | true =>
                  have G2 := Lib.hid g2
                  have Hs2 := Lib.hid (show miss1To s x (r + 1) = miss1To s x r ++ [y] by rw [Hst.out, g1, g2]; rfl)
                  clear g1 g2
                  go_wp2_with fail
                  refine (Contains_any _ _ _ (by omega) hvr6).mono ?_
                  rintro e w' ⟨rfl, rfl⟩
                  rw [G1.out]
                  clear hnx hadd hen
                  go_wp2_with fail
                  rw [← Hd.out]
                  refine (Contains_any _ _ _ (by omega) hvr6).mono ?_
                  rintro e w' ⟨rfl, rfl⟩
                  rw [G2.out]
                  clear hyl hy1
                  go_wp2_with (at_builtin; refine wpList_appN _ rfl _ _ 24 rfl w.heap.size 9 i0 (.string ⟨#[]⟩) 16 Try.underlying24 hi hz0 hz1 hz2 rfl _ _ _ _ rfl (hrow6.alloc _) ⟨w6.heap.size, 0, none⟩ 1 1 [.string ⟨y.toArray⟩] rfl rfl (cell_one_new _ _ _) (oneSs y) (n3 + 1) rfl (by omega) (by omega) (by simp; omega) ?_; intro A7 c7 w7 hrow7 hgrow7 hdis7)
                  have hrow8 : Row w7 w.heap.size 9 A7 (n3 + 1) c7 ((missA s k ++ missKTo s k q ++ miss1To s x r ++ [y]).map S) := by
                    rw [List.map_append]
                    exact hrow7
                  have hA7 := hawr.app (wr := w6) (by omega) hdis7
                  have hB7 := hawb.app (wr := w6) hs6 hdis7
                  have hal : w6.grownBy (w6.alloc (.cells #[.string ⟨y.toArray⟩] 9)) none := World.grownBy_alloc _ _ _
                  have hW7 := (hW6.aside hal (fun i e => by cases e)).aside hgrow7 hawr
                  have hb7 : Below w.heap.size w w7 := (hrow6.alloc _).grown (hb6.alloc hws _) hgrow7 (Nat.le_refl _) (by simp; omega)
                  have hit7 : w7.heap[Bi]? = some (.stringIter ⟨#[97, 98, 99, 100]⟩ (r + 1)) :=
                    (hgrow7.block Bi (by simp; omega) (fun e => by have := hawb _ e.symm; omega)).trans ((Below.heap_alloc w6 _ _ (by omega)).trans Hit6.out)
                  have hs7 : Bi + 1 ≤ w7.heap.size := by have := hgrow7.size; simp at this; omega
                  have Ip7 := Lib.hid (iterPos_of hit7)
                  have Hit7 := Lib.hid hit7
                  clear hgrow7 hdis7 hrow7 hrow6 hW6 hal hit7
                  go_wp2_with fail
                  go_roundw
                  case rel => exact ⟨A7, n3 + 1, c7, r + 1, by omega, rfl, by omega, by rw [Hs2.out, ← List.append_assoc]; exact hrow8, hW7, hA7, hB7, Hit7.out, hs7, hb7⟩
                  case measure => rw [Ip0.out, Ip7.out]; omega
            · obtain rfl : r = 4 := by omega
              have hnx : ∀ ty, (Instr.next (.pointer (some ⟨Bi, 0, none⟩)) true ty).run Try.prog wr = _ := fun ty => Lib.run_next_end_at wr Bi _ 4 ty hit (by decide)
              have hh : h2 ≤ wr.heap.size := by omega
              clear hit
              go_wp2_with fail
              go_roundw
              case rel => exact ⟨A3, n3, c3, q + 1, by omega, rfl, by go_num, by omega, by rw [Hk.out, ← List.append_assoc]; exact hrow, hWr, hawr, hh, hbr⟩
              case measure => simp [intOf]; omega
        · have hqn' : ¬ (q : Int) < (n1 : Int) := by omega
          have Hfin := Lib.hid (missKTo_all (s := s) (k := k) (i := q) (by rw [← Hn.out]; omega))
          go_wp2_with fail
          go_roundw
          case rel => exact ⟨A2, n2, c2, k + 1, by omega, rfl, by go_num, by omega, by rw [Hall.out, ← Hfin.out]; exact hrow, hbq⟩
          case measure => simp [intOf]; omega
    · obtain rfl : k = s.length + 1 := by omega
      have hnc' := hrow.own.2.1
      go_wp2_with fail
      refine (ClipS_any _ _ _ hnc' _).mono ?_
      rintro e w' ⟨rfl, rfl⟩
      go_wp2_with fail
      go_ret
      exact ⟨_, _, _, rfl, hrow.own.clip, hbw⟩
set_option maxHeartbeats 800000 in
theorem shortOk_any (s : List UInt8) (w : World) (hs : s.length ≤ 1048576) :
    Calls Try.prog 84 #[.string ⟨s.toArray⟩] w (RetVal w (.bool (vt s && decide (s.length ≤ 12)))) := by
  cases h1 : vt s with
  | false =>
    have H1 := Lib.hid h1
    clear h1
    go_enter Try.func84, Try.ntmps84
    go_wp2_with fail
    refine (ValidText_any _ _ (by omega)).mono ?_
    rintro e w' ⟨rfl, hb⟩
    rw [H1.out]
    go_wp2_with fail
    go_ret
    exact ⟨rfl, hb⟩
  | true =>
    have H1 := Lib.hid h1
    clear h1
    by_cases h12 : (s.length : Int) ≤ 12
    · have Hv := Lib.hid (show decide (s.length ≤ 12) = true by simp; omega)
      go_enter Try.func84, Try.ntmps84
      go_wp2_with fail
      refine (ValidText_any _ _ (by omega)).mono ?_
      rintro e w' ⟨rfl, hb⟩
      rw [H1.out]
      go_wp2_with fail
      go_ret
      exact ⟨ret_bool (by rw [Hv.out]; rfl), hb⟩
    · have Hv := Lib.hid (show decide (s.length ≤ 12) = false by simp; omega)
      go_enter Try.func84, Try.ntmps84
      go_wp2_with fail
      refine (ValidText_any _ _ (by omega)).mono ?_
      rintro e w' ⟨rfl, hb⟩
      rw [H1.out]
      go_wp2_with fail
      go_ret
      exact ⟨ret_bool (by rw [Hv.out]; simp; omega), hb⟩
set_option maxHeartbeats 800000 in
theorem MissingOf_any (s : List UInt8) (w : World) (hs : s.length ≤ 1048576) (hvr : Vr w) :
    Calls Try.prog 46 #[.string ⟨s.toArray⟩] w (RetRow w 9 ((MS s).map S)) := by
  cases h1 : (vt s && decide (s.length ≤ 12)) with
  | false =>
    have Hv := Lib.hid (show MS s = [] by unfold MS; rw [h1]; rfl)
    have H1 := Lib.hid h1
    clear h1
    go_enter Try.func46, Try.ntmps46
    go_wp2_with fail
    refine (shortOk_any _ _ (by omega)).mono ?_
    rintro e w' ⟨rfl, hb⟩
    rw [H1.out]
    go_wp2_with fail
    go_ret
    rw [Hv.out]
    exact retRow_nil' _ hb
  | true =>
    have Hv := Lib.hid (show MS s = missA s (s.length + 1) by unfold MS; rw [h1]; rfl)
    have h12 : s.length ≤ 12 := by simp at h1; exact h1.2
    have H1 := Lib.hid h1
    clear h1
    go_enter Try.func46, Try.ntmps46
    go_wp2_with fail
    refine (shortOk_any _ _ (by omega)).mono ?_
    rintro e w1 ⟨rfl, hb1⟩
    rw [H1.out]
    have hM := Lib.hid (missing_any s w1 h12 (hvr.keep hb1))
    go_wp2_with fail
    refine hM.out.mono ?_
    rintro e w2 ⟨A1, n1, c1, rfl, ho, hb2⟩
    go_wp2_with fail
    go_ret
    exact ⟨_, _, _, rfl, by rw [Hv.out]; exact ho.more hb1.size, hb1.trans (hb2.mono hb1.size)⟩
end Go.Proofs.Ytfbmcfdmffpfmaa
