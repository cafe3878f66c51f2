/-
  The reference's OnceFrom, MissingOf.
-/
import Derived.Test.YtfbmcfdmffpfmaaMissS
import Derived.Test.YtfbmcfdmffpfmaaAppN
import Derived.Test.YtfbmcfdmffpfmaaExactI
namespace Go.Proofs.Ytfbmcfdmffpfmaa
open Go.RowKit
set_option linter.unusedVariables false
set_option linter.unusedSimpArgs false

/-- A number and whether it is there. -/
def RetOpt (w : World) (o : Option Nat) (e : Ending) (w' : World) : Prop := e = .returned (.tuple #[.int .i64 (o.getD 0 : Nat), .bool o.isSome]) ∧ Below w.heap.size w w'
theorem ret_two {a b : Int} {c d : Bool} (h1 : a = b) (h2 : c = d) : Ending.returned (.tuple #[.int .i64 a, .bool c]) = .returned (.tuple #[.int .i64 b, .bool d]) := by rw [h1, h2]
theorem onF_yes {s : List UInt8} {i f k : Nat} (h : (winds s k).count (win s k i) = 1) : onF s i (f + 1) k = some k := by rw [onF, if_pos h]
theorem onF_no {s : List UInt8} {i f k : Nat} (h : (winds s k).count (win s k i) ≠ 1) : onF s i (f + 1) k = onF s i f (k + 1) := by rw [onF, if_neg h]
set_option maxHeartbeats 1600000 in
theorem specOnceFrom_any (s : List UInt8) (i : Int) (w : World) (hs : s.length ≤ 1048576) :
    Calls Try.prog 34 #[.string ⟨s.toArray⟩, .int .i64 i] w (RetOpt w (OFo s i)) := by
  cases h1 : vt s with
  | false =>
    have Hv := Lib.hid (show OFo s i = none by unfold OFo; rw [h1]; rfl)
    have H1 := Lib.hid h1
    clear h1
    go_enter Try.func34, Try.ntmps34
    go_wp2_with fail
    refine (validText_any _ _ (by omega)).mono ?_
    rintro e w' ⟨rfl, rfl⟩
    rw [H1.out]
    go_wp2_with fail
    go_ret2
    exact ⟨ret_two (a := 0) (c := false) (by rw [Hv.out]; rfl) (by rw [Hv.out]; rfl), Below.refl _ _⟩
  | true =>
    have hl40 := vt_len h1
    have H1 := Lib.hid h1
    clear h1
    have ew : IntKind.i64.wrap ((s.length : Int) - 1) = (s.length : Int) - 1 := by rw [IntKind.wrap_i64]; omega
    cases h2 : inR i 0 ((s.length : Int) - 1) with
    | false =>
      have Hv := Lib.hid (show OFo s i = none by unfold OFo; rw [h2]; simp)
      have H2 := Lib.hid h2
      clear h2
      go_enter Try.func34, Try.ntmps34
      go_wp2_with fail
      refine (validText_any _ _ (by omega)).mono ?_
      rintro e w' ⟨rfl, rfl⟩
      rw [H1.out]
      go_wp2_with fail
      refine (inRange_any _ _ _ _).mono ?_
      rintro e w' ⟨rfl, rfl⟩
      rw [H2.out]
      go_wp2_with fail
      go_ret2
      exact ⟨ret_two (a := 0) (c := false) (by rw [Hv.out]; rfl) (by rw [Hv.out]; rfl), Below.refl _ _⟩
    | true =>
      obtain ⟨h3, h4⟩ := inR_true h2
      obtain ⟨i, rfl⟩ := Int.eq_ofNat_of_zero_le h3
      have hi : i < s.length := by omega
      have Hv := Lib.hid (show OFo s (i : Int) = onF s i (s.length - i) 1 by unfold OFo; rw [H1.out, h2]; simp)
      have H2 := Lib.hid h2
      clear h2 h3 h4
      go_enter Try.func34, Try.ntmps34
      go_wp2_with fail
      refine (validText_any _ _ (by omega)).mono ?_
      rintro e w' ⟨rfl, rfl⟩
      rw [H1.out]
      go_wp2_with fail
      refine (inRange_any _ _ _ _).mono ?_
      rintro e w' ⟨rfl, rfl⟩
      rw [H2.out]
      go_wp2_with fail
      clear ew
      go_loopw [6] (fun t wr => ∃ k : Nat, 1 ≤ k ∧ i + k ≤ s.length + 1 ∧ t = .int .i64 k ∧ onF s i (s.length - i) 1 = onF s i (s.length + 1 - i - k) k ∧ Quiet w wr) (fun t _ => s.length + 1 - (intOf t).toNat)
      case atStart => exact ⟨1, Nat.le_refl _, by omega, by go_num, by rw [show s.length + 1 - i - 1 = s.length - i by omega], Quiet.refl _⟩
      case round =>
        obtain ⟨k, hk1, hik, rfl, hon, hqw⟩ := hrel
        have Hon := Lib.hid hon
        clear hon
        by_cases hlt : i + k ≤ s.length
        · go_wp2_with fail
          go_loopw [7, 8] (fun n a wz => ∃ j : Nat, j ≤ s.length + 1 - k ∧ a = .int .i64 j ∧ n = .int .i64 ((windsTo s k j).count (win s k i) : Nat) ∧ Quiet w wz) (fun _ a _ => s.length + 1 - (intOf a).toNat)
          case atStart => exact ⟨0, Nat.zero_le _, rfl, rfl, hqw⟩
          case round =>
            obtain ⟨j, hj, rfl, rfl, hqz⟩ := hrel
            have hcl := windsTo_count_le s k j (win s k i)
            obtain ⟨m, hm⟩ : ∃ m, m = (windsTo s k j).count (win s k i) := ⟨_, rfl⟩
            rw [← hm] at hcl ⊢
            have Hm := Lib.hid hm
            clear hm
            by_cases hjk : j + k ≤ s.length
            · have Hc := Lib.hid (windsTo_count s k j (win s k i))
              rw [← Hm.out] at Hc
              cases he : (List.take k (List.drop j s) == List.take k (List.drop i s)) with
              | true =>
                have Hc2 := Lib.hid (show (windsTo s k (j + 1)).count (win s k i) = m + 1 by rw [Hc.out, ← slice_win, ← slice_win, he]; rfl)
                go_wp2_with fail
                go_quiet (fail)
                go_wp2_with fail
                go_roundw
                case rel => exact ⟨j + 1, by omega, by go_num, by rw [Hc2.out]; go_num, hqz.drewN _⟩
                case measure => simp [intOf]; omega
              | false =>
                have Hc2 := Lib.hid (show (windsTo s k (j + 1)).count (win s k i) = m by rw [Hc.out, ← slice_win, ← slice_win, he]; rfl)
                go_wp2_with fail
                go_quiet (fail)
                go_wp2_with fail
                go_roundw
                case rel => exact ⟨j + 1, by omega, by go_num, by rw [Hc2.out], hqz.drewN _⟩
                case measure => simp [intOf]; omega
            · obtain rfl : j = s.length + 1 - k := by omega
              have Hm2 := Lib.hid (show m = (winds s k).count (win s k i) from Hm.out)
              have ef : s.length + 1 - i - k = (s.length + 1 - i - (k + 1)) + 1 := by omega
              have Hef := Lib.hid ef
              clear ef
              by_cases h2 : m = 1
              · have Hfin := Lib.hid (show onF s i (s.length - i) 1 = some k by rw [Hon.out, Hef.out, onF_yes (by rw [← Hm2.out]; exact h2)])
                subst h2
                go_wp2_with fail
                go_ret2
                exact ⟨ret_two (by rw [Hv.out, Hfin.out]; rfl) (by rw [Hv.out, Hfin.out]; rfl), hqz.bel _⟩
              · have Hn2 := Lib.hid (show onF s i (s.length - i) 1 = onF s i (s.length + 1 - i - (k + 1)) (k + 1) by rw [Hon.out, Hef.out, onF_no (by rw [← Hm2.out]; exact h2)])
                have h2' : ¬ (m : Int) = 1 := by omega
                go_wp2_with fail
                go_roundw
                case rel => exact ⟨k + 1, by omega, by omega, by go_num, Hn2.out, hqz⟩
                case measure => simp [intOf]; omega
        · have Hfin := Lib.hid (show onF s i (s.length - i) 1 = none by rw [Hon.out, show s.length + 1 - i - k = 0 by omega]; rfl)
          go_wp2_with fail
          go_ret2
          exact ⟨ret_two (a := 0) (c := false) (by rw [Hv.out, Hfin.out]; rfl) (by rw [Hv.out, Hfin.out]; rfl), hqw.bel _⟩
def missKTo (s : List UInt8) (k i : Nat) : List (List UInt8) := ((fac s k).take i).flatMap (miss1 s)
def miss1To (s x : List UInt8) (c : Nat) : List (List UInt8) := ((L4m.take c).map fun c => x ++ [c]).filter fun y => !hasL s y && hasL s (y.drop 1)
theorem miss1To_all (s x : List UInt8) : miss1To s x 4 = miss1 s x := rfl
theorem miss1To_succ (s x : List UInt8) (c : Nat) (hc : c < 4) : miss1To s x (c + 1) = miss1To s x c ++ (if (!hasL s (x ++ [L4m[c]'hc]) && hasL s ((x ++ [L4m[c]'hc]).drop 1)) = true then [x ++ [L4m[c]'hc]] else []) := by
  unfold miss1To
  rw [List.take_succ_eq_append_getElem (by exact hc), List.map_append, List.filter_append]
  congr 1
  simp only [List.map_cons, List.map_nil, List.filter_cons, List.filter_nil]
theorem miss1To_len (s x : List UInt8) (c : Nat) : (miss1To s x c).length ≤ c := by
  unfold miss1To
  refine Nat.le_trans (List.length_filter_le _ _) ?_
  rw [List.length_map, List.length_take]
  omega
theorem missKTo_succ {s x : List UInt8} {k i : Nat} (h : (fac s k)[i]? = some x) : missKTo s k (i + 1) = missKTo s k i ++ miss1 s x := by
  obtain ⟨h1, rfl⟩ := List.getElem?_eq_some_iff.1 h
  unfold missKTo
  rw [List.take_succ_eq_append_getElem h1, List.flatMap_append]
  simp
theorem missKTo_all {s : List UInt8} {k i : Nat} (h : (fac s k).length ≤ i) : missKTo s k i = missK s k := by
  unfold missKTo missK
  rw [List.take_of_length_le h]
theorem missA_succ (s : List UInt8) (m : Nat) : missA s (m + 1) = missA s m ++ missK s m := by
  unfold missA
  rw [List.range_succ, List.flatMap_append]
  simp
theorem L4_cells : ([.string ⟨#[97]⟩, .string ⟨#[98]⟩, .string ⟨#[99]⟩, .string ⟨#[100]⟩] : List Value) = (L4m.map fun c => [c]).map S := rfl
theorem rd_lit_ (w : World) (cs : Array Value) (t : TypeId) (n : Nat) (xs : List Value) (h : cs.toList = xs) (hn : xs.length = n) (hm : n ≤ 1000) :
    Rd (w.alloc (.cells cs t)) (w.alloc (.cells cs t)).heap.size (some ⟨w.heap.size, 0, none⟩) n n xs := by
  refine ⟨hn, Nat.le_refl _, by unfold maxLen; omega, fun _ => ⟨w.heap.size, 0, rfl, by simp, fun j u hu => ?_⟩⟩
  rw [cell_of_row (w.alloc (.cells cs t)) w.heap.size (0 + j) cs t (0, 0) (heap_alloc_new w _), Nat.zero_add]
  rw [← h] at hu
  simpa using hu
theorem OwnW.aside {w w' : World} {lo hi : Nat} {t : TypeId} {A : Option Addr} {n c : Nat} {xs : List Value} {row : Option Nat} (h : OwnW w lo hi t A n c xs) (hg : w.grownBy w' row) (hne : ∀ k, row = some k → k < lo ∨ hi ≤ k) : OwnW w' lo hi t A n c xs :=
  ⟨h.1, h.2.1, h.2.2.1, fun hn => by obtain ⟨g, cur, e, hl, hh, hb, ht⟩ := h.2.2.2 hn; exact ⟨g, cur, e, hl, hh, (hg.block g (Array.getElem?_eq_some_iff.1 hb).1 (fun e' => by have := hne g e'.symm; omega)).trans hb, ht⟩⟩
/-- A row lies outside a window. -/
def Away (A : Option Addr) (n c lo hi : Nat) : Prop := ∀ b, (Value.slice A n c).ownBlock = some b → b < lo ∨ hi ≤ b
theorem heap_al2' (w : World) (o o' : Obj) : ((w.alloc o).alloc o').heap[w.heap.size + 1]? = some o' := heap_al2 w o o'
/-- What the search for missing words holds: the row of what is found, and the letters beside it. -/
structure MI (w wr : World) (A : Option Addr) (n c : Nat) (L : List (List UInt8)) : Prop where
  row : Row wr w.heap.size 9 A n c (L.map S)
  away : Away A n c (w.heap.size + 1) (w.heap.size + 2)
  bel : Below w.heap.size w wr
  lets : OwnW wr (w.heap.size + 1) (w.heap.size + 2) 9 (some ⟨w.heap.size + 1, 0, none⟩) 4 4 ((L4m.map fun c => [c]).map S)
  size : w.heap.size + 2 ≤ wr.heap.size
theorem MI.below {w wr w2 : World} {A : Option Addr} {n c : Nat} {L : List (List UInt8)} (h : MI w wr A n c L) (hb : Below wr.heap.size wr w2) : MI w w2 A n c L :=
  ⟨h.row.kept hb, h.away, h.bel.trans (hb.mono h.bel.size), h.lets.below hb h.size, Nat.le_trans h.size hb.size⟩
theorem MI.quiet {w wr w2 : World} {A : Option Addr} {n c : Nat} {L : List (List UInt8)} (h : MI w wr A n c L) (hq : Quiet wr w2) : MI w w2 A n c L := h.below (hq.bel _)
theorem MI.app {w wr w2 : World} {A A2 : Option Addr} {n c n2 c2 : Nat} {L M : List (List UInt8)} {o : Obj} (h : MI w wr A n c L) (hrow : Row w2 w.heap.size 9 A2 n2 c2 (M.map S)) (hg : (wr.alloc o).grownBy w2 (Value.slice A n c).ownBlock)
    (hd : (Value.slice A2 n2 c2).ownBlock = (Value.slice A n c).ownBlock ∨ (Value.slice A2 n2 c2).ownBlock = some (wr.alloc o).heap.size) : MI w w2 A2 n2 c2 M := by
  have hs := h.size
  have hsz : (wr.alloc o).heap.size = wr.heap.size + 1 := by simp
  refine ⟨hrow, fun b hb => ?_, (h.row.alloc o).grown (h.bel.alloc h.bel.size o) hg (Nat.le_refl _) (by omega), (h.lets.below ((Below.refl _ wr).alloc (Nat.le_refl _) o) h.size).aside hg h.away, by have := hg.size; omega⟩
  rcases hd with hd | hd
  · exact h.away b (hd ▸ hb)
  · rw [hd] at hb
    injection hb with hb
    omega
theorem Away.app {wr : World} {A A2 : Option Addr} {n c n2 c2 lo hi : Nat} {o : Obj} (h : Away A n c lo hi) (hhi : hi ≤ wr.heap.size) (hd : (Value.slice A2 n2 c2).ownBlock = (Value.slice A n c).ownBlock ∨ (Value.slice A2 n2 c2).ownBlock = some (wr.alloc o).heap.size) : Away A2 n2 c2 lo hi := by
  intro b hb
  have hsz : (wr.alloc o).heap.size = wr.heap.size + 1 := by simp
  rcases hd with hd | hd
  · exact h b (hd ▸ hb)
  · rw [hd] at hb
    injection hb with hb
    omega
theorem L4m_at (j : Nat) (hj : j < 4) : (L4m.map fun c => [c])[j]? = some [L4m[j]'hj] := by
  rw [List.getElem?_map, List.getElem?_eq_getElem (by exact hj)]
  rfl
theorem oneSs (x : List UInt8) : ∀ u ∈ [Value.string ⟨x.toArray⟩], u.oneCell' = true := by
  intro u hu
  rw [List.mem_singleton] at hu
  subst hu
  rfl
set_option maxRecDepth 8000 in
set_option maxHeartbeats 3200000 in
theorem specMissing_any (s : List UInt8) (w : World) (hs : s.length ≤ 12) :
    Calls Try.prog 83 #[.string ⟨s.toArray⟩] w (RetRow w 9 ((missA s (s.length + 1)).map S)) := by
  obtain ⟨i0, hi, hz0, hz1, hz2⟩ := info_parts Try.infoXs
  have hM0 : MI w ((w.alloc (.cells #[] 9)).alloc (.cells #[.string ⟨#[97]⟩, .string ⟨#[98]⟩, .string ⟨#[99]⟩, .string ⟨#[100]⟩] 9)) (some ⟨w.heap.size, 0, none⟩) 0 0 [] :=
    ⟨(Row.nil_ w 9).alloc _, fun b hb => by simp [Value.ownBlock] at hb; omega, ((Below.refl _ _).alloc (Nat.le_refl _) _).alloc (by simp) _,
     ⟨rfl, Nat.le_refl _, by unfold maxLen; omega, fun _ => ⟨w.heap.size + 1, _, rfl, Nat.le_refl _, Nat.lt_succ_self _, heap_al2' _ _ _, rfl⟩⟩, by simp⟩
  go_enter Try.func83, Try.ntmps83
  go_wp2_with fail
  obtain ⟨wl, hwl⟩ : ∃ wl, wl = ((w.alloc (.cells #[] 9)).alloc (.cells #[.string ⟨#[97]⟩, .string ⟨#[98]⟩, .string ⟨#[99]⟩, .string ⟨#[100]⟩] 9)) := ⟨_, rfl⟩
  rw [← hwl] at hM0 ⊢
  clear hwl
  go_loopw [3, 5] (fun v t wr => ∃ (A' : Option Addr) (n' c' k : Nat), k ≤ s.length + 1 ∧ v = .slice A' n' c' ∧ t = .int .i64 k ∧ n' ≤ 64 * k ∧ MI w wr A' n' c' (missA s k)) (fun _ t _ => s.length + 1 - (intOf t).toNat)
  case atStart => exact ⟨_, 0, 0, 0, Nat.zero_le _, rfl, rfl, Nat.zero_le _, hM0⟩
  case round =>
    obtain ⟨A', n', c', k, hk, rfl, rfl, hnk, hM⟩ := hrel
    clear hM0
    by_cases hlt : k ≤ s.length
    · have hF := Lib.hid (factors_any s k wr (by omega) (by omega))
      have hfl := fac_len s k
      have haw : Away A' n' c' wr.heap.size wr.heap.size := fun b hb => .inl (World.ownsRow.lt hM.row b hb).2
      go_wp2_with fail
      refine hF.out.mono ?_
      rintro e w2 ⟨A1, n1, c1, rfl, ho, hb2⟩
      have s2 := hb2.size
      have haw2 : Away A' n' c' wr.heap.size w2.heap.size := fun b hb => .inl (World.ownsRow.lt hM.row b hb).2
      have hM2 := hM.below hb2
      have hW2 : OwnW w2 wr.heap.size w2.heap.size 9 A1 n1 c1 ((fac s k).map S) := ho.win
      have hn := hW2.rd.slen
      have hnc := hW2.2.1
      have hcm := hW2.2.2.1
      unfold maxLen at hcm
      have Hn := Lib.hid hn
      rw [hn] at hfl
      obtain ⟨lo, hlo⟩ : ∃ lo, lo = wr.heap.size := ⟨_, rfl⟩
      obtain ⟨h2, hh2⟩ : ∃ h2, h2 = w2.heap.size := ⟨_, rfl⟩
      have hh2' : h2 ≤ w2.heap.size := by omega
      rw [← hlo, ← hh2] at hW2 haw2
      have Hfx := Lib.hid (fun (x : List UInt8) (hx : x ∈ fac s k) => (fac_has hx).1)
      have Hall := Lib.hid (missA_succ s k)
      clear ho hn hM hb2 hF haw hlo hh2 s2
      go_wp2_with fail
      go_loopw [3, 7] (fun v t wq => ∃ (A2 : Option Addr) (n2 c2 q : Nat), q ≤ n1 ∧ v = .slice A2 n2 c2 ∧ t = .int .i64 q ∧ n2 ≤ 64 * k + 4 * q ∧ MI w wq A2 n2 c2 (missA s k ++ missKTo s k q) ∧ OwnW wq lo h2 9 A1 n1 c1 ((fac s k).map S) ∧ Away A2 n2 c2 lo h2 ∧ h2 ≤ wq.heap.size) (fun _ t _ => n1 - (intOf t).toNat)
      case atStart => exact ⟨A', n', c', 0, Nat.zero_le _, rfl, rfl, hnk, by simpa [missKTo] using hM2, hW2, haw2, hh2'⟩
      case round =>
        obtain ⟨A2, n2, c2, q, hq, rfl, rfl, hnq, hMq, hWq, hawq, hhq⟩ := hrel
        clear hM2 hW2 haw2 hh2' hnk
        by_cases hqn : q < n1
        · have hqn' : (q : Int) < (n1 : Int) := by omega
          obtain ⟨x, hx⟩ : ∃ x, (fac s k)[q]? = some x := ⟨_, List.getElem?_eq_getElem (by rw [Hn.out]; exact hqn)⟩
          have hxk := Hfx.out x (List.mem_of_getElem? hx)
          have Hx := Lib.hid hx
          have Hk := Lib.hid (missKTo_succ hx)
          clear hx
          go_wp2_with fail
          go_loopw [3, 8] (fun v t wz => ∃ (A3 : Option Addr) (n3 c3 r : Nat), r ≤ 4 ∧ v = .slice A3 n3 c3 ∧ t = .int .i64 r ∧ n3 ≤ 64 * k + 4 * q + r ∧ MI w wz A3 n3 c3 (missA s k ++ missKTo s k q ++ miss1To s x r) ∧ OwnW wz lo h2 9 A1 n1 c1 ((fac s k).map S) ∧ Away A3 n3 c3 lo h2 ∧ h2 ≤ wz.heap.size) (fun _ t _ => 4 - (intOf t).toNat)
          case atStart => exact ⟨A2, n2, c2, 0, Nat.zero_le _, rfl, rfl, by omega, by simpa [miss1To] using hMq, hWq, hawq, hhq⟩
          case round =>
            obtain ⟨A3, n3, c3, r, hr, rfl, rfl, hnr, hMr, hWr, hawr, hhr⟩ := hrel
            clear hMq hWq hawq hhq hnq
            by_cases hr4 : r < 4
            · have hr4' : (r : Int) < 4 := by omega
              obtain ⟨ch, hch⟩ : ∃ ch, ch = L4m[r]'hr4 := ⟨_, rfl⟩
              have hlr := L4m_at r hr4
              rw [← hch] at hlr
              have Hst := Lib.hid (miss1To_succ s x r hr4)
              rw [← hch] at Hst
              obtain ⟨yc, hyc, hcl⟩ := hMr.lets.rd.str_at hr4
              rw [hlr] at hyc
              injection hyc with hyc
              subst hyc
              rw [Nat.zero_add] at hcl
              obtain ⟨bb, oo, yx, he, hbb, hyx, hcx⟩ := hWr.rd.str hqn
              rw [Hx.out] at hyx
              injection hyx with hyx
              subst hyx
              subst he
              have hadd := fun (W : World) => run_string_add_sum (P := Try.prog) W ⟨x.toArray⟩ ⟨[ch].toArray⟩ (by show x.length + 1 ≤ _; omega)
              simp only [ba_append] at hadd
              have hyl : (x ++ [ch]).length = k + 1 := by simp [hxk]
              obtain ⟨y, hy⟩ : ∃ y, y = x ++ [ch] := ⟨_, rfl⟩
              rw [← hy] at hadd hyl Hst
              clear hch hlr hy
              have hy1 : 1 ≤ y.length := by omega
              have hd : y.drop 1 = List.take k y.tail := by rw [List.take_of_length_le (by rw [List.length_tail]; omega), List.drop_one]
              have Hd := Lib.hid hd
              clear hd
              go_wp2_with fail
              go_quiet (fail)
              go_wp2_with fail
              obtain ⟨w5, hw5⟩ : ∃ w5, w5 = wr.drewN nq := ⟨_, rfl⟩
              have hq5 : Quiet wr w5 := ⟨nq, hw5⟩
              rw [← hw5]
              have hM5 := hMr.quiet hq5
              have hW5 := hWr.below (hq5.bel h2) (Nat.le_refl _)
              have hh5 : h2 ≤ w5.heap.size := by rw [hq5.size]; exact hhr
              have hml := hM5.size
              have hrl := hM5.row.own.rd.2.1
              clear hw5 hcl hcx hadd hMr hWr hhr hq5
              cases g1 : hasL s y with
              | true =>
                have G1 := Lib.hid g1
                have Hs2 := Lib.hid (show miss1To s x (r + 1) = miss1To s x r by rw [Hst.out, g1]; simp)
                clear g1
                refine (has_any _ _ _ (by omega) (by omega)).mono ?_
                rintro e w' ⟨rfl, rfl⟩
                rw [G1.out]
                go_wp2_with fail
                go_roundw
                case rel => exact ⟨A3, n3, c3, r + 1, by omega, rfl, by go_num, by omega, by rw [Hs2.out]; exact hM5, hW5, hawr, hh5⟩
                case measure => simp [intOf]; omega
              | false =>
                have G1 := Lib.hid g1
                cases g2 : hasL s (y.drop 1) with
                | false =>
                  have G2 := Lib.hid g2
                  have Hs2 := Lib.hid (show miss1To s x (r + 1) = miss1To s x r by rw [Hst.out, g2]; simp)
                  clear g1 g2
                  refine (has_any _ _ _ (by omega) (by omega)).mono ?_
                  rintro e w' ⟨rfl, rfl⟩
                  rw [G1.out]
                  go_wp2_with fail
                  rw [← Hd.out]
                  refine (has_any _ _ _ (by omega) (by rw [List.length_drop]; omega)).mono ?_
                  rintro e w' ⟨rfl, rfl⟩
                  rw [G2.out]
                  go_wp2_with fail
                  go_roundw
                  case rel => exact ⟨A3, n3, c3, r + 1, by omega, rfl, by go_num, by omega, by rw [Hs2.out]; exact hM5, hW5, hawr, hh5⟩
                  case measure => simp [intOf]; omega
                | true =>
                  have G2 := Lib.hid g2
                  have Hs2 := Lib.hid (show miss1To s x (r + 1) = miss1To s x r ++ [y] by rw [Hst.out, g1, g2]; rfl)
                  clear g1 g2
                  refine (has_any _ _ _ (by omega) (by omega)).mono ?_
                  rintro e w' ⟨rfl, rfl⟩
                  rw [G1.out]
                  go_wp2_with fail
                  rw [← Hd.out]
                  refine (has_any _ _ _ (by omega) (by rw [List.length_drop]; omega)).mono ?_
                  rintro e w' ⟨rfl, rfl⟩
                  rw [G2.out]
                  clear hyl hy1
                  go_wp2_with (at_builtin; refine wpList_appN _ rfl _ _ 24 rfl w.heap.size 9 i0 (.string ⟨#[]⟩) 16 Try.underlying24 hi hz0 hz1 hz2 rfl _ _ _ _ rfl (hM5.row.alloc _) ⟨w5.heap.size, 0, none⟩ 1 1 [.string ⟨y.toArray⟩] rfl rfl (cell_one_new _ _ _) (oneSs y) (n3 + 1) rfl (by omega) (by omega) (by simp; omega) ?_; intro A6 c6 w6 hrow6 hgrow6 hdis6)
                  have hrow7 : Row w6 w.heap.size 9 A6 (n3 + 1) c6 ((missA s k ++ missKTo s k q ++ miss1To s x r ++ [y]).map S) := by
                    rw [List.map_append]
                    exact hrow6
                  have hM6 := hM5.app hrow7 hgrow6 hdis6
                  have hA6 := hawr.app hh5 hdis6
                  have hW6 := (hW5.below ((Below.refl _ w5).alloc (Nat.le_refl _) _) hh5).aside hgrow6 hawr
                  have hh6 : h2 ≤ w6.heap.size := by have := hgrow6.size; simp at this; omega
                  clear hgrow6 hdis6 hrow6 hrow7 hM5 hW5
                  go_wp2_with fail
                  go_roundw
                  case rel => exact ⟨A6, n3 + 1, c6, r + 1, by omega, rfl, by go_num, by omega, by rw [Hs2.out, ← List.append_assoc]; exact hM6, hW6, hA6, hh6⟩
                  case measure => simp [intOf]; omega
            · obtain rfl : r = 4 := by omega
              go_wp2_with fail
              go_roundw
              case rel => exact ⟨A3, n3, c3, q + 1, by omega, rfl, by go_num, by omega, by rw [Hk.out, ← List.append_assoc]; exact hMr, hWr, hawr, hhr⟩
              case measure => simp [intOf]; omega
        · have hqn' : ¬ (q : Int) < (n1 : Int) := by omega
          have Hfin := Lib.hid (missKTo_all (s := s) (k := k) (i := q) (by rw [Hn.out]; omega))
          go_wp2_with fail
          go_roundw
          case rel => exact ⟨A2, n2, c2, k + 1, by omega, rfl, by go_num, by omega, by rw [Hall.out, ← Hfin.out]; exact hMq⟩
          case measure => simp [intOf]; omega
    · obtain rfl : k = s.length + 1 := by omega
      go_wp2_with fail
      go_ret
      exact ⟨_, _, _, rfl, hM.row.own, hM.bel⟩
end Go.Proofs.Ytfbmcfdmffpfmaa
