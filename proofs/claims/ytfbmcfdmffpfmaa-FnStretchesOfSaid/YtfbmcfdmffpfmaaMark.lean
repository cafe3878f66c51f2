/-
  The exact laws' own small functions on lists of texts: marks that are written and read again.
-/
import Derived.Test.YtfbmcfdmffpfmaaExactS
import Derived.Test.YtfbmcfdmffpfmaaExactI
import Derived.Test.YtfbmcfdmffpfmaaOnceS
namespace Go.Proofs.Ytfbmcfdmffpfmaa
open Go.RowKit
set_option linter.unusedVariables false
set_option linter.unusedSimpArgs false

def dF : Nat → Nat → List UInt8 → List UInt8
  | 0, _, acc => acc
  | f + 1, k, acc => if k = 0 then acc else dF f (k / 10) (UInt8.ofNat (48 + k % 10) :: acc)
/-- The mark of a number. -/
def mt (k : Nat) : List UInt8 := if k = 0 then [109, 48] else 109 :: dF k k []
theorem dF_len : ∀ (f k : Nat) (acc : List UInt8), k < 10 ^ f → (dF f k acc).length ≤ f + acc.length := by
  intro f
  induction f with
  | zero => intro k acc _; simp [dF]
  | succ f ih =>
    intro k acc h
    rw [dF]
    split
    · omega
    · have := ih (k / 10) (UInt8.ofNat (48 + k % 10) :: acc) (by rw [Nat.pow_succ] at h; omega)
      simp only [List.length_cons] at this
      omega
set_option maxRecDepth 8000 in
set_option maxHeartbeats 1600000 in
theorem markText_any (k : Nat) (w : World) (hk : k ≤ 1000000000000) :
    Calls Try.prog 70 #[.int .i64 k] w (RetVal w (.string ⟨(mt k).toArray⟩)) := by
  by_cases h0 : k = 0
  · subst h0
    go_enter Try.func70, Try.ntmps70
    go_wp2_with fail
    go_ret
    exact ⟨rfl, Below.refl _ _⟩
  · have h0' : ¬ (k : Int) ≤ 0 := by omega
    have Hv := Lib.hid (show mt k = 109 :: dF k k [] by unfold mt; rw [if_neg h0])
    go_enter Try.func70, Try.ntmps70
    go_wp2_with fail
    go_loopw [0, 3] (fun t v wr => ∃ (f j : Nat) (acc : List UInt8), j ≤ f ∧ f + acc.length ≤ k ∧ t = .int .i64 j ∧ v = .string ⟨acc.toArray⟩ ∧ dF k k [] = dF f j acc ∧ Below w.heap.size w wr) (fun t _ _ => (intOf t).toNat)
    case atStart => exact ⟨k, k, [], Nat.le_refl _, by simp, rfl, rfl, rfl, Below.refl _ _⟩
    case round =>
      obtain ⟨f, j, acc, hjf, hfa, rfl, rfl, hd, hbw⟩ := hrel
      have Hd := Lib.hid hd
      clear hd
      by_cases hj : 0 < j
      · have hm1 : (j : Int) % 10 = ((j % 10 : Nat) : Int) := by omega
        have hm2 : (j : Int).tmod 10 = ((j % 10 : Nat) : Int) := by rw [Int.tmod_eq_emod_of_nonneg (by omega)]; omega
        obtain ⟨d, hd⟩ : ∃ d, d = j % 10 := ⟨_, rfl⟩
        rw [← hd] at hm1 hm2
        have hd9 : d < 10 := by omega
        have Hdd := Lib.hid hd
        clear hd
        obtain ⟨c, hc⟩ : ∃ c, c = UInt8.ofNat (48 + d) := ⟨_, rfl⟩
        have hcn : c.toNat = 48 + d := by rw [hc, UInt8.toNat_ofNat']; omega
        have hback : (convert 29 9 (.slice (some ⟨wr.heap.size, 0, none⟩) 1 1)).run Try.prog (wr.alloc (.cells #[.int .u8 (48 + (d : Int))] 5)) = .ok (.string ⟨[c].toArray⟩) (wr.alloc (.cells #[.int .u8 (48 + (d : Int))] 5)) :=
          run_convert_bytes_back (P := Try.prog) _ 29 9 5 ⟨wr.heap.size, 0, none⟩ 1 [c] Try.underlying29 Try.underlying5 Try.underlying9 (fun j hj => by
            obtain rfl : j = 0 := by simpa using hj
            have h := cell_one_new wr (.int .u8 (48 + (d : Int))) 5 0 (.int .u8 (48 + (d : Int))) rfl
            rw [h]
            simp [hcn])
        have Hc := Lib.hid hc
        have hb2 : Below w.heap.size w (wr.alloc (.cells #[.int .u8 (48 + (d : Int))] 5)) := hbw.alloc hbw.size _
        have hdv : (j : Int) / 10 = ((j / 10 : Nat) : Int) := by omega
        have hdv2 : (j : Int).tdiv 10 = ((j / 10 : Nat) : Int) := by rw [Int.tdiv_eq_ediv_of_nonneg (by omega)]; omega
        obtain ⟨m, hm⟩ : ∃ m, m = j / 10 := ⟨_, rfl⟩
        rw [← hm] at hdv hdv2
        have hmj : m < j := by omega
        have Hm := Lib.hid hm
        obtain ⟨g, rfl⟩ : ∃ g, f = g + 1 := ⟨f - 1, by omega⟩
        have Hst := Lib.hid (show dF (g + 1) j acc = dF g m (c :: acc) by rw [dF, if_neg (by omega), Hm.out, Hc.out, Hdd.out])
        clear hc hcn hm
        go_wp2_with fail
        go_roundw
        case rel => exact ⟨g, m, c :: acc, by omega, by simp only [List.length_cons]; omega, by go_num, rfl, by rw [Hd.out, Hst.out], hb2⟩
        case measure => first | (simp [intOf]; done) | (simp [intOf]; omega)
      · obtain rfl : j = 0 := by omega
        have Hfin := Lib.hid (show dF f 0 acc = acc by cases f <;> rfl)
        go_wp2_with fail
        go_ret
        exact ⟨ret_str (by rw [Hv.out, Hd.out, Hfin.out]), hbw⟩
/-- The marks from the k-th on. -/
def mkT (k n : Nat) : List Value := (List.range n).map fun i : Nat => Value.string ⟨(mt (k + i)).toArray⟩
theorem mkT_succ (k n : Nat) : mkT k (n + 1) = mkT k n ++ [.string ⟨(mt (k + n)).toArray⟩] := by
  unfold mkT
  rw [List.range_succ, List.map_append]
  rfl
theorem mkT_len (k n : Nat) : (mkT k n).length = n := by simp [mkT]
theorem mkT_at (k n j : Nat) (h : j < n) : (mkT k n)[j]? = some (.string ⟨(mt (k + j)).toArray⟩) := by
  unfold mkT
  rw [List.getElem?_map, List.getElem?_range h]
  rfl
theorem markT_step {cur : Array Value} {n j k : Nat} {xs : List Value} (h : cur.toList.take n = mkT k j ++ xs.drop j) (hx : xs.length = n) (hj : j < n) : (cur.setIfInBounds j (.string ⟨(mt (k + j)).toArray⟩)).toList.take n = mkT k (j + 1) ++ xs.drop (j + 1) := by
  rw [Array.toList_setIfInBounds, List.take_set, h, mkT_succ, List.append_assoc, List.set_append_right _ _ (by rw [mkT_len]; exact Nat.le_refl _), mkT_len, Nat.sub_self]
  congr 1
  rw [List.drop_eq_getElem_cons (by omega)]
  rfl
set_option maxHeartbeats 800000 in
theorem markStringS_any (A : Option Addr) (n c : Nat) (xs : List (List UInt8)) (k : Nat) (w : World) (lo hi : Nat) (ho : OwnW w lo hi 9 A n c (xs.map S)) (hk : k ≤ 1000000000) (hn9 : n ≤ 100000000) (hhi : hi ≤ w.heap.size) :
    Calls Try.prog 25 #[.slice A n c, .int .i64 k] w fun e w' => e = .returned (.int .i64 ((k : Int) + (n : Int))) ∧ OwnW w' lo hi 9 A n c (mkT k n) ∧ Turn lo hi w w' := by
  obtain ⟨hx, hnc, hcm, ho⟩ := ho
  rcases Nat.eq_zero_or_pos n with h0 | h0
  · subst h0
    go_enter Try.func25, Try.ntmps25
    go_wp2
    go_loopw [1, 5] (fun q i wr => q = .int .i64 k ∧ i = .int .i64 0 ∧ wr = w) (fun _ _ _ => 0)
    case atStart => exact ⟨rfl, rfl, rfl⟩
    case round =>
      obtain ⟨rfl, rfl, rfl⟩ := hrel
      go_wp2
      go_ret
      exact ⟨by simp, ⟨rfl, hnc, hcm, fun h => absurd h (by omega)⟩, ⟨rfl, rfl, rfl, Nat.le_refl _, fun _ _ _ => rfl⟩⟩
  · obtain ⟨g, cur, rfl, hlo, hhi', hh, ht⟩ := ho h0
    have Hx := Lib.hid hx
    have Hh := Lib.hid hh
    have Ht := Lib.hid ht
    clear ho hh ht hx
    go_enter Try.func25, Try.ntmps25
    go_wp2
    go_loopw [1, 5] (fun q i wr => ∃ (j : Nat) (cur' : Array Value), j ≤ n ∧ q = .int .i64 ((k : Int) + (j : Int)) ∧ i = .int .i64 j ∧ wr.heap[g]? = some (.cells cur' 9 (0, 0)) ∧ cur'.toList.take n = mkT k j ++ (xs.map S).drop j ∧ w.grownBy wr (some g)) (fun _ i _ => n - (intOf i).toNat)
    case atStart => exact ⟨0, cur, Nat.zero_le _, by simp, rfl, Hh.out, by rw [Ht.out]; rfl, ⟨rfl, rfl, rfl, Nat.le_refl _, fun _ _ _ => rfl⟩⟩
    case round =>
      obtain ⟨j, cur', hj, rfl, rfl, hh', ht', hg'⟩ := hrel
      have Ht' := Lib.hid ht'
      clear ht'
      by_cases hjn : j < n
      · have hjl : j < cur'.size := by
          have h1 := congrArg List.length Ht'.out
          have h2 := Hx.out
          rw [List.length_take, List.length_append, mkT_len, List.length_drop, h2] at h1
          have : cur'.toList.length = cur'.size := by simp
          omega
        have hgs := (Array.getElem?_eq_some_iff.1 hh').1
        have hb' : (j : Int) < (n : Int) := by omega
        have hMT := markText_any (k + j) wr (by omega)
        rw [Int.natCast_add] at hMT
        have Hh' := Lib.hid hh'
        clear hh'
        go_wp2_with fail
        refine hMT.mono ?_
        rintro e w6 ⟨rfl, hb6⟩
        have hh6 := (hb6.block g hgs).trans Hh'.out
        have hc := cell_of_row w6 g j cur' _ (0, 0) hh6
        rw [Array.getElem?_eq_getElem hjl] at hc
        have hf := frozen_of_row w6 g j cur' _ hh6
        have hnew := Go.Joins.block_setCell (i := j) hh6 (.string ⟨(mt (k + j)).toArray⟩)
        have e1 : IntKind.i64.wrap ((k : Int) + (j : Int) + 1) = (k : Int) + ((j + 1 : Nat) : Int) := by rw [IntKind.wrap_i64]; omega
        have hg6 : w.grownBy w6 (some g) := ⟨hb6.os.trans hg'.os, hb6.tape.trans hg'.tape, hb6.output.trans hg'.output, Nat.le_trans hg'.size hb6.size, fun b hb hne => (hb6.block b (Nat.lt_of_lt_of_le hb hg'.size)).trans (hg'.block b hb hne)⟩
        have Hnew := Lib.hid hnew
        have Hst := Lib.hid (markT_step Ht'.out Hx.out hjn)
        clear hnew hh6 hMT hb6
        go_wp2_with fail
        go_roundw
        case rel => exact ⟨j + 1, _, by omega, by congr 1 <;> omega, by go_num, Hnew.out, Hst.out, ⟨hg6.os, hg6.tape, hg6.output, by simpa using hg6.size, fun b hb hne => (heap_setCell_other w6 ⟨g, j, none⟩ b _ (fun e => hne (by simp [e]))).trans (hg6.block b hb hne)⟩⟩
        case measure => simp [intOf]; omega
      · obtain rfl : j = n := by omega
        go_wp2
        go_ret
        refine ⟨rfl, ⟨mkT_len _ _, hnc, hcm, fun _ => ⟨g, cur', rfl, hlo, hhi', hh', ?_⟩⟩, Turn.of_grown hg' (fun b e => by injection e with e; subst e; exact ⟨hlo, hhi'⟩)⟩
        rw [Ht'.out, List.drop_of_length_le (by rw [Hx.out]; exact Nat.le_refl _), List.append_nil]
set_option maxHeartbeats 800000 in
theorem heldStringS_any (A : Option Addr) (n c : Nat) (k : Nat) (w : World) (hr : Rd w w.heap.size A n c (mkT k n)) (hk : k ≤ 1000000000) (hn9 : n ≤ 100000000) :
    Calls Try.prog 26 #[.slice A n c, .int .i64 k] w fun e w' => e = .returned (.int .i64 ((k : Int) + (n : Int))) ∧ Below w.heap.size w w' := by
  have hm := hr.2.2.1
  have hnc := hr.2.1
  unfold maxLen at hm
  go_enter Try.func26, Try.ntmps26
  go_wp2
  go_loopw [1, 5] (fun q i wr => ∃ j : Nat, j ≤ n ∧ q = .int .i64 ((k : Int) + (j : Int)) ∧ i = .int .i64 j ∧ Below w.heap.size w wr) (fun _ i _ => n - (intOf i).toNat)
  case atStart => exact ⟨0, Nat.zero_le _, by simp, rfl, Below.refl _ _⟩
  case round =>
    obtain ⟨j, hj, rfl, rfl, hbw⟩ := hrel
    have hsz := hbw.size
    by_cases hjn : j < n
    · obtain ⟨b, o, rfl, hb, hcc⟩ := hr.2.2.2 (by omega)
      have hcx0 := (hbw.cell (p := ⟨b, o + j, none⟩) hb).trans (hcc j _ (mkT_at k n j hjn))
      have hbN : (⟨b, o + j, none⟩ : Addr).block < wr.heap.size := by show b < wr.heap.size; omega
      have e1 : IntKind.i64.wrap ((k : Int) + (j : Int) + 1) = (k : Int) + (j : Int) + 1 := by rw [IntKind.wrap_i64]; omega
      have hMT := fun W => markText_any (k + j) W (by omega)
      rw [Int.natCast_add] at hMT
      have hb' : (j : Int) < (n : Int) := by omega
      have j0 : (0 : Int) ≤ (j : Int) := by omega
      obtain ⟨y, hy⟩ : ∃ y, y = mt (k + j) := ⟨_, rfl⟩
      rw [← hy] at hcx0 hMT
      clear hcc hy
      go_wp2_with fail
      go_region_held3 (fun w' => w'.cell? ⟨b, o + j, none⟩ = some (.string ⟨y.toArray⟩) ∧ Below wr.heap.size wr w')
        ((refine kp_one hcx0 hbN ?_; focus (repeat (first | exact Below.refl _ _ | assumption | exact ⟨hb6.os, hb6.tape, hb6.output, hb6.size, hb6.block⟩ | apply Below.drew))))
        (first
         | (go_at_call 70
            with_reducible refine (hMT _).mono ?_
            rintro e w6 ⟨rfl, hb6⟩))
      all_goals
        have B6 : Below wr.heap.size wr w6 := ⟨hb6.os, hb6.tape, hb6.output, hb6.size, hb6.block⟩
        have BB := hbw.trans (B6.mono hsz)
        clear hb6
        go_wp2_with fail
        go_roundw
        case rel => exact ⟨j + 1, by omega, by congr 1 <;> omega, by go_num, ⟨BB.os, BB.tape, BB.output, BB.size, BB.block⟩⟩
        case measure => simp [intOf]; omega
    · obtain rfl : j = n := by omega
      go_wp2
      go_ret
      exact ⟨rfl, hbw⟩
end Go.Proofs.Ytfbmcfdmffpfmaa
