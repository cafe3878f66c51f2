/-
  Distances: of the reference and of the program.
-/
import Derived.Test.YtopmifidhabobaaDist
namespace Go.Proofs.Ytopmifidhabobaa
open Go.RowKit
set_option linter.unusedVariables false
set_option linter.unusedSimpArgs false

def Small (zs : List Int) : Prop := ∀ x ∈ zs, 0 ≤ x ∧ x ≤ 60
theorem Small.at_ {zs : List Int} (h : Small zs) {k : Nat} {x : Int} (hx : zs[k]? = some x) : 0 ≤ x ∧ x ≤ 60 := h x (List.mem_of_getElem? hx)
theorem dTo_len_le (zs : List Int) (i : Nat) (hi : i ≤ zs.length) : (dTo zs i).length ≤ i * i := by
  have := dTo_len zs i hi
  omega
theorem sq_le {i : Nat} (h : i ≤ 1000) : i * i ≤ 1000000 := Nat.mul_le_mul h h
theorem dRow_len_le (zs : List Int) (i j : Nat) : (dRow zs i j).length ≤ j := by
  unfold dRow
  rw [List.length_map, List.length_take]
  omega
theorem dRow_at {zs : List Int} {i j : Nat} {x y : Int} (hx : zs[i]? = some x) (hy : zs[j]? = some y) : dRow zs i (j + 1) = dRow zs i j ++ [x - y] := by
  obtain ⟨h1, rfl⟩ := List.getElem?_eq_some_iff.1 hy
  rw [dRow_succ zs i j h1, getD_at hx]
theorem map_snocI (l : List Int) (x : Int) : (l ++ [x]).map I = l.map I ++ [.int .i64 x] := by
  rw [List.map_append]
  rfl
set_option maxHeartbeats 1600000 in
theorem distances_any (A : Option Addr) (n c : Nat) (zs : List Int) (w : World) (hr : Rd w w.heap.size A n c (zs.map I)) (hn3 : n ≤ 1000) (hs : Small zs) :
    Calls Try.prog 68 #[.slice A n c] w (RetRow w 3 ((dsr zs).map I)) := by
  have hm := hr.2.2.1
  have hnc := hr.2.1
  have Hn := Lib.hid hr.ilen
  unfold maxLen at hm
  obtain ⟨i0, hi, hz0, hz1, hz2⟩ := info_parts Try.infoI
  go_enter Try.func68, Try.ntmps68
  go_wp2
  go_loopw [3, 4] (fun v i wr => ∃ (i' : Nat) (A' : Option Addr) (n' c' : Nat), i' ≤ n ∧ i = .int .i64 i' ∧ v = .slice A' n' c' ∧ Row wr w.heap.size 3 A' n' c' ((dTo zs i').map I) ∧ Below w.heap.size w wr) (fun _ i _ => n - (intOf i).toNat)
  case atStart =>
    refine ⟨0, some ⟨w.heap.size, 0, none⟩, 0, 0, Nat.zero_le _, rfl, rfl, ?_, ?_⟩
    · exact Row.nil_ w 3
    · exact (Below.refl _ _).alloc (Nat.le_refl _) _
  case round =>
    obtain ⟨i, A', n', c', hi', rfl, rfl, hown, hbw⟩ := hrel
    by_cases hin : i < n
    · obtain ⟨b, o, x, rfl, hb, hx, hc⟩ := (hr.below hbw).int hin
      have hx60 := hs.at_ hx
      have Hx := Lib.hid hx
      clear hx hc
      have hin' : (i : Int) < (n : Int) := by omega
      have i0' : (0 : Int) ≤ (i : Int) := by omega
      go_wp2_with fail
      go_loopw [3, 5] (fun v j wr => ∃ (j' : Nat) (A' : Option Addr) (n' c' : Nat), j' ≤ i ∧ j = .int .i64 j' ∧ v = .slice A' n' c' ∧ Row wr w.heap.size 3 A' n' c' ((dTo zs i ++ dRow zs i j').map I) ∧ Below w.heap.size w wr) (fun _ j _ => i - (intOf j).toNat)
      case atStart => exact ⟨0, _, _, _, Nat.zero_le _, rfl, rfl, by simpa [dRow] using hown, hbw⟩
      case round =>
        obtain ⟨j, A', n', c', hj, rfl, rfl, hown, hbw⟩ := hrel
        by_cases hji : j < i
        · obtain ⟨x', hx', hcx⟩ := (hr.below hbw).int_at hin
          rw [Hx.out] at hx'
          injection hx' with hx'
          subst hx'
          obtain ⟨y, hy, hcy⟩ := (hr.below hbw).int_at (show j < n by omega)
          have hy60 := hs.at_ hy
          obtain ⟨x2, hx2, hcx0⟩ := hr.int_at hin
          obtain ⟨y2, hy2, hcy0⟩ := hr.int_at (show j < n by omega)
          rw [Hx.out] at hx2
          injection hx2 with hx2
          rw [hy] at hy2
          injection hy2 with hy2
          subst hx2 hy2
          have hbx0 : (⟨b, o + i, none⟩ : Addr).block < w.heap.size := hb
          have hby0 : (⟨b, o + j, none⟩ : Addr).block < w.heap.size := hb
          have Hst := Lib.hid (show (dTo zs i ++ dRow zs i (j + 1)).map I = (dTo zs i ++ dRow zs i j).map I ++ [.int .i64 (x - y)] by rw [dRow_at Hx.out hy, ← List.append_assoc, map_snocI])
          clear hy
          have hlen := hown.len
          have hl1 := dTo_len_le zs i (by have := Hn.out; omega)
          have hl2 := dRow_len_le zs i j
          have hl3 := sq_le (i := i) (by omega)
          have hn' : n' ≤ 2000000 := by
            simp at hlen
            omega
          clear hlen hl1 hl2 hl3
          have hji' : (j : Int) < (i : Int) := by omega
          have j0' : (0 : Int) ≤ (j : Int) := by omega
          have hjn' : (j : Int) < (n : Int) := by omega
          have e1 : IntKind.i64.wrap (x - y) = x - y := by rw [IntKind.wrap_i64]; omega
          go_wp2_with fail
          go_region_held3 (fun w' => w'.cell? ⟨b, o + i, none⟩ = some (.int .i64 x) ∧ w'.cell? ⟨b, o + j, none⟩ = some (.int .i64 y) ∧ Below w.heap.size w w')
            ((refine kp_two hcx0 hbx0 hcy0 hby0 ?_; focus (repeat (first | assumption | exact hbw | refine kp_grown ?_ (Nat.le_refl _) hgrow2 (row_ge hown) | refine kp_alloc _ ?_ (Nat.le_refl _) | apply Below.drew))))
            (first
             | (refine step_app _ (by rfl) _ _ _ (by rfl) w.heap.size 3 i0 _ 8 Try.underlying22 hi hz0 hz1 hz2 rfl A' n' c' _ ?_ (Row.drew_ (hown.alloc _)) ⟨wr.heap.size, 0, none⟩ 1 1 [.int .i64 (x - y)] ?_ rfl (World.news_of_block (cs := #[.int .i64 (x - y)]) (t := 3) (fr := (0, 0)) (heap_al0 wr _)) (oneI [x - y]) (n' + 1) ?_ ?_ ?_ ?_ ?_
                rfl
                rfl
                omega
                omega
                omega
                (refine Nat.le_trans ?_ (kp_size (w0 := w) (N := w.heap.size) ?_); (focus exact Nat.le_refl _); focus (repeat (first | assumption | exact hbw | refine kp_grown ?_ (Nat.le_refl _) hgrow2 (row_ge hown) | refine kp_alloc _ ?_ (Nat.le_refl _) | apply Below.drew)))
                intro A2 c2 w2 hown2 hgrow2))
          have hbw2 : Below w.heap.size w w2 := by first | exact kp_grown ((kp_alloc _ hbw (Nat.le_refl _)).drew) (Nat.le_refl _) hgrow2 (row_ge hown) | exact kp_grown (kp_alloc _ hbw (Nat.le_refl _)) (Nat.le_refl _) hgrow2 (row_ge hown)
          clear hgrow2
          go_wp2_with fail
          go_roundw
          case rel => exact ⟨j + 1, A2, n' + 1, c2, by omega, by go_num, rfl, by rw [Hst.out]; exact hown2, hbw2⟩
          case measure => simp [intOf]; omega
        · have hji' : ¬ (j : Int) < (i : Int) := by omega
          obtain rfl : j = i := by omega
          go_wp2_with fail
          go_roundw
          case rel => exact ⟨j + 1, A', n', c', by omega, by go_num, rfl, hown, hbw⟩
          case measure => simp [intOf]; omega
    · have hin' : ¬ (i : Int) < (n : Int) := by omega
      obtain rfl : i = n := by omega
      have hlen := hown.len
      have hl1 := dTo_len_le zs i (by have := Hn.out; omega)
      have hl3 := sq_le hn3
      have hn' : n' ≤ 1000000 := by
        simp at hlen
        omega
      clear hlen hl1 hl3
      have hsz := hbw.size
      go_wp2_with fail
      refine (sortInts_any A' n' c' (dTo zs i) wr hown.rd (by omega)).mono ?_
      rintro e w2 ⟨A2, n2, c2, rfl, ho2, hb2⟩
      go_wp2_with fail
      go_ret
      refine ⟨A2, n2, c2, rfl, ?_, hbw.trans (hb2.mono hsz)⟩
      have := ho2.more hsz
      unfold dsr dst
      rw [Hn.out]
      exact this
end Go.Proofs.Ytopmifidhabobaa
