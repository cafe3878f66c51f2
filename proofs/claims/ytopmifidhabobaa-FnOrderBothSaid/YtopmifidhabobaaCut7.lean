/-
  Cuts: the program's measure of a cut, cutBoth and CutBoth.
-/
import Derived.Test.YtopmifidhabobaaCut6
import Derived.Test.YtopmifidhabobaaDist3
import Derived.Deep.RegionHeld3
namespace Go.Proofs.Ytopmifidhabobaa
open Go.RowKit
set_option linter.unusedVariables false
set_option linter.unusedSimpArgs false

set_option maxRecDepth 8000 in
set_option maxHeartbeats 1600000 in
theorem measureC_any (A : Option Addr) (n c : Nat) (zs : List Int) (w : World) (hr : Rd w w.heap.size A n c (zs.map I)) (h1 : 1 ≤ n) (hn3 : n ≤ 1000) (hs : ∀ z ∈ zs, 0 ≤ z ∧ z ≤ 100000) :
    Calls Try.prog 65 #[.iface 77 (.slice A n c)] w (RetRow w 3 ((srt (dfs zs)).map I)) := by
  have hm := hr.2.2.1
  have hnc := hr.2.1
  have Hn := Lib.hid hr.ilen
  unfold maxLen at hm
  obtain ⟨i0, hi, hz0, hz1, hz2⟩ := info_parts Try.infoI
  have hta := ta_cut (.slice A n c)
  have htp := ta_cut_points (.slice A n c)
  go_enter Try.func65, Try.ntmps65
  go_wp2
  go_loopw [3, 10] (fun v i wr => ∃ (k : Nat) (A' : Option Addr) (c' : Nat), k + 1 ≤ n ∧ i = .int .i64 ((k : Int) + 1) ∧ v = .slice A' k c' ∧ Row wr w.heap.size 3 A' k c' ((dfTo zs k).map I) ∧ Below w.heap.size w wr) (fun _ i _ => n + 1 - (intOf i).toNat)
  case atStart =>
    refine ⟨0, some ⟨w.heap.size, 0, none⟩, 0, h1, rfl, rfl, ?_, ?_⟩
    · exact Row.nil_ w 3
    · exact (Below.refl _ _).alloc (Nat.le_refl _) _
  case round =>
    obtain ⟨k, A', c', hk, rfl, rfl, hown, hbw⟩ := hrel
    have hsz := hbw.size
    by_cases hlt : k + 1 < n
    · obtain ⟨b, o, x, rfl, hb, hx, hcx⟩ := (hr.below hbw).int hlt
      obtain ⟨y, hy, hcy⟩ := (hr.below hbw).int_at (show k < n by omega)
      have hx2 := hs x (List.mem_of_getElem? hx)
      have hy2 := hs y (List.mem_of_getElem? hy)
      have Hst := Lib.hid (show (dfTo zs (k + 1)).map I = (dfTo zs k).map I ++ [.int .i64 (x - y)] by
        rw [dfTo_succ, List.map_append, List.getD_eq_getElem?_getD, List.getD_eq_getElem?_getD, hx, hy]
        rfl)
      have i1 : (k : Int) + 1 < (n : Int) := by omega
      have i2 : (k : Int) < (n : Int) := by omega
      have j1 : (0 : Int) ≤ (k : Int) + 1 := by omega
      have j2 : (0 : Int) ≤ (k : Int) := by omega
      have e0 : IntKind.i64.wrap ((k : Int) + 1 - 1) = (k : Int) := by rw [IntKind.wrap_i64]; omega
      have e1 : IntKind.i64.wrap (x - y) = x - y := by rw [IntKind.wrap_i64]; omega
      have e2 : ((k : Int) + 1).toNat = k + 1 := by omega
      have e3 : (k : Int) + 1 - 1 = (k : Int) := by omega
      have hownd : Row wr.drew w.heap.size 3 A' k c' ((dfTo zs k).map I) := hown
      have hbwd : Below w.heap.size w wr.drew := hbw.drew
      clear hx hy
      go_wp2_with fail
      have e0 : IntKind.i64.wrap ((k : Int) + 1 - 1) = (k : Int) := by rw [IntKind.wrap_i64]; omega
      have e4 : IntKind.i64.wrap (k : Int) = (k : Int) := by rw [IntKind.wrap_i64]; omega
      have e5 : (k : Int) < (n : Int) := by omega
      have e6 : k < n := by omega
      have hcx' : wr.drew.cell? ⟨b, o + (k + 1), none⟩ = some (.int .i64 x) := hcx
      have hcy' : wr.drew.cell? ⟨b, o + k, none⟩ = some (.int .i64 y) := hcy
      have hbN : b < wr.heap.size := by omega
      go_region_held3 (fun w' => w'.cell? ⟨b, o + (k + 1), none⟩ = some (.int .i64 x) ∧ w'.cell? ⟨b, o + k, none⟩ = some (.int .i64 y))
        (first | exact ⟨hcx, hcy⟩ | exact ⟨hcx', hcy'⟩ | (exact ⟨(World.cell?_alloc_lt wr _ _ hbN).trans hcx, (World.cell?_alloc_lt wr _ _ hbN).trans hcy⟩) | exact ⟨hz1, hz2⟩)
        (first
        | (refine step_app _ (by rfl) _ _ _ (by rfl) w.heap.size 3 i0 _ 8 Try.underlying22 hi hz0 hz1 hz2 rfl A' _ c' _ ?_ (hownd.alloc _) ⟨wr.heap.size, 0, none⟩ 1 1 [.int .i64 (x - y)] ?_ rfl (World.news_of_block (cs := #[.int .i64 (x - y)]) (t := 3) (fr := (0, 0)) (heap_al0 wr.drew _)) (by simp [Value.oneCell']) (k + 1) ?_ ?_ ?_ ?_ ?_
           rfl
           rfl
           omega
           omega
           omega
           (simp; omega)
           intro A2 c4 w2 hrow2 hgrow2
           have hBz : Below w.heap.size w w2 := kp_grown (kp_alloc _ hbwd (Nat.le_refl _)) (Nat.le_refl _) hgrow2 (row_ge hownd)
           have hz1 : w2.cell? ⟨b, o + (k + 1), none⟩ = some (.int .i64 x) := (hBz.cell (p := ⟨b, o + (k + 1), none⟩) hb).trans ((hbw.cell (p := ⟨b, o + (k + 1), none⟩) hb).symm.trans hcx)
           have hz2 : w2.cell? ⟨b, o + k, none⟩ = some (.int .i64 y) := (hBz.cell (p := ⟨b, o + k, none⟩) hb).trans ((hbw.cell (p := ⟨b, o + k, none⟩) hb).symm.trans hcy)))
      go_wp2_with fail
      go_roundw
      case rel => exact ⟨k + 1, A2, c4, by omega, by go_num, rfl, by rw [Hst.out]; exact hrow2, hBz⟩
      case measure => simp [intOf]; omega
    · have hlt' : ¬ ((k : Int) + 1 < (n : Int)) := by omega
      have hkn : k = n - 1 := by omega
      have Hd := Lib.hid (show dfTo zs k = dfs zs by unfold dfs; rw [Hn.out, hkn])
      have hk9 : k ≤ 1000000000 := by omega
      clear hkn hlt
      go_wp2_with fail
      refine (SortI_any w.heap.size A' k c' (dfTo zs k) wr hown hk9).mono ?_
      rintro e w2 ⟨rfl, hown2, hg2⟩
      have hbw2 : Below w.heap.size w w2 := kp_grown hbw (Nat.le_refl _) hg2 (row_ge hown)
      go_wp2_with fail
      refine (ClipI_any A' k c' hown2.rd.2.1 w2).mono ?_
      rintro e w3 ⟨rfl, rfl⟩
      go_wp2_with fail
      go_ret
      have hfin := hown2.own.clip
      rw [Hd.out] at hfin
      exact ⟨A', k, k, rfl, hfin, hbw2⟩
end Go.Proofs.Ytopmifidhabobaa
