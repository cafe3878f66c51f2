/-
  slices.ContainsFunc over texts and over numbers, at whatever predicate that writes nothing that was there; slices.Clip.
-/
import Derived.Test.YtfbmcfdmffpfmaaText
namespace Go.Proofs.Ytfbmcfdmffpfmaa
open Go.RowKit
set_option linter.unusedVariables false
set_option linter.unusedSimpArgs false

/-- What is asked of a predicate's function value, at the elements xs: it tells p and leaves what was there as it was. -/
def PredS (g : Nat) (lb : Array Value) (p : List UInt8 → Bool) (ws : List (List UInt8)) (w : World) : Prop :=
  ∀ x, x ∈ ws → ∀ W : World, Below w.heap.size w W → Calls Try.prog g (#[.string ⟨x.toArray⟩] ++ lb) W fun e W' => e = .returned (.bool (p x)) ∧ Below W.heap.size W W'
def PredI (g : Nat) (lb : Array Value) (p : Int → Bool) (zs : List Int) (w : World) : Prop :=
  ∀ x, x ∈ zs → ∀ W : World, Below w.heap.size w W → Calls Try.prog g (#[.int .i64 x] ++ lb) W fun e W' => e = .returned (.bool (p x)) ∧ Below W.heap.size W W'
/-- The ending of a search: the index of the first element of which p holds, or -1. -/
def FoundAt {α : Type} (p : α → Bool) (xs : List α) (w : World) (e : Ending) (w' : World) : Prop :=
  ∃ i : Int, e = .returned (.int .i64 i) ∧ (decide (0 ≤ i) = xs.any p) ∧ Below w.heap.size w w'
theorem any_hit {α : Type} {p : α → Bool} {xs : List α} {k : Nat} {x : α} (hx : xs[k]? = some x) (h : p x = true) : xs.any p = true :=
  List.any_eq_true.2 ⟨x, List.mem_of_getElem? hx, h⟩
theorem any_take_succ {α : Type} {p : α → Bool} {xs : List α} {k : Nat} {x : α} (hx : xs[k]? = some x) (h0 : (xs.take k).any p = false) (h : p x = false) : (xs.take (k + 1)).any p = false := by
  obtain ⟨hk, rfl⟩ := List.getElem?_eq_some_iff.1 hx
  rw [List.take_succ_eq_append_getElem hk, List.any_append, h0]; simp [h]
theorem any_all {α : Type} {p : α → Bool} {xs : List α} {n k : Nat} (hn : xs.length = n) (hk : ¬ k < n) (h0 : (xs.take k).any p = false) : xs.any p = false := by
  rwa [List.take_of_length_le (by omega)] at h0

set_option maxHeartbeats 400000 in
theorem IndexFuncS_any (g : Nat) (lb : Array Value) (eg : ∀ args w, (callFunc g args).run Try.prog w = .ok (.enter g args) w) (p : List UInt8 → Bool)
    (A : Option Addr) (n c : Nat) (ws : List (List UInt8)) (w : World) (hr : Rd w w.heap.size A n c (ws.map S)) (hp : PredS g lb p ws w) :
    Calls Try.prog 113 #[.slice A n c, .func (.func g) #[] lb] w (FoundAt p ws w) := by
  have hm := hr.2.2.1
  have hnc := hr.2.1
  unfold maxLen at hm
  go_enter Try.func113, Try.ntmps113
  go_wp2
  go_loopw [5, 8] (fun _ i wr => ∃ k : Nat, k ≤ n ∧ i = .int .i64 k ∧ (ws.take k).any p = false ∧ Below w.heap.size w wr) (fun _ i _ => n - (intOf i).toNat)
  case atStart => exact ⟨0, Nat.zero_le _, rfl, by simp, Below.refl _ _⟩
  case round =>
    obtain ⟨k, hk, rfl, hall, hbw⟩ := hrel
    have Hall := Lib.hid hall
    clear hall
    by_cases hlt : k < n
    · have hr' := hr.below hbw
      obtain ⟨b, o, x, rfl, hb, hx, hc⟩ := hr'.str hlt
      have hcall := hp x (List.mem_of_getElem? hx) wr hbw
      have Hx := Lib.hid hx
      clear hx hp
      cases hq : p x with
      | true =>
        rw [hq] at hcall
        have Hq := Lib.hid hq
        clear hq
        go_wp2_with (go_at_fn g; refine hcall.mono ?_; rintro e w' ⟨rfl, hb'⟩)
        go_ret
        exact ⟨k, rfl, by rw [any_hit Hx.out Hq.out]; simp, hbw.trans (hb'.mono hbw.size)⟩
      | false =>
        rw [hq] at hcall
        have Hq := Lib.hid hq
        clear hq
        go_wp2_with (go_at_fn g; refine hcall.mono ?_; rintro e w' ⟨rfl, hb'⟩)
        go_roundw
        case rel => exact ⟨k + 1, by omega, by go_num, any_take_succ Hx.out Hall.out Hq.out, hbw.trans (hb'.mono hbw.size)⟩
        case measure => simp [intOf]; omega
    · go_wp2
      go_ret
      exact ⟨-1, rfl, by rw [any_all hr.slen hlt Hall.out]; simp, hbw⟩
set_option maxHeartbeats 400000 in
theorem ContainsFuncS_any (g : Nat) (lb : Array Value) (eg : ∀ args w, (callFunc g args).run Try.prog w = .ok (.enter g args) w) (p : List UInt8 → Bool)
    (A : Option Addr) (n c : Nat) (ws : List (List UInt8)) (w : World) (hr : Rd w w.heap.size A n c (ws.map S)) (hp : PredS g lb p ws w) :
    Calls Try.prog 101 #[.slice A n c, .func (.func g) #[] lb] w (RetVal w (.bool (ws.any p))) := by
  have H := Lib.hid (IndexFuncS_any g lb eg p A n c ws w hr hp)
  clear hp
  go_enter Try.func101, Try.ntmps101
  go_wp2_with (go_at_call 113; refine H.out.mono ?_; rintro e w' ⟨i, rfl, hi, hb⟩; have Hi := Lib.hid hi; clear hi)
  all_goals go_ret
  all_goals refine ⟨ret_bool ?_, by assumption⟩
  all_goals (have h := Hid.out ‹Hid (decide _ = _)›; rw [← h]; try simp; try omega)
theorem ClipS_any (A : Option Addr) (n c : Nat) (hnc : n ≤ c) (w : World) :
    Calls Try.prog 71 #[.slice A n c] w fun e w' => e = .returned (.slice A n n) ∧ w = w' := by
  go_enter Try.func71, Try.ntmps71
  go_wp2
  go_ret
  exact ⟨rfl, rfl⟩
end Go.Proofs.Ytfbmcfdmffpfmaa
