/-
  Contracts of the functions on lists of words: what words are valid; which are left (reduce).
-/
import Derived.Test.YtfppbfhlmbakoaaFuncs
import Derived.Deep.QuietTactic
import Derived.BigQuiet
import Derived.WalkMore
namespace Go.Proofs.Ytfppbfhlmbakoaa
open Go.RowKit
set_option linter.unusedVariables false
set_option linter.unusedSimpArgs false

/-! ### plain words -/
def wOk (x : List UInt8) : Bool := vt x && inR x.length 1 6
/-- Valid words. -/
def vw (ws : List (List UInt8)) : Bool := ws.all wOk && decide (ws.length ≤ 6)
theorem vw_no {ws : List (List UInt8)} {k : Nat} {x : List UInt8} (hx : ws[k]? = some x) (h : wOk x = false) : vw ws = false := by
  unfold vw
  rw [Bool.and_eq_false_iff]
  left
  rw [List.all_eq_false]
  exact ⟨x, List.mem_of_getElem? hx, by simp [h]⟩
theorem allw_succ {ws : List (List UInt8)} {k : Nat} {x : List UInt8} (p : List UInt8 → Bool) (hx : ws[k]? = some x) (h0 : (ws.take k).all p = true) (h : p x = true) : (ws.take (k + 1)).all p = true := by
  obtain ⟨hk, rfl⟩ := List.getElem?_eq_some_iff.1 hx
  rw [List.take_succ_eq_append_getElem hk, List.all_append, h0]; simp [h]
theorem vw_all {ws : List (List UInt8)} {n k : Nat} (hn : ws.length = n) (hk : ¬ k < n) (h0 : (ws.take k).all wOk = true) : vw ws = decide ((n : Int) ≤ 6) := by
  rw [List.take_of_length_le (by omega)] at h0
  unfold vw; rw [h0, hn]; simp; omega
def Len47 (ws : List (List UInt8)) : Prop := ∀ x ∈ ws, x.length ≤ 140737488351232
theorem Len47.at_ {ws : List (List UInt8)} (h : Len47 ws) {k : Nat} {x : List UInt8} (hx : ws[k]? = some x) : x.length ≤ 140737488351232 := h x (List.mem_of_getElem? hx)

set_option maxHeartbeats 400000 in
theorem validWords_any (A : Option Addr) (n c : Nat) (ws : List (List UInt8)) (w : World) (B : Nat) (hr : Rd w B A n c (ws.map S)) (hl : Len47 ws) :
    Calls Try.prog 33 #[.slice A n c] w fun e w' => e = .returned (.bool (vw ws)) ∧ w = w' := by
  have hm := hr.2.2.1
  have hnc := hr.2.1
  unfold maxLen at hm
  go_enter Try.func33, Try.ntmps33
  go_wp2
  go_loop [3] (fun i => ∃ k : Nat, k ≤ n ∧ i = .int .i64 k ∧ (ws.take k).all wOk = true) (fun i => n - (intOf i).toNat)
  case atStart => exact ⟨0, Nat.zero_le _, rfl, by simp⟩
  case round =>
    obtain ⟨k, hk, rfl, hall⟩ := hrel
    have Hall := Lib.hid hall
    clear hall
    by_cases hlt : k < n
    · obtain ⟨b, o, x, rfl, hb, hx, hc⟩ := hr.str hlt
      have hxl := hl.at_ hx
      have Hx := Lib.hid hx
      clear hx
      by_cases hv : vt x = true
      · by_cases hi : inR x.length 1 6 = true
        · go_wp2_with (first | (go_at_call 58; refine (validText_any _ _ (by omega)).mono ?_; rintro e w' ⟨rfl, rfl⟩) | (go_at_call 60; refine (inRange_any _ _ _ _).mono ?_; rintro e w' ⟨rfl, rfl⟩))
          go_round
          case rel => exact ⟨k + 1, by omega, by go_num, allw_succ _ Hx.out Hall.out (by unfold wOk; rw [hv, hi]; rfl)⟩
          case measure => simp [intOf]; omega
        · have hi' : inR x.length 1 6 = false := by simpa using hi
          have Hv := Lib.hid (vw_no Hx.out (by unfold wOk; rw [hv, hi']; rfl))
          go_wp2_with (first | (go_at_call 58; refine (validText_any _ _ (by omega)).mono ?_; rintro e w' ⟨rfl, rfl⟩) | (go_at_call 60; refine (inRange_any _ _ _ _).mono ?_; rintro e w' ⟨rfl, rfl⟩))
          go_ret
          exact ⟨ret_bool (Hv.out).symm, rfl⟩
      · have hv' : vt x = false := by simpa using hv
        have Hv := Lib.hid (vw_no Hx.out (by unfold wOk; rw [hv']; rfl))
        go_wp2_with (first | (go_at_call 58; refine (validText_any _ _ (by omega)).mono ?_; rintro e w' ⟨rfl, rfl⟩) | (go_at_call 60; refine (inRange_any _ _ _ _).mono ?_; rintro e w' ⟨rfl, rfl⟩))
        go_ret
        exact ⟨ret_bool (Hv.out).symm, rfl⟩
    · have Hv := Lib.hid (vw_all hr.slen hlt Hall.out)
      go_wp2
      go_ret
      exact ⟨ret_bool (Hv.out).symm, rfl⟩
set_option maxHeartbeats 400000 in
theorem wordsOk1_any (x : List UInt8) (w : World) (hx : x.length ≤ 140737488351232) :
    Calls Try.prog 69 #[.string ⟨x.toArray⟩] w (RetVal w (.bool (!wOk x))) := by
  by_cases hi : inR x.length 1 6 = true
  · have Hv := Lib.hid (show (!wOk x) = !vt x by unfold wOk; rw [hi]; simp)
    go_enter Try.func69, Try.ntmps69
    go_wp2_with (first | (go_at_call 70; refine (within_any _ _ _ _).mono ?_; rintro e w' ⟨rfl, rfl⟩) | (go_at_call 30; refine (ValidText_any _ _ (by omega)).mono ?_; rintro e w' ⟨rfl, hb⟩))
    go_ret
    exact ⟨ret_bool (Hv.out).symm, by assumption⟩
  · have hi' : inR x.length 1 6 = false := by simpa using hi
    have Hv := Lib.hid (show (!wOk x) = true by unfold wOk; rw [hi']; simp)
    clear hi
    go_enter Try.func69, Try.ntmps69
    go_wp2_with (first | (go_at_call 70; refine (within_any _ _ _ _).mono ?_; rintro e w' ⟨rfl, rfl⟩) | (go_at_call 30; refine (ValidText_any _ _ (by omega)).mono ?_; rintro e w' ⟨rfl, hb⟩))
    go_ret
    exact ⟨ret_bool (Hv.out).symm, Below.refl _ _⟩
theorem vw_eq (ws : List (List UInt8)) : vw ws = (decide (ws.length ≤ 6) && !ws.any (fun x => !wOk x)) := by
  unfold vw
  rw [Bool.and_comm]
  congr 1
  rw [List.all_eq_not_any_not]
set_option maxHeartbeats 400000 in
theorem wordsOk_any (A : Option Addr) (n c : Nat) (ws : List (List UInt8)) (w : World) (hr : Rd w w.heap.size A n c (ws.map S)) (hl : Len47 ws) :
    Calls Try.prog 41 #[.slice A n c] w (RetVal w (.bool (vw ws))) := by
  have hm := hr.2.2.1
  have hnc := hr.2.1
  have hn := hr.slen
  unfold maxLen at hm
  have hC := Lib.hid (ContainsFuncS_any 69 #[] (enters_of Try.func69 (by kernel_rfl) rfl) (fun x => !wOk x) A n c ws w hr (fun x hx W _ => wordsOk1_any x W (hl x hx)))
  have Hv := Lib.hid (vw_eq ws)
  by_cases h6 : n ≤ 6
  · have Hn := Lib.hid hn
    clear hn
    go_enter Try.func41, Try.ntmps41
    go_wp2_with (go_at_call 55; refine hC.out.mono ?_; rintro e w' ⟨rfl, hb⟩)
    go_ret
    exact ⟨ret_bool (by rw [Hv.out, Hn.out]; simp [h6]), by assumption⟩
  · have Hn := Lib.hid hn
    clear hn
    go_enter Try.func41, Try.ntmps41
    go_wp2_with (go_at_call 55; refine hC.out.mono ?_; rintro e w' ⟨rfl, hb⟩)
    go_ret
    exact ⟨ret_bool (by rw [Hv.out, Hn.out]; simp; omega), Below.refl _ _⟩

/-! ### the words that are left -/
def hit (i : Nat) (x : List UInt8) (k : Nat) (v : List UInt8) : Bool := decide (k ≠ i) && hasL v x && (decide (v ≠ x) || decide (k < i))
def dropTo (ws : List (List UInt8)) (i : Nat) (x : List UInt8) : Nat → Bool
  | 0 => false
  | k + 1 => dropTo ws i x k || (match ws[k]? with | some v => hit i x k v | none => false)
def redTo (ws : List (List UInt8)) : Nat → List (List UInt8)
  | 0 => []
  | i + 1 => match ws[i]? with
    | some x => if dropTo ws i x ws.length then redTo ws i else redTo ws i ++ [x]
    | none => redTo ws i
/-- The words that are left. -/
def red (ws : List (List UInt8)) : List (List UInt8) := redTo ws ws.length
theorem dropTo_succ {ws : List (List UInt8)} {i k : Nat} {x v : List UInt8} (hv : ws[k]? = some v) : dropTo ws i x (k + 1) = (dropTo ws i x k || hit i x k v) := by
  rw [dropTo, hv]
theorem redTo_succ {ws : List (List UInt8)} {i : Nat} {x : List UInt8} (hx : ws[i]? = some x) : redTo ws (i + 1) = if dropTo ws i x ws.length then redTo ws i else redTo ws i ++ [x] := by
  rw [redTo, hx]
theorem redTo_le (ws : List (List UInt8)) (i : Nat) : (redTo ws i).length ≤ i := by
  induction i with
  | zero => simp [redTo]
  | succ i ih =>
    rw [redTo]
    split
    · split
      · omega
      · simp; omega
    · omega

theorem Try.infoS : (Try.prog.info? 9).map (fun i => (i.zero, i.size, i.bytes)) = some (some (.string ⟨#[]⟩), 1, 16) := by kernel_rfl
theorem has_q {s u : List UInt8} {w : World} (hs : s.length ≤ 140737488351232) (hu : u.length ≤ 140737488351232) {b : Bool} (hb : hasL s u = b) :
    Calls Try.prog 64 #[.string ⟨s.toArray⟩, .string ⟨u.toArray⟩] w fun e w' => e = .returned (.bool b) ∧ w' = w := by
  subst hb
  exact (has_any s u w hs hu).mono fun _ _ ⟨h1, h2⟩ => ⟨h1, h2.symm⟩
set_option maxHeartbeats 800000 in
theorem reduce_any (A : Option Addr) (n c : Nat) (ws : List (List UInt8)) (w : World) (hr : Rd w w.heap.size A n c (ws.map S)) (hl : Len47 ws) (hn6 : n ≤ 1000) :
    Calls Try.prog 35 #[.slice A n c] w (RetRow w 9 ((red ws).map S)) := by
  have hm := hr.2.2.1
  have hnc := hr.2.1
  have hn := hr.slen
  have Hn := Lib.hid hn
  clear hn
  unfold maxLen at hm
  obtain ⟨i0, hi, hz0, hz1, hz2⟩ := info_parts Try.infoS
  go_enter Try.func35, Try.ntmps35
  go_wp2
  go_loopw [3, 4] (fun v i wr => ∃ (k : Nat) (A' : Option Addr) (n' c' : Nat), k ≤ n ∧ i = .int .i64 k ∧ v = .slice A' n' c' ∧ Row wr w.heap.size 9 A' n' c' ((redTo ws k).map S) ∧ Below w.heap.size w wr) (fun _ i _ => n - (intOf i).toNat)
  case atStart =>
    refine ⟨0, some ⟨w.heap.size, 0, none⟩, 0, 0, Nat.zero_le _, rfl, rfl, ?_, ?_⟩
    · exact Row.nil_ w 9
    · exact (Below.refl _ _).alloc (Nat.le_refl _) _
  case round =>
    obtain ⟨i, A', n', c', hk, rfl, rfl, hown, hbw⟩ := hrel
    by_cases hlt : i < n
    · obtain ⟨b, o, x, rfl, hb, hx, hc⟩ := (hr.below hbw).str hlt
      have hxl := hl.at_ hx
      have Hx := Lib.hid hx
      clear hx
      go_wp2
      obtain ⟨wo, rfl⟩ : ∃ wo : World, wo = wr := ⟨_, rfl⟩
      go_loopw [5, 6] (fun v k wr => ∃ (j : Nat), j ≤ n ∧ k = .int .i64 j ∧ v = .bool (!dropTo ws i x j) ∧ Quiet wo wr) (fun _ i _ => n - (intOf i).toNat)
      case atStart => exact ⟨0, Nat.zero_le _, rfl, rfl, Quiet.refl _⟩
      case round =>
        obtain ⟨j, hj, rfl, rfl, hqw⟩ := hrel
        by_cases hjn : j < n
        · obtain ⟨v, hv, hcv⟩ := (hqw.rd (hr.below hbw)).str_at hjn
          obtain ⟨x', hx', hcx⟩ := (hqw.rd (hr.below hbw)).str_at hlt
          rw [Hx.out] at hx'
          injection hx' with hx'
          subst hx'
          clear hc
          have hvl := hl.at_ hv
          have Hd := Lib.hid (dropTo_succ (i := i) (x := x) hv)
          have Hv := Lib.hid hv
          clear hv
          have hjn' : (j : Int) < (n : Int) := by omega
          have hin' : (i : Int) < (n : Int) := by omega
          by_cases h1 : j = i
          · have h1' : ((j : Int) != (i : Int)) = false := by simp [h1]
            have HH := Lib.hid (show hit i x j v = false by unfold hit; simp [h1])
            clear h1
            go_wp2_with fail
            go_quiet (fail)
            go_wp2
            go_roundw
            case rel => exact ⟨j + 1, by omega, by go_num, by rw [Hd.out, HH.out, Bool.or_false], hqw.drewN _⟩
            case measure => simp [intOf]; omega
          · have h1' : ((j : Int) != (i : Int)) = true := by simp; omega
            cases h2 : hasL v x with
            | false =>
              have HH := Lib.hid (show hit i x j v = false by unfold hit; rw [h2]; simp)
              have H2 := Lib.hid h2
              clear h2 h1
              go_wp2_with fail
              go_quiet ((go_at_call 64; exact Calls.quiet_of_same (has_q hvl hxl H2.out)))
              go_wp2
              go_roundw
              case rel => exact ⟨j + 1, by omega, by go_num, by rw [Hd.out, HH.out, Bool.or_false], hqw.drewN _⟩
              case measure => simp [intOf]; omega
            | true =>
              have H2 := Lib.hid h2
              clear h2
              by_cases h3 : v = x
              · have h3' : (v == x) = true := by simp [h3]
                by_cases h4 : j < i
                · have h4' : decide ((j : Int) < (i : Int)) = true := by simp; omega
                  have HH := Lib.hid (show hit i x j v = true by unfold hit; rw [H2.out]; simp; omega)
                  clear h3 h1
                  go_wp2_with fail
                  go_quiet ((go_at_call 64; exact Calls.quiet_of_same (has_q hvl hxl H2.out)))
                  go_wp2
                  go_roundw
                  case rel => exact ⟨j + 1, by omega, by go_num, by rw [Hd.out, HH.out, Bool.or_true]; rfl, hqw.drewN _⟩
                  case measure => simp [intOf]; omega
                · have h4' : decide ((j : Int) < (i : Int)) = false := by simp; omega
                  have HH := Lib.hid (show hit i x j v = false by unfold hit; rw [H2.out]; simp [h3]; omega)
                  clear h3 h1
                  go_wp2_with fail
                  go_quiet ((go_at_call 64; exact Calls.quiet_of_same (has_q hvl hxl H2.out)))
                  go_wp2
                  go_roundw
                  case rel => exact ⟨j + 1, by omega, by go_num, by rw [Hd.out, HH.out, Bool.or_false], hqw.drewN _⟩
                  case measure => simp [intOf]; omega
              · have h3' : (v == x) = false := by simp [h3]
                have HH := Lib.hid (show hit i x j v = true by unfold hit; rw [H2.out]; simp [h3]; omega)
                clear h3 h1
                go_wp2_with fail
                go_quiet ((go_at_call 64; exact Calls.quiet_of_same (has_q hvl hxl H2.out)))
                go_wp2
                go_roundw
                case rel => exact ⟨j + 1, by omega, by go_num, by rw [Hd.out, HH.out, Bool.or_true]; rfl, hqw.drewN _⟩
                case measure => simp [intOf]; omega
        · obtain rfl : j = n := by omega
          have Hr := Lib.hid (redTo_succ Hx.out)
          have hown' := hown.quiet hqw
          have hbw' : Below w.heap.size w wr := hbw.trans (hqw.bel _)
          have hsz := hbw'.size
          have hle := redTo_le ws i
          have hlen := hown.len
          simp at hlen
          have hn' : n' ≤ 4398046511104 := by omega
          have Hl := Lib.hid hlen
          clear hlen
          obtain ⟨x', hx', hcx⟩ := (hqw.rd (hr.below hbw)).str_at hlt
          rw [Hx.out] at hx'
          injection hx' with hx'
          subst hx'
          clear hc
          cases hd : dropTo ws i x j with
          | true =>
            have Hd := Lib.hid hd
            clear hd
            go_wp2
            go_roundw
            case rel => exact ⟨i + 1, A', n', c', by omega, by go_num, rfl, by rw [Hr.out, Hn.out, Hd.out]; exact hown', hbw'⟩
            case measure => simp [intOf]; omega
          | false =>
            have Hd := Lib.hid hd
            clear hd
            go_wp2_with (at_builtin; refine wpList_app1 _ rfl _ _ 22 rfl w.heap.size 9 i0 (.string ⟨#[]⟩) 16 Try.underlying22 hi hz0 hz1 hz2 rfl _ _ _ _ rfl (hown'.alloc _) _ (.string ⟨x.toArray⟩) rfl (cell_one_new _ _ _) rfl (by omega) (by omega) (by simp; omega) ?_; intro A2 c2 w2 hown2 hgrow2)
            go_roundw
            case rel => exact ⟨i + 1, A2, n' + 1, c2, by omega, by go_num, rfl, by rw [Hr.out, Hn.out, Hd.out]; simpa [S] using hown2, (hown'.alloc _).grown (hbw'.alloc hsz _) hgrow2 (Nat.le_refl _) (by simp; omega)⟩
            case measure => simp [intOf]; omega
    · obtain rfl : i = n := by omega
      go_wp2
      go_ret
      exact ⟨A', n', c', rfl, by unfold red; rw [Hn.out]; exact hown.own, hbw⟩
theorem dropTo_more {ws : List (List UInt8)} {i : Nat} {x : List UInt8} {k : Nat} (h : dropTo ws i x k = true) (m : Nat) : dropTo ws i x (k + m) = true := by
  induction m with
  | zero => exact h
  | succ m ih => rw [← Nat.add_assoc, dropTo, ih]; simp
theorem dropTo_hit {ws : List (List UInt8)} {i : Nat} {x v : List UInt8} {k n : Nat} (hv : ws[k]? = some v) (hh : hit i x k v = true) (hk : k < n) : dropTo ws i x n = true := by
  have h1 : dropTo ws i x (k + 1) = true := by rw [dropTo_succ hv, hh]; simp
  have := dropTo_more h1 (n - (k + 1))
  rwa [show k + 1 + (n - (k + 1)) = n by omega] at this
set_option maxHeartbeats 800000 in
theorem reduced_any (A : Option Addr) (n c : Nat) (ws : List (List UInt8)) (w : World) (hr : Rd w w.heap.size A n c (ws.map S)) (hl : ∀ x ∈ ws, x.length ≤ 1048576) (hn6 : n ≤ 1000) (hvr : Vr w) :
    Calls Try.prog 42 #[.slice A n c] w (RetRow w 9 ((red ws).map S)) := by
  have hm := hr.2.2.1
  have hnc := hr.2.1
  have hn := hr.slen
  have Hn := Lib.hid hn
  clear hn
  unfold maxLen at hm
  obtain ⟨i0, hi, hz0, hz1, hz2⟩ := info_parts Try.infoS
  go_enter Try.func42, Try.ntmps42
  go_wp2
  go_step3
  go_wp2_with (at_make; refine wpList_make_own _ rfl _ _ 22 rfl w.heap.size 9 i0 (.string ⟨#[]⟩) 1 Try.underlying22 hi hz0 hz1 .i64 .i64 n n rfl rfl rfl (by rw [hz2]; omega) (by unfold maxLen; omega) (Nat.le_refl _) ?_; intro w1 hown0 hgrow0)
  go_step3
  go_wp2
  have hb1 : Below w.heap.size w w1 := (Below.refl _ _).grown hgrow0 (Nat.le_refl _) (fun k hk => by cases hk)
  go_loopw [3, 13] (fun v i wr => ∃ (k : Nat) (A' : Option Addr) (n' c' : Nat), k ≤ n ∧ i = .int .i64 k ∧ v = .slice A' n' c' ∧ Row wr w.heap.size 9 A' n' c' ((redTo ws k).map S) ∧ Below w.heap.size w wr) (fun _ i _ => n - (intOf i).toNat)
  case atStart => exact ⟨0, _, _, _, Nat.zero_le _, rfl, rfl, hown0, hb1⟩
  case round =>
    obtain ⟨i, A', n', c', hk, rfl, rfl, hown, hbw⟩ := hrel
    by_cases hlt : i < n
    · obtain ⟨b, o, x, rfl, hb, hx, hc⟩ := (hr.below hbw).str hlt
      have hxl := hl x (List.mem_of_getElem? hx)
      have Hx := Lib.hid hx
      clear hx
      have Hr := Lib.hid (redTo_succ Hx.out)
      go_wp2
      obtain ⟨wo, rfl⟩ : ∃ wo : World, wo = wr := ⟨_, rfl⟩
      go_loopw [20] (fun k wr => ∃ (j : Nat), j ≤ n ∧ k = .int .i64 j ∧ dropTo ws i x j = false ∧ Below wo.heap.size wo wr) (fun i _ => n - (intOf i).toNat)
      case atStart => exact ⟨0, Nat.zero_le _, rfl, rfl, Below.refl _ _⟩
      case round =>
        obtain ⟨j, hj, rfl, hdr, hqw⟩ := hrel
        have Hdr := Lib.hid hdr
        clear hdr hc
        have hbw' : Below w.heap.size w wr := hbw.trans (hqw.mono hbw.size)
        have hown' := hown.kept hqw
        have hsz := hbw'.size
        have hvr' := hvr.keep hbw'
        by_cases hjn : j < n
        · obtain ⟨v, hv, hcv⟩ := (hr.below hbw').str_at hjn
          have hvl := hl v (List.mem_of_getElem? hv)
          have Hd := Lib.hid (dropTo_succ (i := i) (x := x) hv)
          have Hv := Lib.hid hv
          clear hv
          by_cases h1 : j = i
          · have h1' : ((j : Int) != (i : Int)) = false := by simp [h1]
            have HH := Lib.hid (show hit i x j v = false by unfold hit; simp [h1])
            clear h1
            go_wp2
            go_roundw
            case rel => exact ⟨j + 1, by omega, by go_num, by rw [Hd.out, HH.out, Hdr.out]; rfl, hqw⟩
            case measure => simp [intOf]; omega
          · have h1' : ((j : Int) != (i : Int)) = true := by simp; omega
            cases h2 : hasL v x with
            | false =>
              have HH := Lib.hid (show hit i x j v = false by unfold hit; rw [h2]; simp)
              go_wp2_with (go_at_call 57; refine (Contains_any _ _ _ (by omega) hvr').mono ?_; rintro e w' ⟨rfl, rfl⟩)
              go_roundw
              case rel => exact ⟨j + 1, by omega, by go_num, by rw [Hd.out, HH.out, Hdr.out]; rfl, hqw⟩
              case measure => simp [intOf]; omega
            | true =>
              by_cases h3 : v = x
              · have h3' : (v == x) = true := by simp [h3]
                by_cases h4 : j < i
                · have HH := Lib.hid (show dropTo ws i x n = true from dropTo_hit Hv.out (show hit i x j v = true by unfold hit; rw [h2]; simp; omega) hjn)
                  clear h3 h1
                  go_wp2_with (go_at_call 57; refine (Contains_any _ _ _ (by omega) hvr').mono ?_; rintro e w' ⟨rfl, rfl⟩)
                  go_roundw
                  case rel => exact ⟨i + 1, A', n', c', by omega, by go_num, rfl, by rw [Hr.out, Hn.out, HH.out]; exact hown', hbw'⟩
                  case measure => simp [intOf]; omega
                · have HH := Lib.hid (show hit i x j v = false by unfold hit; rw [h2]; simp [h3]; omega)
                  clear h3 h1
                  go_wp2_with (go_at_call 57; refine (Contains_any _ _ _ (by omega) hvr').mono ?_; rintro e w' ⟨rfl, rfl⟩)
                  go_roundw
                  case rel => exact ⟨j + 1, by omega, by go_num, by rw [Hd.out, HH.out, Hdr.out]; rfl, hqw⟩
                  case measure => simp [intOf]; omega
              · have h3' : (v == x) = false := by simp [h3]
                have HH := Lib.hid (show dropTo ws i x n = true from dropTo_hit Hv.out (show hit i x j v = true by unfold hit; rw [h2]; simp [h3]; omega) hjn)
                clear h3 h1
                go_wp2_with (go_at_call 57; refine (Contains_any _ _ _ (by omega) hvr').mono ?_; rintro e w' ⟨rfl, rfl⟩)
                go_roundw
                case rel => exact ⟨i + 1, A', n', c', by omega, by go_num, rfl, by rw [Hr.out, Hn.out, HH.out]; exact hown', hbw'⟩
                case measure => simp [intOf]; omega
        · obtain rfl : j = n := by omega
          have hle := redTo_le ws i
          have hlen := hown.len
          simp at hlen
          have hn' : n' ≤ 4398046511104 := by omega
          clear hlen
          go_wp2_with (at_builtin; refine wpList_app1 _ rfl _ _ 22 rfl w.heap.size 9 i0 (.string ⟨#[]⟩) 16 Try.underlying22 hi hz0 hz1 hz2 rfl _ _ _ _ rfl (hown'.alloc _) _ (.string ⟨x.toArray⟩) rfl (cell_one_new _ _ _) rfl (by omega) (by omega) (by simp; omega) ?_; intro A2 c2 w2 hown2 hgrow2)
          go_roundw
          case rel => exact ⟨i + 1, A2, n' + 1, c2, by omega, by go_num, rfl, by rw [Hr.out, Hn.out, Hdr.out]; simpa [S] using hown2, (hown'.alloc _).grown (hbw'.alloc hsz _) hgrow2 (Nat.le_refl _) (by simp; omega)⟩
          case measure => simp [intOf]; omega
    · obtain rfl : i = n := by omega
      have hnc' := hown.own.2.1
      go_wp2_with (go_at_call 71; refine (ClipS_any _ _ _ hnc' _).mono ?_; rintro e w' ⟨rfl, rfl⟩)
      go_ret
      exact ⟨A', n', n', rfl, by unfold red; rw [Hn.out]; exact hown.own.clip, hbw⟩

/-! ### ReduceWords -/
def RW (ws : List (List UInt8)) : List (List UInt8) := if vw ws then red ws else []
theorem vw_len {ws : List (List UInt8)} (h : vw ws = true) : ws.length ≤ 6 := by unfold vw at h; simp at h; exact h.2
theorem vw_all' {ws : List (List UInt8)} (h : vw ws = true) : ∀ x ∈ ws, wOk x = true := by unfold vw at h; simp at h; exact h.1
theorem wOk_len {x : List UInt8} (h : wOk x = true) : 1 ≤ x.length ∧ x.length ≤ 6 := by
  unfold wOk at h
  rw [Bool.and_eq_true] at h
  have := inR_true h.2
  omega
theorem wOk_vt {x : List UInt8} (h : wOk x = true) : vt x = true := by
  unfold wOk at h
  rw [Bool.and_eq_true] at h
  exact h.1
theorem retRow_nil (w : World) (t : TypeId) : RetRow w t [] (.returned (.slice none 0 0)) w := ⟨none, 0, 0, rfl, ⟨rfl, Nat.le_refl _, by unfold maxLen; omega, fun h => absurd h (by omega)⟩, Below.refl _ _⟩
theorem retRow_nil' {w w' : World} (t : TypeId) (hb : Below w.heap.size w w') : RetRow w t [] (.returned (.slice none 0 0)) w' := ⟨none, 0, 0, rfl, ⟨rfl, Nat.le_refl _, by unfold maxLen; omega, fun h => absurd h (by omega)⟩, hb⟩
theorem RetRow.from {w w1 : World} {t : TypeId} {xs : List Value} {e : Ending} {w' : World} (hb : Below w.heap.size w w1) (h : RetRow w1 t xs e w') : RetRow w t xs e w' := by
  obtain ⟨A, n, c, he, ho, hb'⟩ := h
  exact ⟨A, n, c, he, ho.more hb.size, hb.trans (hb'.mono hb.size)⟩
set_option maxHeartbeats 400000 in
theorem ReduceWords_any (A : Option Addr) (n c : Nat) (ws : List (List UInt8)) (w : World) (hr : Rd w w.heap.size A n c (ws.map S)) (hl : Len47 ws) (hvr : Vr w) :
    Calls Try.prog 24 #[.slice A n c] w (RetRow w 9 ((RW ws).map S)) := by
  have hn := hr.slen
  have Hn := Lib.hid hn
  clear hn
  cases hv : vw ws with
  | true =>
    have h6 := vw_len hv
    rw [Hn.out] at h6
    have Hv := Lib.hid (show RW ws = red ws by unfold RW; rw [hv]; rfl)
    have hl6 : ∀ x ∈ ws, x.length ≤ 1048576 := fun x hx => by have := (wOk_len (vw_all' hv x hx)).2; omega
    have HV := Lib.hid hv
    clear hv
    go_enter Try.func24, Try.ntmps24
    go_wp2_with fail
    refine (wordsOk_any A n c ws _ hr hl).mono ?_
    rintro e w1 ⟨rfl, hb0⟩
    rw [HV.out]
    have hr2 := (hr.below hb0).more hb0.size
    have hvr2 := hvr.keep hb0
    go_wp2_with fail
    refine (reduced_any A n c ws _ hr2 hl6 (by omega) hvr2).mono ?_
    rintro e w2 ⟨A1, n1, c1, rfl, ho, hb⟩
    go_wp2_with fail
    go_ret
    exact RetRow.from hb0 ⟨_, _, _, rfl, by rw [Hv.out]; exact ho, hb⟩
  | false =>
    have Hv := Lib.hid (show RW ws = [] by unfold RW; rw [hv]; rfl)
    have HV := Lib.hid hv
    clear hv
    go_enter Try.func24, Try.ntmps24
    go_wp2_with (go_at_call 41; refine (wordsOk_any A n c ws _ hr hl).mono ?_; rintro e w' ⟨rfl, hb0⟩; rw [HV.out])
    go_ret
    rw [Hv.out]
    exact retRow_nil' _ (by assumption)
end Go.Proofs.Ytfppbfhlmbakoaa
