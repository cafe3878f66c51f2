/-
  The fewest phrases of a text.
-/
import Derived.Test.YteldklkfedeleaaDoorPhr
import Derived.Test.YteldklkfedeleaaDoorArr
import Derived.StillTailTactics
namespace Go.Proofs.YteldklkfedeleaaDoor
open Go.RowKit
set_option linter.unusedVariables false
set_option linter.unusedSimpArgs false

def mn (L : List Int) : Nat → Int
  | 0 => 1 + L.getD 0 0
  | n + 1 => min (mn L n) (1 + L.getD n 0)
/-- The fewest phrases from each place on: the last k + 1 places. -/
def fl (s : List UInt8) : Nat → List Int
  | 0 => [0]
  | k + 1 => mn (fl s k) (lng s (s.length - (k + 1)) (s.length - (k + 1))).2 :: fl s k
def few (s : List UInt8) : Int := (fl s s.length).getD 0 0
def FP (s : List UInt8) : Int := if vt s then few s else -1
theorem fl_length (s : List UInt8) (k : Nat) : (fl s k).length = k + 1 := by
  induction k with
  | zero => rfl
  | succ k ih => rw [fl, List.length_cons, ih]
theorem mn_range {L : List Int} {b : Int} (hL : ∀ x ∈ L, 0 ≤ x ∧ x ≤ b) (hb : 0 ≤ b) (n : Nat) : 1 ≤ mn L n ∧ mn L n ≤ b + 1 := by
  have hg : ∀ i, 0 ≤ L.getD i 0 ∧ L.getD i 0 ≤ b := by
    intro i
    rw [List.getD_eq_getElem?_getD]
    cases h : L[i]? with
    | none => simp; omega
    | some x => simp; exact hL x (List.mem_of_getElem? h)
  induction n with
  | zero => have := hg 0; rw [mn]; omega
  | succ n ih => have := hg n; rw [mn]; omega
theorem fl_range (s : List UInt8) (k : Nat) : ∀ x ∈ fl s k, 0 ≤ x ∧ x ≤ (k : Int) := by
  induction k with
  | zero => intro x hx; simp [fl] at hx; subst hx; simp
  | succ k ih =>
    intro x hx
    rw [fl, List.mem_cons] at hx
    rcases hx with rfl | hx
    · have := mn_range ih (by omega) (lng s (s.length - (k + 1)) (s.length - (k + 1))).2
      omega
    · have := ih x hx
      omega
theorem drop_set_cons {α : Type} {xs : List α} {q : Nat} (v : α) (hq : q < xs.length) : (xs.set q v).drop q = v :: xs.drop (q + 1) := by
  rw [List.drop_eq_getElem_cons (by simpa using hq), List.getElem_set_self, List.drop_set_of_lt (by omega)]
theorem drop_at {α : Type} {xs L : List α} {q i : Nat} (h : xs.drop q = L) : xs[q + i]? = L[i]? := by
  rw [← h, List.getElem?_drop]
theorem drop_tail {α : Type} {xs L : List α} {q : Nat} {x : α} (h : xs.drop q = x :: L) : xs.drop (q + 1) = L := by
  rw [← List.drop_drop, h]
  rfl
theorem drop_to {xs L : List Int} {n k q : Nat} (h : xs.drop (n - k) = L) (hq : q = n - (k + 1)) (hk : k < n) : xs.drop (q + 1) = L := by
  have e : n - k = q + 1 := by omega
  rw [← e]
  exact h
theorem min_if (x y : Int) : (min x y : Int) = if y < x then y else x := by
  split <;> omega
set_option maxHeartbeats 1000000 in
theorem FewestPhrases_any (s : List UInt8) (w : World) (hs : s.length ≤ 1000) :
    Calls Tryd.prog 11 #[.string ⟨s.toArray⟩] w (RetVal w (.int .i64 (FP s))) := by
  have hw1 : IntKind.i64.wrap ((s.length : Int) + 1) = ((s.length + 1 : Nat) : Int) := by rw [IntKind.wrap_i64]; omega
  have hw2 : IntKind.i64.wrap ((s.length : Int) - 1) = (s.length : Int) - 1 := by rw [IntKind.wrap_i64]; omega
  cases hv : vt s with
  | true =>
    have Hv := Lib.hid (show FP s = few s by unfold FP; rw [hv]; rfl)
    have HV := Lib.hid hv
    clear hv
    go_enter Tryd.func11, Tryd.ntmps11
    go_wp2_with fail
    refine (ValidText_any _ _ (by omega)).mono ?_
    rintro e w1 ⟨rfl, hb1⟩
    rw [HV.out]
    obtain ⟨i0, hi, hi2⟩ : ∃ i, Tryd.prog.info? 3 = some i ∧ (i.zero = some (.int .i64 0) ∧ i.size = 1 ∧ i.bytes = 8) := by
      have := Tryd.infoI
      cases h : Tryd.prog.info? 3 with
      | none => rw [h] at this; cases this
      | some i => rw [h] at this; simp at this; exact ⟨i, rfl, this⟩
    go_wp2_with (at_make; refine wpList_make_full _ rfl _ _ _ rfl w.heap.size 3 i0 (.int .i64 0) 1 Tryd.underlying47 hi hi2.1 hi2.2.1 .i64 .i64 _ _ (s.length + 1) rfl rfl (by simp) (by simp) (by rw [hi2.2.2]; omega) (by unfold maxLen; omega) hb1.size ?_; intro w2 hrow2 hgr2; rw [ints_made] at hrow2)
    obtain ⟨g, hg⟩ : ∃ g, g = w1.heap.size := ⟨_, rfl⟩
    have hwg : w.heap.size ≤ g := by have := hb1.size; omega
    have ha0 := Arr.of_full hrow2 (by omega)
    have hb2 : Below w.heap.size w w2 := hb1.grown hgr2 hb1.size (by intro k hk; cases hk)
    rw [← hg] at ha0 ⊢
    clear hrow2 hgr2 hg
    go_loopw [4] (fun x wr => ∃ (k : Nat) (xs : List Int), k ≤ s.length ∧ x = .int .i64 ((s.length : Int) - 1 - k) ∧ xs.length = s.length + 1 ∧ xs.drop (s.length - k) = fl s k ∧ Arr wr g 3 (xs.map I) ∧ Below w.heap.size w wr) (fun x _ => (intOf x + 1).toNat)
    case atStart => exact ⟨0, _, Nat.zero_le _, by simp, List.length_replicate, by simp [fl], ha0, hb2⟩
    case round =>
      obtain ⟨k, xs, hk, rfl, hxl, hxd, ha, hbw⟩ := hrel
      have Hxd := Lib.hid hxd
      clear hxd
      have hgs := ha.lt
      by_cases hlt : k < s.length
      · obtain ⟨q, hq⟩ : ∃ q, q = s.length - (k + 1) := ⟨_, rfl⟩
        have hqk : (s.length : Int) - 1 - (k : Int) = (q : Int) := by omega
        have hql : q < s.length := by omega
        rw [hqk]
        clear hqk
        have hq0 : (0 : Int) ≤ (q : Int) := by omega
        have Hxq := Lib.hid (drop_to Hxd.out hq hlt)
        have Hfl := Lib.hid (show fl s (k + 1) = mn (fl s k) (lng s q q).2 :: fl s k by rw [hq]; exact fl.eq_2 s k)
        have Hqk := Lib.hid (show q + k + 1 = s.length by omega)
        clear hq
        have hrg := fl_range s k
        obtain ⟨y0, hy0⟩ : ∃ y, (fl s k)[0]? = some y := ⟨_, List.getElem?_eq_getElem (by rw [fl_length]; omega)⟩
        have hyr := hrg _ (List.mem_of_getElem? hy0)
        have hc0 : ∀ wq, Arr wq g 3 (xs.map I) → wq.cell? ⟨g, q + 1, none⟩ = some (.int .i64 y0) := fun wq h => h.cell (ints_at (by have := drop_at (i := 0) Hxq.out; rw [Nat.add_zero] at this; rw [this]; exact hy0))
        have e1 : IntKind.i64.wrap ((q : Int) + 1) = ((q + 1 : Nat) : Int) := by rw [IntKind.wrap_i64]; omega
        have e2 : IntKind.i64.wrap (1 + y0) = 1 + y0 := by rw [IntKind.wrap_i64]; omega
        go_wp2_with fail
        refine (longest_any s q _ hs hql).mono ?_
        rintro e w3 ⟨rfl, m, rfl⟩
        have hszl : q + (lng s q q).2 ≤ s.length := lng_le s q (by omega) q
        obtain ⟨fr, hfrr⟩ : ∃ fr, fr = (lng s q q).1 := ⟨_, rfl⟩
        obtain ⟨sz, hsz⟩ : ∃ sz, sz = (lng s q q).2 := ⟨_, rfl⟩
        rw [← hfrr, ← hsz]
        rw [← hsz] at hszl
        have Hfl' := Lib.hid (show fl s (k + 1) = mn (fl s k) sz :: fl s k by rw [hsz]; exact Hfl.out)
        clear hsz hfrr Hfl
        have ha3 : Arr (wr.drewN m) g 3 (xs.map I) := ha
        have hc1 := hc0 _ ha3
        obtain ⟨yq, hyq⟩ : ∃ y, xs[q]? = some y := ⟨_, List.getElem?_eq_getElem (by omega)⟩
        have hcq := ha3.cell (ints_at hyq)
        have hfr := ha3.frozen q
        go_wp2_with fail
        have hm0 : mn (fl s k) 0 = 1 + y0 := by rw [mn, List.getD_eq_getElem?_getD, hy0]; rfl
        have ha4 : Arr ((wr.drewN m).setCell ⟨g, q, none⟩ (.int .i64 (1 + y0))) g 3 ((xs.set q (1 + y0)).map I) := by rw [← ints_set]; exact ha3.set q _
        have hd4 : (xs.set q (1 + y0)).drop q = mn (fl s k) 0 :: fl s k := by rw [drop_set_cons _ (by omega), Hxq.out, hm0]
        have hb4 : Below w.heap.size w ((wr.drewN m).setCell ⟨g, q, none⟩ (.int .i64 (1 + y0))) := (bel_drewN hbw m).setCell hwg _
        obtain ⟨w4, hw4⟩ : ∃ w4, w4 = (wr.drewN m).setCell ⟨g, q, none⟩ (.int .i64 (1 + y0)) := ⟨_, rfl⟩
        rw [← hw4] at ha4 hb4 ⊢
        go_loopw [7] (fun x wz => ∃ (j : Nat) (zs : List Int), j ≤ sz ∧ x = .int .i64 ((j : Int) + 1) ∧ zs.length = s.length + 1 ∧ zs.drop q = mn (fl s k) j :: fl s k ∧ Arr wz g 3 (zs.map I) ∧ Below w.heap.size w wz) (fun x _ => (sz + 1 - intOf x).toNat)
        case atStart => exact ⟨0, _, Nat.zero_le _, rfl, by simp; omega, hd4, ha4, hb4⟩
        case round =>
          obtain ⟨j, zs, hj, rfl, hzl, hzd, haz, hbz⟩ := hrel
          have Hzd := Lib.hid hzd
          by_cases hjz : j < sz
          · have hjz' : ((j : Int) + 1) ≤ (sz : Int) := by omega
            obtain ⟨y, hy⟩ : ∃ y, (fl s k)[j]? = some y := ⟨_, List.getElem?_eq_getElem (by rw [fl_length]; have := Hqk.out; omega)⟩
            have hyr2 := hrg _ (List.mem_of_getElem? hy)
            obtain ⟨mv, hmv⟩ : ∃ mv, mv = mn (fl s k) j := ⟨_, rfl⟩
            have hmr := mn_range hrg (by omega) j
            rw [← hmv] at hmr
            have Hnx := Lib.hid (show mn (fl s k) (j + 1) = min mv (1 + y) by rw [mn, ← hmv, List.getD_eq_getElem?_getD, hy]; rfl)
            have hz0 : zs[q]? = some mv := by have h := drop_at (i := 0) hzd; rw [Nat.add_zero] at h; rw [h, ← hmv]; rfl
            have hz1 : zs[q + (j + 1)]? = some y := by rw [drop_at (i := j + 1) hzd, List.getElem?_cons_succ]; exact hy
            have hz2 : zs.drop (q + 1) = fl s k := drop_tail hzd
            obtain ⟨p, hp⟩ : ∃ p, p = q + (j + 1) := ⟨_, rfl⟩
            rw [← hp] at hz1
            have hpl : p < s.length + 1 := by omega
            have f0 := haz.cell (ints_at hz0)
            have f1 := haz.cell (ints_at hz1)
            have hazd : Arr wr.drew g 3 (zs.map I) := haz
            have f0' := hazd.cell (ints_at hz0)
            have f2 := hazd.frozen q
            have Hz2 := Lib.hid hz2
            have e3 : IntKind.i64.wrap ((q : Int) + ((j : Int) + 1)) = (p : Int) := by rw [IntKind.wrap_i64]; omega
            have e4 : IntKind.i64.wrap (1 + y) = 1 + y := by rw [IntKind.wrap_i64]; omega
            have b1 : (q : Int) < ((s.length + 1 : Nat) : Int) := by omega
            have b2 : (q : Int) < (s.length : Int) + 1 := by omega
            have b3 : q < s.length + 1 := by omega
            have b4 : (p : Int) < ((s.length + 1 : Nat) : Int) := by omega
            have b5 : (p : Int) < (s.length : Int) + 1 := by omega
            clear hzd hmv hz0 hz1 hz2 hy hp
            go_wp2_with fail
            set_option maxRecDepth 8000 in go_still_tail 15, (by kernel_rfl)
            go_wp2_with fail
            go_roundw
            case rel =>
              refine ⟨j + 1, zs.set q (if 1 + y < mv then 1 + y else mv), by omega, by go_num, by simp; exact hzl, ?_, ?_, (hbz.setCell hwg _).drew⟩
              · rw [drop_set_cons _ (by omega), Hz2.out, Hnx.out, min_if]
              · have := haz.set q (.int .i64 (if 1 + y < mv then 1 + y else mv))
                rw [ints_set] at this
                exact this
            case measure => simp [intOf]; omega
          · have hjz' : ¬ ((j : Int) + 1) ≤ (sz : Int) := by omega
            have hjs : j = sz := by omega
            subst hjs
            have e5 : IntKind.i64.wrap ((q : Int) - 1) = (q : Int) - 1 := by rw [IntKind.wrap_i64]; omega
            go_wp2_with fail
            have hqk := Hqk.out
            refine ⟨⟨k + 1, zs, by omega, by rw [show (s.length : Int) - 1 - ((k + 1 : Nat) : Int) = (q : Int) - 1 by omega], hzl, ?_, haz, hbz⟩, by simp [intOf] <;> omega⟩
            rw [show s.length - (k + 1) = q by omega, Hfl'.out]
            exact hzd
      · have hks : k = s.length := by omega
        have Hks := Lib.hid hks
        rw [show (s.length : Int) - 1 - (k : Int) = -1 by omega]
        have Hx0 := Lib.hid (show xs[0]? = some (few s) by
          have h := Hxd.out
          rw [hks, Nat.sub_self, List.drop_zero] at h
          rw [h, few, List.getD_eq_getElem?_getD]
          rw [List.getElem?_eq_getElem (by rw [fl_length]; omega)]
          rfl)
        have hc := ha.cell (ints_at Hx0.out)
        clear hks
        go_wp2_with fail
        go_ret
        rw [Hv.out]
        exact ⟨rfl, hbw⟩
  | false =>
    have Hv := Lib.hid (show FP s = -1 by unfold FP; rw [hv]; rfl)
    have HV := Lib.hid hv
    clear hv
    go_enter Tryd.func11, Tryd.ntmps11
    go_wp2_with fail
    refine (ValidText_any _ _ (by omega)).mono ?_
    rintro e w1 ⟨rfl, hb1⟩
    rw [HV.out]
    go_wp2_with fail
    go_ret
    rw [Hv.out]
    exact ⟨rfl, hb1⟩
end Go.Proofs.YteldklkfedeleaaDoor
