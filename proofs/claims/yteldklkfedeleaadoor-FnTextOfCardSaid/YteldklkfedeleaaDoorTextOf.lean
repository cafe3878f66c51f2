/-
  Texts of phrases: fine, fits, letterOk, behind, TextOf, and the reference's TextOf.
-/
import Derived.Test.YteldklkfedeleaaDoorPhr2
import Derived.Test.YteldklkfedeleaaDoorAs
namespace Go.Proofs.YteldklkfedeleaaDoor
open Go.RowKit
set_option linter.unusedVariables false
set_option linter.unusedSimpArgs false

/-- What errors.errorType holds. -/
def Gv (w : World) : Prop := w.cell? ⟨0, 0, none⟩ = some (.iface 77 (.agg #[.pointer (some ⟨1, 39, none⟩)]))
theorem Gv.pos {w : World} (h : Gv w) : 0 < w.heap.size := by
  rcases Nat.eq_zero_or_pos w.heap.size with h0 | h1
  · unfold Gv at h
    simp [World.cell?, h0] at h
  · exact h1
theorem Gv.below {w w' : World} {B : Nat} (h : Gv w) (hb : Below B w w') (hB : 0 < B) : Gv w' := by
  unfold Gv at *
  rw [hb.cell hB]
  exact h
theorem Gv.keep {w w' : World} (h : Gv w) (hb : Below w.heap.size w w') : Gv w' := h.below hb h.pos

theorem bel_al {a w : World} (h : Below a.heap.size a w) (o : Obj) : Below a.heap.size a (w.alloc o) := h.alloc h.size o
theorem bel_new (w : World) (o : Obj) : Below w.heap.size w (w.alloc o) := bel_al (Below.refl _ _) o
theorem fine_nil (w : World) : Calls Tryd.prog 20 #[.nilIface] w (RetVal w (.bool true)) := by
  go_enter Tryd.func20, Tryd.ntmps20
  go_wp2_with fail
  refine (as_nil _ _).mono ?_
  rintro e w' ⟨rfl, rfl⟩
  go_wp2_with fail
  go_ret
  exact ⟨rfl, (Below.refl _ _).alloc (Nat.le_refl _) _⟩
theorem fine_hit (a : Addr) (w : World) (hg : Gv w) : Calls Tryd.prog 20 #[.iface 58 (.pointer (some a))] w (RetVal w (.bool false)) := by
  go_enter Tryd.func20, Tryd.ntmps20
  go_wp2_with fail
  refine (as_hit _ _ (.pointer none) _ (hg.keep ((Below.refl _ _).alloc (Nat.le_refl _) _)) (by simp) (by simp)).mono ?_
  rintro e w' ⟨rfl, rfl⟩
  go_wp2_with fail
  go_ret
  exact ⟨rfl, bel_al (bel_al (bel_al (bel_al (bel_new w _) _) _) _) _⟩
theorem fits_any (n : Int) (t : List UInt8) (w : World) (ht : t.length ≤ 1000) (hn : -100000 ≤ n ∧ n ≤ 100000) :
    Calls Tryd.prog 28 #[.agg #[.int .i64 n], .string ⟨t.toArray⟩] w (RetVal w (.bool (inR n 1 40 && decide ((t.length : Int) + n ≤ 40)))) := by
  have hw1 : IntKind.i64.wrap ((t.length : Int) + n) = (t.length : Int) + n := by rw [IntKind.wrap_i64]; omega
  cases h1 : inR n 1 40 with
  | false =>
    go_enter Tryd.func28, Tryd.ntmps28
    go_wp2_with fail
    refine (within_any _ _ _ _).mono ?_
    rintro e w' ⟨rfl, rfl⟩
    rw [h1]
    go_wp2_with fail
    go_ret
    exact ⟨rfl, bel_new w _⟩
  | true =>
    go_enter Tryd.func28, Tryd.ntmps28
    go_wp2_with fail
    refine (within_any _ _ _ _).mono ?_
    rintro e w' ⟨rfl, rfl⟩
    rw [h1]
    go_wp2_with fail
    go_ret
    exact ⟨rfl, bel_new w _⟩
def lok (l : List UInt8) : Bool := decide (l.length = 1) && vt l
theorem letterOk_any (l : List UInt8) (w : World) (hl : l.length ≤ 1000) :
    Calls Tryd.prog 29 #[.string ⟨l.toArray⟩] w (RetVal w (.bool (lok l))) := by
  by_cases h1 : l.length = 1
  · have h1' : ((l.length : Int) == 1) = true := by simp; omega
    have hl' : lok l = vt l := by unfold lok; simp [h1]
    rw [hl']
    go_enter Tryd.func29, Tryd.ntmps29
    go_wp2_with fail
    refine (ValidText_any _ _ (by omega)).mono ?_
    rintro e w1 ⟨rfl, hb1⟩
    go_wp2_with fail
    go_ret
    exact ⟨rfl, hb1⟩
  · have h1' : ((l.length : Int) == 1) = false := by simp; omega
    have hl' : lok l = false := by unfold lok; simp [h1]
    rw [hl']
    go_enter Tryd.func29, Tryd.ntmps29
    go_wp2_with fail
    go_ret
    exact ⟨rfl, Below.refl _ _⟩
/-- The letters of a phrase, one behind the other. -/
def cp (t : List UInt8) (i : Nat) : Nat → List UInt8
  | 0 => t
  | k + 1 => cp (t ++ (t.drop i).take 1) (i + 1) k
/-- A text with a phrase behind it. -/
def bh (t : List UInt8) (p : Ph) : Option (List UInt8) :=
  if !(inR p.2.1 1 40 && decide ((t.length : Int) + p.2.1 ≤ 40)) then none
  else if lok p.2.2 && p.1 == -1 && p.2.1 == 1 then some (t ++ p.2.2)
  else if p.2.2 ≠ [] ∨ inR p.1 0 (t.length - 1) = false then none
  else some (cp t p.1.toNat p.2.1.toNat)
/-- The ending of behind. -/
def RetBh (w : World) (o : Option (List UInt8)) (e : Ending) (w' : World) : Prop :=
  Below w.heap.size w w' ∧ match o with
  | some t => e = .returned (.tuple #[.string ⟨t.toArray⟩, .nilIface])
  | none => ∃ a, e = .returned (.tuple #[.string ⟨#[]⟩, .iface 58 (.pointer (some a))])
/-- The cells of a phrase with its size. -/
def Pt (W : World) (g : Nat) (f z : Int) (l : List UInt8) : Prop :=
  W.cell? ⟨g, 0, none⟩ = some (.int .i64 z) ∧ W.cell? ⟨g, 1, none⟩ = some (.int .i64 f) ∧ W.cell? ⟨g, 2, none⟩ = some (.int .i64 z) ∧ W.cell? ⟨g, 3, none⟩ = some (.string ⟨l.toArray⟩)
theorem Pt.new (w : World) (f z : Int) (l : List UInt8) (t : TypeId) : Pt (w.alloc (.cells #[.int .i64 z, .int .i64 f, .int .i64 z, .string ⟨l.toArray⟩] t)) w.heap.size f z l := by
  unfold Pt
  simp
theorem Pt.keep {W W' : World} {g B : Nat} {f z : Int} {l : List UInt8} (h : Pt W g f z l) (hb : Below B W W') (hB : g < B) : Pt W' g f z l :=
  ⟨(hb.cell (p := ⟨g, 0, none⟩) hB).trans h.1, (hb.cell (p := ⟨g, 1, none⟩) hB).trans h.2.1, (hb.cell (p := ⟨g, 2, none⟩) hB).trans h.2.2.1, (hb.cell (p := ⟨g, 3, none⟩) hB).trans h.2.2.2⟩
theorem retBh_none {w w' : World} {a : Addr} (hb : Below w.heap.size w w') : RetBh w none (.returned (.tuple #[.string ⟨#[]⟩, .iface 58 (.pointer (some a))])) w' := ⟨hb, a, rfl⟩
theorem retBh_some {w w' : World} {t : List UInt8} (hb : Below w.heap.size w w') : RetBh w (some t) (.returned (.tuple #[.string ⟨t.toArray⟩, .nilIface])) w' := ⟨hb, rfl⟩
set_option maxHeartbeats 800000 in
theorem behind_any (p : Ph) (t : List UInt8) (w : World) (ht : t.length ≤ 1000) (h1 : -100000 ≤ p.1 ∧ p.1 ≤ 100000) (h2 : -100000 ≤ p.2.1 ∧ p.2.1 ≤ 100000) (h3 : p.2.2.length ≤ 1000) :
    Calls Tryd.prog 19 #[.agg #[.int .i64 p.2.1, .int .i64 p.1, .int .i64 p.2.1, .string ⟨p.2.2.toArray⟩], .string ⟨t.toArray⟩] w (RetBh w (bh t p)) := by
  obtain ⟨f, z, l⟩ := p
  simp only at h1 h2 h3
  dsimp only
  cases hf : inR z 1 40 && decide ((t.length : Int) + z ≤ 40) with
  | false =>
    have Hb := Lib.hid (show bh t (f, z, l) = none by unfold bh; dsimp only; rw [hf]; rfl)
    go_enter Tryd.func19, Tryd.ntmps19
    go_wp2_with fail
    refine (fits_any _ _ _ ht h2).mono ?_
    rintro e w1 ⟨rfl, hb1⟩
    rw [hf]
    go_wp2_with fail
    go_ret2
    rw [Hb.out]
    exact retBh_none (bel_al ((bel_new w _).trans (hb1.mono (by simp))) _)
  | true =>
    have hz1 : inR z 1 40 = true := by simp at hf; exact hf.1
    cases hl : lok l with
    | true =>
      cases hff : f == -1 with
      | true =>
        cases hzz : z == 1 with
        | true =>
          have Hb := Lib.hid (show bh t (f, z, l) = some (t ++ l) by unfold bh; dsimp only; rw [hf, hl, hff, hzz]; rfl)
          go_enter Tryd.func19, Tryd.ntmps19
          go_wp2_with fail
          refine (fits_any _ _ _ ht h2).mono ?_
          rintro e w1 ⟨rfl, hb1⟩
          rw [hf]
          obtain ⟨c0, c1, c2, c3⟩ := (Pt.new w f z l _).keep hb1 (by simp)
          have hb1' : Below w.heap.size w w1 := (bel_new w _).trans (hb1.mono (by simp))
          go_wp2_with fail
          refine (letterOk_any _ _ (by omega)).mono ?_
          rintro e w2 ⟨rfl, hb2⟩
          rw [hl]
          obtain ⟨d0, d1, d2, d3⟩ := Pt.keep ⟨c0, c1, c2, c3⟩ hb2 (Nat.lt_of_lt_of_le (by simp) hb1.size)
          clear c0 c1 c2 c3
          go_wp2_with fail
          go_ret2
          rw [Hb.out]
          exact retBh_some (hb1'.trans (hb2.mono hb1'.size))
        | false =>
          have hl0 : l ≠ [] := by rintro rfl; simp [lok] at hl
          have Hb := Lib.hid (show bh t (f, z, l) = none by unfold bh; dsimp only; rw [hf, hl, hff, hzz]; simp [hl0])
          have hle : (l == []) = false := by simp [hl0]
          go_enter Tryd.func19, Tryd.ntmps19
          go_wp2_with fail
          refine (fits_any _ _ _ ht h2).mono ?_
          rintro e w1 ⟨rfl, hb1⟩
          rw [hf]
          obtain ⟨c0, c1, c2, c3⟩ := (Pt.new w f z l _).keep hb1 (by simp)
          have hb1' : Below w.heap.size w w1 := (bel_new w _).trans (hb1.mono (by simp))
          go_wp2_with fail
          refine (letterOk_any _ _ (by omega)).mono ?_
          rintro e w2 ⟨rfl, hb2⟩
          rw [hl]
          obtain ⟨d0, d1, d2, d3⟩ := Pt.keep ⟨c0, c1, c2, c3⟩ hb2 (Nat.lt_of_lt_of_le (by simp) hb1.size)
          clear c0 c1 c2 c3
          have hb2' : Below w.heap.size w w2 := hb1'.trans (hb2.mono hb1'.size)
          go_wp2_with fail
          go_ret2
          rw [Hb.out]
          exact retBh_none (bel_al hb2' _)
      | false =>
        have hl0 : l ≠ [] := by rintro rfl; simp [lok] at hl
        have Hb := Lib.hid (show bh t (f, z, l) = none by unfold bh; dsimp only; rw [hf, hl, hff]; simp [hl0])
        have hle : (l == []) = false := by simp [hl0]
        go_enter Tryd.func19, Tryd.ntmps19
        go_wp2_with fail
        refine (fits_any _ _ _ ht h2).mono ?_
        rintro e w1 ⟨rfl, hb1⟩
        rw [hf]
        obtain ⟨c0, c1, c2, c3⟩ := (Pt.new w f z l _).keep hb1 (by simp)
        have hb1' : Below w.heap.size w w1 := (bel_new w _).trans (hb1.mono (by simp))
        go_wp2_with fail
        refine (letterOk_any _ _ (by omega)).mono ?_
        rintro e w2 ⟨rfl, hb2⟩
        rw [hl]
        obtain ⟨d0, d1, d2, d3⟩ := Pt.keep ⟨c0, c1, c2, c3⟩ hb2 (Nat.lt_of_lt_of_le (by simp) hb1.size)
        clear c0 c1 c2 c3
        have hb2' : Below w.heap.size w w2 := hb1'.trans (hb2.mono hb1'.size)
        go_wp2_with fail
        go_ret2
        rw [Hb.out]
        exact retBh_none (bel_al hb2' _)
    | false =>
      by_cases hl0 : l = []
      · subst hl0
        cases hr : inR f 0 ((t.length : Int) - 1) with
        | false =>
          have Hb := Lib.hid (show bh t (f, z, []) = none by unfold bh; dsimp only; rw [hf, hl, hr]; simp)
          go_enter Tryd.func19, Tryd.ntmps19
          go_wp2_with fail
          refine (fits_any _ _ _ ht h2).mono ?_
          rintro e w1 ⟨rfl, hb1⟩
          rw [hf]
          obtain ⟨c0, c1, c2, c3⟩ := (Pt.new w f z [] _).keep hb1 (by simp)
          have hb1' : Below w.heap.size w w1 := (bel_new w _).trans (hb1.mono (by simp))
          go_wp2_with fail
          refine (letterOk_any _ _ (by simp)).mono ?_
          rintro e w2 ⟨rfl, hb2⟩
          rw [hl]
          obtain ⟨d0, d1, d2, d3⟩ := Pt.keep ⟨c0, c1, c2, c3⟩ hb2 (Nat.lt_of_lt_of_le (by simp) hb1.size)
          clear c0 c1 c2 c3
          have hb2' : Below w.heap.size w w2 := hb1'.trans (hb2.mono hb1'.size)
          go_wp2_with fail
          refine (within_any _ _ _ _).mono ?_
          rintro e w3 ⟨rfl, rfl⟩
          rw [hr]
          go_wp2_with fail
          go_ret2
          rw [Hb.out]
          exact retBh_none (bel_al hb2' _)
        | true =>
          have Hb := Lib.hid (show bh t (f, z, []) = some (cp t f.toNat z.toNat) by unfold bh; dsimp only; rw [hf, hl, hr]; simp)
          go_enter Tryd.func19, Tryd.ntmps19
          go_wp2_with fail
          refine (fits_any _ _ _ ht h2).mono ?_
          rintro e w1 ⟨rfl, hb1⟩
          rw [hf]
          obtain ⟨c0, c1, c2, c3⟩ := (Pt.new w f z [] _).keep hb1 (by simp)
          have hb1' : Below w.heap.size w w1 := (bel_new w _).trans (hb1.mono (by simp))
          go_wp2_with fail
          refine (letterOk_any _ _ (by simp)).mono ?_
          rintro e w2 ⟨rfl, hb2⟩
          rw [hl]
          obtain ⟨d0, d1, d2, d3⟩ := Pt.keep ⟨c0, c1, c2, c3⟩ hb2 (Nat.lt_of_lt_of_le (by simp) hb1.size)
          clear c0 c1 c2 c3
          have hb2' : Below w.heap.size w w2 := hb1'.trans (hb2.mono hb1'.size)
          go_wp2_with fail
          refine (within_any _ _ _ _).mono ?_
          rintro e w3 ⟨rfl, rfl⟩
          rw [hr]
          go_wp2_with fail
          have hz := (inR_true hz1)
          obtain ⟨i0, i1⟩ := inR_true hr
          obtain ⟨fn, rfl⟩ : ∃ k : Nat, f = (k : Int) := ⟨f.toNat, by omega⟩
          obtain ⟨zn, rfl⟩ : ∃ k : Nat, z = (k : Int) := ⟨z.toNat, by omega⟩
          go_loopw [1, 59] (fun u x wr => ∃ (t' : List UInt8) (k : Nat), u = .string ⟨t'.toArray⟩ ∧ x = .int .i64 k ∧ k ≤ zn ∧ t'.length = t.length + k ∧ cp t' (fn + k) (zn - k) = cp t fn zn ∧ Quiet w2 wr) (fun _ x _ => zn - (intOf x).toNat)
          case atStart => exact ⟨t, 0, rfl, rfl, Nat.zero_le _, rfl, rfl, Quiet.refl _⟩
          case round =>
            obtain ⟨t', k, rfl, rfl, hk, htl, hcp, hq⟩ := hrel
            have Hcp := Lib.hid hcp
            clear hcp
            obtain ⟨m, rfl⟩ := hq
            by_cases hlt : k < zn
            · have hlt' : (k : Int) < (zn : Int) := by omega
              have e1 : IntKind.i64.wrap ((fn : Int) + (k : Int)) = ((fn + k : Nat) : Int) := by rw [IntKind.wrap_i64]; omega
              have e2 : IntKind.i64.wrap (((fn + k : Nat) : Int) + 1) = ((fn + k + 1 : Nat) : Int) := by rw [IntKind.wrap_i64]; omega
              have Hst := Lib.hid (show cp t' (fn + k) (zn - k) = cp (t' ++ (t'.drop (fn + k)).take 1) (fn + k + 1) (zn - (k + 1)) by rw [show zn - k = (zn - (k + 1)) + 1 by omega]; rfl)
              go_wp2_with fail
              go_roundw
              case rel =>
                exact ⟨t' ++ (t'.drop (fn + k)).take 1, k + 1, by simp [show fn + k + 1 - (fn + k) = 1 by omega], by go_num, by omega, by simp; omega, by rw [← Hcp.out, Hst.out]; rfl, ⟨m, rfl⟩⟩
              case measure => simp [intOf]; omega
            · have hlt' : ¬ (k : Int) < (zn : Int) := by omega
              have hkz : k = zn := by omega
              subst hkz
              have Hen := Lib.hid (show t' = cp t fn k by have := Hcp.out; rw [Nat.sub_self] at this; exact this)
              go_wp2_with fail
              go_ret2
              rw [Hb.out, show cp t (fn : Int).toNat (k : Int).toNat = t' from Hen.out.symm]
              exact retBh_some (bel_drewN hb2' m)
      · have Hb := Lib.hid (show bh t (f, z, l) = none by unfold bh; dsimp only; rw [hf, hl]; simp [hl0])
        have hle : (l == []) = false := by simp [hl0]
        go_enter Tryd.func19, Tryd.ntmps19
        go_wp2_with fail
        refine (fits_any _ _ _ ht h2).mono ?_
        rintro e w1 ⟨rfl, hb1⟩
        rw [hf]
        obtain ⟨c0, c1, c2, c3⟩ := (Pt.new w f z l _).keep hb1 (by simp)
        have hb1' : Below w.heap.size w w1 := (bel_new w _).trans (hb1.mono (by simp))
        go_wp2_with fail
        refine (letterOk_any _ _ (by omega)).mono ?_
        rintro e w2 ⟨rfl, hb2⟩
        rw [hl]
        obtain ⟨d0, d1, d2, d3⟩ := Pt.keep ⟨c0, c1, c2, c3⟩ hb2 (Nat.lt_of_lt_of_le (by simp) hb1.size)
        clear c0 c1 c2 c3
        have hb2' : Below w.heap.size w w2 := hb1'.trans (hb2.mono hb1'.size)
        go_wp2_with fail
        go_ret2
        rw [Hb.out]
        exact retBh_none (bel_al hb2' _)
/-- The text of phrases behind a text. -/
def txt (t : List UInt8) : List Ph → Option (List UInt8)
  | [] => some t
  | p :: ps => (bh t p).bind fun u => txt u ps
theorem cp_len (k : Nat) : ∀ (t : List UInt8) (i : Nat), (cp t i k).length ≤ t.length + k := by
  induction k with
  | zero => intro t i; exact Nat.le_refl _
  | succ k ih =>
    intro t i
    have := ih (t ++ (t.drop i).take 1) (i + 1)
    simp at this
    rw [cp]
    omega
theorem bh_len {t u : List UInt8} {p : Ph} (h : bh t p = some u) : u.length ≤ 40 := by
  obtain ⟨f, z, l⟩ := p
  unfold bh at h
  dsimp only at h
  split at h
  · cases h
  · rename_i h1
    simp only [Bool.not_eq_true', Bool.not_eq_false, Bool.and_eq_true, decide_eq_true_eq] at h1
    obtain ⟨h1, h2⟩ := h1
    have h3 := inR_true h1
    split at h
    · rename_i h4
      simp only [Bool.and_eq_true, beq_iff_eq] at h4
      injection h with h
      subst h
      have h5 := h4.1.1
      unfold lok at h5
      simp only [Bool.and_eq_true, decide_eq_true_eq] at h5
      have h6 := h4.2
      have h7 := h5.1
      simp
      omega
    · split at h
      · cases h
      · injection h with h
        subst h
        have := cp_len z.toNat t f.toNat
        omega
/-- The phrases that a walk can meet. -/
def PhOk (ps : List Ph) : Prop := ∀ p ∈ ps, (-100000 ≤ p.1 ∧ p.1 ≤ 100000) ∧ (-100000 ≤ p.2.1 ∧ p.2.1 ≤ 100000) ∧ p.2.2.length ≤ 1000
def TX (ps : List Ph) : Option (List UInt8) := if ps.length ≤ 40 then txt [] ps else none
def RetTx (w : World) (o : Option (List UInt8)) (e : Ending) (w' : World) : Prop :=
  Below w.heap.size w w' ∧ match o with
  | some t => e = .returned (.tuple #[.string ⟨t.toArray⟩, .bool true])
  | none => e = .returned (.tuple #[.string ⟨#[]⟩, .bool false])
set_option maxHeartbeats 800000 in
theorem TextOf_any (A : Option Addr) (n c : Nat) (ps : List Ph) (w : World) (hr : Rd3 w w.heap.size A n c ps) (hok : PhOk ps) (hg : Gv w) :
    Calls Tryd.prog 10 #[.slice A n c] w (RetTx w (TX ps)) := by
  have hm := hr.2.2.1
  have hnc := hr.2.1
  have hpn := hr.1
  unfold maxLen at hm
  by_cases h40 : n ≤ 40
  · have h40' : ¬ (40 : Int) < (n : Int) := by omega
    go_enter Tryd.func10, Tryd.ntmps10
    have HT := Lib.hid (show TX ps = txt [] ps by unfold TX; rw [if_pos]; omega)
    go_wp2_with fail
    go_loopw [4, 14] (fun u x wr => ∃ (t : List UInt8) (k : Nat), u = .string ⟨t.toArray⟩ ∧ x = .int .i64 k ∧ k ≤ n ∧ t.length ≤ 40 ∧ txt t (ps.drop k) = txt [] ps ∧ Below w.heap.size w wr) (fun _ x _ => n - (intOf x).toNat)
    case atStart => exact ⟨[], 0, rfl, rfl, Nat.zero_le _, by simp, rfl, Below.refl _ _⟩
    case round =>
      obtain ⟨t, k, rfl, rfl, hk, htl, htx, hbw⟩ := hrel
      have Htx := Lib.hid htx
      clear htx
      by_cases hlt : k < n
      · have hlt' : (k : Int) < (n : Int) := by omega
        have hr' := hr.below hbw
        obtain ⟨b, o, f, z, l, rfl, hb, hx, c1, c2, c3⟩ := hr'.at_ hlt
        obtain ⟨q1, q2, q3⟩ := hok _ (List.mem_of_getElem? hx)
        have Hst := Lib.hid (show txt t (ps.drop k) = (bh t (f, z, l)).bind fun u => txt u (ps.drop (k + 1)) by rw [List.drop_eq_getElem?_toList_append, hx]; rfl)
        clear hx
        cases hbh : bh t (f, z, l) with
        | none =>
          have Hn := Lib.hid (show TX ps = none by rw [HT.out, ← Htx.out, Hst.out, hbh]; rfl)
          go_wp2_with fail
          refine (behind_any (f, z, l) t _ (by omega) q1 q2 q3).mono ?_
          rintro e w2 ⟨hb2, hres⟩
          rw [hbh] at hres
          obtain ⟨ad, rfl⟩ := hres
          have hb2' : Below w.heap.size w w2 := (bel_al hbw _).trans (hb2.mono (bel_al hbw _).size)
          go_wp2_with fail
          refine (fine_hit _ _ (hg.keep hb2')).mono ?_
          rintro e w3 ⟨rfl, hb3⟩
          go_wp2_with fail
          go_ret2
          rw [Hn.out]
          exact ⟨hb2'.trans (hb3.mono hb2'.size), rfl⟩
        | some u =>
          have hul := bh_len hbh
          have Hs := Lib.hid (show txt u (ps.drop (k + 1)) = txt [] ps by rw [← Htx.out, Hst.out, hbh]; rfl)
          go_wp2_with fail
          refine (behind_any (f, z, l) t _ (by omega) q1 q2 q3).mono ?_
          rintro e w2 ⟨hb2, hres⟩
          rw [hbh] at hres
          subst hres
          have hb2' : Below w.heap.size w w2 := (bel_al hbw _).trans (hb2.mono (bel_al hbw _).size)
          go_wp2_with fail
          refine (fine_nil _).mono ?_
          rintro e w3 ⟨rfl, hb3⟩
          go_wp2_with fail
          go_roundw
          case rel => exact ⟨u, k + 1, rfl, by go_num, by omega, hul, Hs.out, hb2'.trans (hb3.mono hb2'.size)⟩
          case measure => simp [intOf]; omega
      · have hlt' : ¬ (k : Int) < (n : Int) := by omega
        have hkn : k = n := by omega
        subst hkn
        have Hn := Lib.hid (show TX ps = some t by rw [HT.out, ← Htx.out, List.drop_of_length_le (by omega)]; rfl)
        go_wp2_with fail
        go_ret2
        rw [Hn.out]
        exact ⟨hbw, rfl⟩
  · have h40' : (40 : Int) < (n : Int) := by omega
    have Ht := Lib.hid (show TX ps = none by unfold TX; rw [if_neg]; omega)
    go_enter Tryd.func10, Tryd.ntmps10
    go_wp2_with fail
    go_ret2
    rw [Ht.out]
    exact ⟨Below.refl _ _, rfl⟩
end Go.Proofs.YteldklkfedeleaaDoor
