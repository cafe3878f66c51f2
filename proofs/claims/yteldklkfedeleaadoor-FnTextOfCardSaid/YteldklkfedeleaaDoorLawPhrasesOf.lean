/-
  The law FnPhrasesOf: its walk.
-/
import Derived.Test.YteldklkfedeleaaDoorTextOf
import Derived.Test.YteldklkfedeleaaDoorFew
import Derived.Test.YteldklkfedeleaaDoorGen
import Derived.Test.YteldklkfedeleaaDoorPhrPlain
namespace Go.Proofs.YteldklkfedeleaaDoor
open Go.RowKit
set_option linter.unusedVariables false
set_option linter.unusedSimpArgs false

def DrawnText (w : World) (k : Nat) (e : Ending) (w' : World) : Prop :=
  ∃ l : List UInt8, e = .returned (.string ⟨l.toArray⟩) ∧ l.length ≤ k ∧ Below w.heap.size w w'
set_option maxHeartbeats 400000 in
theorem DrawPhrasesOf_any (A : Option Addr) (n c : Nat) (zs : List Int) (w : World) (hr : Rd w w.heap.size A n c (zs.map U8)) (hz : ∀ z ∈ zs, 0 ≤ z ∧ z ≤ 255) :
    Calls Tryd.prog 5 #[.slice A n c] w (DrawnText w 100) := by
  have H := Lib.hid (newReader_any A n c zs w hr hz)
  clear hr hz
  go_enter Tryd.func5, Tryd.ntmps5
  go_wp2_with fail
  refine H.out.mono ?_
  rintro e w1 ⟨R, zs', rfl, hR, hb1⟩
  have hBR := hR.1
  go_wp2_with fail
  refine (someText_any _ R zs' 0 40 _ hR (by omega) (by omega)).mono ?_
  rintro e w2 ⟨l, q, rfl, hl, hq, hR2, hg⟩
  go_wp2_with fail
  go_ret
  exact ⟨l, rfl, by omega, grown_bel hb1 hBR hg⟩
set_option maxHeartbeats 1000000 in
theorem lawPhrasesOf (A : Option Addr) (n c : Nat) (zs : List Int) (w : World) (hr : Rd w w.heap.size A n c (zs.map U8)) (hz : ∀ z ∈ zs, 0 ≤ z ∧ z ≤ 255) (hg : Gv w) :
    Calls Tryd.prog 3 #[.slice A n c] w (RetVal w (.bool true)) := by
  have hm := hr.2.2.1
  have hnc := hr.2.1
  unfold maxLen at hm
  by_cases hbig : n ≤ 1048576
  · have hbig' : ¬ (1048576 : Int) < (n : Int) := by omega
    have H := Lib.hid (DrawPhrasesOf_any A n c zs w hr hz)
    clear hr hz
    go_enter Tryd.func3, Tryd.ntmps3
    go_wp2_with fail
    refine H.out.mono ?_
    rintro e w1 ⟨s, rfl, hsl, hb1⟩
    go_wp2_with fail
    refine (PhrasesOf_any s _ (by omega)).mono ?_
    rintro e w2 ⟨A2, n2, c2, rfl, hr2, hb2⟩
    have hb2' : Below w.heap.size w w2 := hb1.trans (hb2.mono hb1.size)
    go_wp2_with fail
    refine (specPhrasesOf_any s _ (by omega)).mono ?_
    rintro e w3 ⟨A3, n3, c3, rfl, hr3, hb3⟩
    have hb3' : Below w.heap.size w w3 := hb2'.trans (hb3.mono hb2'.size)
    have hr2' := (hr2.below hb3).more hb3.size
    have hn32 : n2 = n3 := by have h1 := hr2.1; have h2 := hr3.1; omega
    subst hn32
    go_wp2_with fail
    refine (equalPhrases_any A2 n2 c2 A3 c3 (PO s) w3 w3.heap.size hr2' hr3).mono ?_
    rintro e w4 ⟨rfl, hq4⟩
    have hb4' : Below w.heap.size w w4 := hb3'.trans (hq4.bel _)
    have hr4 := hr2'.quiet hq4
    go_wp2_with fail
    refine (ValidText_any _ _ (by omega)).mono ?_
    rintro e w5 ⟨rfl, hb5⟩
    have hb5' : Below w.heap.size w w5 := hb4'.trans (hb5.mono hb4'.size)
    cases hv : vt s with
    | false =>
      go_wp2_with fail
      refine (specPhrasesOf_any s _ (by omega)).mono ?_
      rintro e w6 ⟨A6, n6, c6, rfl, hr6, hb6⟩
      have hb6' : Below w.heap.size w w6 := hb5'.trans (hb6.mono hb5'.size)
      have hn62 : n2 = n6 := by have h1 := hr2.1; have h2 := hr6.1; omega
      subst hn62
      have hr46 := ((((hr4.more (Nat.le_of_eq hq4.size.symm)).below hb5).more hb5.size).below hb6).more hb6.size
      go_wp2_with fail
      refine (equalPhrases_any A2 n2 c2 A6 c6 (PO s) w6 w6.heap.size hr46 hr6).mono ?_
      rintro e w7 ⟨rfl, hq7⟩
      go_wp2_with fail
      go_ret
      exact ⟨rfl, hb6'.trans (hq7.bel _)⟩
    | true =>
      have Htx := Lib.hid (TX_PO s hv)
      have Hfw := Lib.hid (PO_few s hv)
      have Hfp := Lib.hid (show FP s = few s by unfold FP; rw [hv]; rfl)
      have hok := PO_ok s hv
      have hlen : (PO s).length = n2 := hr2.1
      have hr5 := ((hr4.more (Nat.le_of_eq hq4.size.symm)).below hb5).more hb5.size
      go_wp2_with fail
      refine (TextOf_any A2 n2 c2 (PO s) _ hr5 hok (hg.keep hb5')).mono ?_
      rintro e w6 ⟨hb6, hres⟩
      rw [Htx.out] at hres
      subst hres
      have hb6' : Below w.heap.size w w6 := hb5'.trans (hb6.mono hb5'.size)
      go_wp2_with fail
      refine (FewestPhrases_any s _ (by omega)).mono ?_
      rintro e w7 ⟨rfl, hb7⟩
      have hfn : FP s = (n2 : Int) := by rw [Hfp.out, ← Hfw.out, hlen]
      rw [hfn]
      go_wp2_with fail
      go_ret
      exact ⟨rfl, hb6'.trans (hb7.mono hb6'.size)⟩
  · have hbig' : (1048576 : Int) < (n : Int) := by omega
    go_enter Tryd.func3, Tryd.ntmps3
    go_wp2_with fail
    go_ret
    exact ⟨rfl, Below.refl _ _⟩
end Go.Proofs.YteldklkfedeleaaDoor
