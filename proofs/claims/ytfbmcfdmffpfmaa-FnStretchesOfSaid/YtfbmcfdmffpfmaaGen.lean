/-
  Contracts of the generator that draws arguments: it returns some texts, words, numbers of bounded sizes.
-/
import Derived.Test.YtfbmcfdmffpfmaaText
import Derived.Deep.QuietTactic
import Derived.BigQuiet
import Derived.Deep.DeepCutAuto
import Derived.Laws.BitsAllLaws
import Derived.Laws.BitsLemmas
import Derived.Outline
namespace Go.Proofs.Ytfbmcfdmffpfmaa
open Go.RowKit
set_option linter.unusedVariables false
set_option linter.unusedSimpArgs false

def U8 (n : Int) : Value := .int .u8 n
/-- The code's bytes: at most 2000 of them, read in blocks below B. -/
def Bytes (zs : List Int) : Prop := zs.length ≤ 2000 ∧ ∀ z ∈ zs, 0 ≤ z ∧ z ≤ 255
theorem Rd.u8 {w : World} {B : Nat} {A : Option Addr} {n c : Nat} {zs : List Int} (h : Rd w B A n c (zs.map U8)) {k : Nat} (hk : k < n) :
    ∃ b o x, A = some ⟨b, o, none⟩ ∧ b < B ∧ zs[k]? = some x ∧ w.cell? ⟨b, o + k, none⟩ = some (.int .u8 x) := by
  obtain ⟨b, o, e, hb, hc⟩ := h.at_ hk
  have hl : k < zs.length := by have := h.1; simp at this; omega
  exact ⟨b, o, zs[k], e, hb, List.getElem?_eq_getElem hl, by rw [hc]; simp [U8]⟩
theorem Rd.u8_at {w : World} {B b o n c : Nat} {zs : List Int} (h : Rd w B (some ⟨b, o, none⟩) n c (zs.map U8)) {k : Nat} (hk : k < n) :
    ∃ x, zs[k]? = some x ∧ w.cell? ⟨b, o + k, none⟩ = some (.int .u8 x) := by
  obtain ⟨b', o', x, e, _, hx, hc⟩ := h.u8 hk
  injection e with e
  injection e with e1 e2
  subst e1 e2
  exact ⟨x, hx, hc⟩
/-- A reader in block R, from block B on, at position p. -/
def Rdr (w : World) (B R : Nat) (zs : List Int) (p : Nat) : Prop :=
  B ≤ R ∧ p ≤ 1099511627776 ∧ Bytes zs ∧ ∃ A m c, w.heap[R]? = some (.cells #[.slice A m c, .int .i64 p] 74 (0, 0)) ∧ Rd w B A m c (zs.map U8)
/-- What a draw leaves: block R alone of what was there may have turned. -/
def Drawn (B R : Nat) (zs : List Int) (w : World) (p q : Nat) (w' : World) : Prop := Rdr w' B R zs q ∧ q ≤ p ∧ w.grownBy w' (some R)
def Picked (B R : Nat) (zs : List Int) (w : World) (p : Nat) (n : Int) (e : Ending) (w' : World) : Prop :=
  ∃ v : Nat, e = .returned (.int .i64 v) ∧ (1 ≤ n → (v : Int) < n) ∧ (n < 1 → v = 0) ∧ Rdr w' B R zs (p + 1) ∧ w.grownBy w' (some R)

theorem Rdr.moved {w : World} {B R : Nat} {zs : List Int} {p : Nat} (h : Rdr w B R zs p) (hp : p + 1 ≤ 1099511627776) : Rdr (w.setCell ⟨R, 1, none⟩ (.int .i64 ((p : Int) + 1))) B R zs (p + 1) ∧ w.grownBy (w.setCell ⟨R, 1, none⟩ (.int .i64 ((p : Int) + 1))) (some R) := by
  obtain ⟨h1, h2, h3, A, m, c, hh, hr⟩ := h
  refine ⟨⟨h1, hp, h3, A, m, c, ?_, hr.keep fun q hq => World.cell?_setCell_other w _ q _ (fun e => by subst e; simp at hq; omega)⟩, ⟨rfl, rfl, rfl, by simp, fun k _ hk => heap_setCell_other w ⟨R, 1, none⟩ k _ (fun e => hk (by simp [e]))⟩⟩
  have := heap_setCell_same w R 1 _ _ (.int .i64 ((p : Int) + 1)) hh
  simpa using this
theorem Rdr.drewN {w : World} {B R : Nat} {zs : List Int} {p : Nat} (h : Rdr w B R zs p) (k : Nat) : Rdr (w.drewN k) B R zs p := h
theorem grown_drewN {a w : World} {row : Option Nat} (h : a.grownBy w row) (n : Nat) : a.grownBy (w.drewN n) row := ⟨h.os, h.tape, h.output, h.size, h.block⟩

theorem ofInt_small (a : Nat) (ha : a < 9223372036854775808) : (BitVec.ofInt 64 (a : Int)).toNat = a := by
  rw [BitVec.ofInt_natCast, BitVec.toNat_ofNat]; exact Nat.mod_eq_of_lt (by omega)
theorem xor_small (a b : Nat) (ha : a < 4611686018427387904) (hb : b < 4611686018427387904) : bits .xor .i64 (a : Int) (b : Int) = ((a ^^^ b : Nat) : Int) := by
  have hx : a ^^^ b < 2 ^ 62 := Nat.xor_lt_two_pow (by omega) (by omega)
  show IntKind.i64.wrap ((BitVec.ofInt 64 (a : Int) ^^^ BitVec.ofInt 64 (b : Int)).toNat : Int) = _
  rw [BitVec.toNat_xor, ofInt_small a (by omega), ofInt_small b (by omega), IntKind.wrap_i64]
  omega
theorem xor64 (x : Nat) (hx : x < 4611686018427387904) : ∃ v : Nat, bits .xor .i64 (x : Int) ((x : Int) / 64) = (v : Int) ∧ v < 4611686018427387904 := by
  refine ⟨x ^^^ (x / 64), ?_, ?_⟩
  · rw [← xor_small x (x / 64) hx (by omega)]
    congr 1
  · have h : x ^^^ (x / 64) < 2 ^ 62 := Nat.xor_lt_two_pow (by omega) (by omega)
    omega
set_option maxHeartbeats 800000 in
theorem pick_any (B R : Nat) (zs : List Int) (p : Nat) (n : Int) (w : World) (hR : Rdr w B R zs p) (hp : p + 1 ≤ 1099511627776) (hn0 : -1000 ≤ n) (hn1 : n ≤ 1099511627776) :
    Calls Try.prog 75 #[.pointer (some ⟨R, 0, none⟩), .int .i64 n] w (Picked B R zs w p n) := by
  obtain ⟨hR2, hG2⟩ := hR.moved hp
  obtain ⟨hBR, _, hzs, A, m, c, hh, hr⟩ := hR
  have hc0 : w.cell? ⟨R, 0, none⟩ = some (.slice A m c) := by rw [cell_of_row w R 0 _ _ (0, 0) hh]; rfl
  have hc1 : w.cell? ⟨R, 1, none⟩ = some (.int .i64 p) := by rw [cell_of_row w R 1 _ _ (0, 0) hh]; rfl
  have hf1 : w.frozen? ⟨R, 1, none⟩ = false := frozen_of_row w R 1 _ _ hh
  have hml : m ≤ 2000 := by have := hzs.1; have := hr.1; simp at this; omega
  clear hh
  by_cases hn : n < 1
  · go_enter Try.func75, Try.ntmps75
    go_wp2
    go_ret
    exact ⟨0, rfl, fun h => by omega, fun _ => rfl, hR2, hG2⟩
  · by_cases hm0 : m = 0
    · subst hm0
      go_enter Try.func75, Try.ntmps75
      go_wp2
      go_ret
      exact ⟨0, rfl, fun h => by omega, fun _ => rfl, hR2, hG2⟩
    · by_cases hk : p < m
      · obtain ⟨b, o, z, rfl, hb, hz, hcz⟩ := hr.u8 hk
        obtain ⟨hz0, hz1⟩ := hzs.2 z (List.mem_of_getElem? hz)
        have hne : R ≠ b := by omega
        go_enter Try.func75, Try.ntmps75
        go_wp2
        go_ret
        refine ⟨(z % n).toNat, ?_, ?_, fun h => by omega, hR2, hG2⟩
        · exact ret_int (Int.toNat_of_nonneg (Int.emod_nonneg _ (by omega))).symm
        · intro _
          rw [Int.toNat_of_nonneg (Int.emod_nonneg _ (by omega))]
          exact Int.emod_lt_of_pos _ (by omega)
      · have hk1 : p % m < m := Nat.mod_lt _ (by omega)
        have hk2 : (p * 7 + 3) % m < m := Nat.mod_lt _ (by omega)
        have hqm : p / m ≤ p := Nat.div_le_self _ _
        obtain ⟨i, hi⟩ : ∃ i, i = p % m := ⟨_, rfl⟩
        obtain ⟨j, hj⟩ : ∃ j, j = (p * 7 + 3) % m := ⟨_, rfl⟩
        obtain ⟨q, hq⟩ : ∃ q, q = p / m := ⟨_, rfl⟩
        have e1 : (p : Int) % (m : Int) = (i : Int) := by rw [hi]; simp
        have e1' : (p : Int).tmod (m : Int) = (i : Int) := by rw [Int.tmod_eq_emod_of_nonneg (by omega)]; exact e1
        have e2 : ((p : Int) * 7 + 3) % (m : Int) = (j : Int) := by rw [hj]; simp
        have e2' : ((p : Int) * 7 + 3).tmod (m : Int) = (j : Int) := by rw [Int.tmod_eq_emod_of_nonneg (by omega)]; exact e2
        have e3 : (p : Int) / (m : Int) = (q : Int) := by rw [hq]; simp
        have e3' : (p : Int).tdiv (m : Int) = (q : Int) := by rw [Int.tdiv_eq_ediv_of_nonneg (by omega)]; exact e3
        rw [← hi] at hk1
        rw [← hj] at hk2
        rw [← hq] at hqm
        clear hi hj hq
        obtain ⟨b, o, z, rfl, hb, hz, hcz⟩ := hr.u8 hk1
        obtain ⟨y, hy, hcy⟩ := hr.u8_at hk2
        obtain ⟨hz0, hz1⟩ := hzs.2 z (List.mem_of_getElem? hz)
        obtain ⟨hy0, hy1⟩ := hzs.2 y (List.mem_of_getElem? hy)
        clear hz hy
        have hne : R ≠ b := by omega
        have i1 : (i : Int) < (m : Int) := by omega
        have i2 : (j : Int) < (m : Int) := by omega
        have w1 : IntKind.i64.wrap (z * 131) = z * 131 := by rw [IntKind.wrap_i64]; omega
        have w2 : IntKind.i64.wrap ((p : Int) * 7) = (p : Int) * 7 := by rw [IntKind.wrap_i64]; omega
        have w3 : IntKind.i64.wrap ((p : Int) * 7 + 3) = (p : Int) * 7 + 3 := by rw [IntKind.wrap_i64]; omega
        have w4 : IntKind.i64.wrap (y * 1117) = y * 1117 := by rw [IntKind.wrap_i64]; omega
        have w5 : IntKind.i64.wrap (z * 131 + y * 1117) = z * 131 + y * 1117 := by rw [IntKind.wrap_i64]; omega
        have w6 : IntKind.i64.wrap ((p : Int) * 29) = (p : Int) * 29 := by rw [IntKind.wrap_i64]; omega
        have w7 : IntKind.i64.wrap (z * 131 + y * 1117 + (p : Int) * 29) = z * 131 + y * 1117 + (p : Int) * 29 := by rw [IntKind.wrap_i64]; omega
        have w8 : IntKind.i64.wrap ((q : Int) * 53) = (q : Int) * 53 := by rw [IntKind.wrap_i64]; omega
        obtain ⟨x, hx⟩ : ∃ x : Nat, (x : Int) = z * 131 + y * 1117 + (p : Int) * 29 + (q : Int) * 53 := ⟨(z * 131 + y * 1117 + (p : Int) * 29 + (q : Int) * 53).toNat, by omega⟩
        have hx1 : x ≤ 100000000000000 := by omega
        have w9 : IntKind.i64.wrap (z * 131 + y * 1117 + (p : Int) * 29 + (q : Int) * 53) = (x : Int) := by rw [IntKind.wrap_i64]; omega
        clear hx
        obtain ⟨v, hv, hvb⟩ := xor64 x (by omega)
        go_enter Try.func75, Try.ntmps75
        go_wp2
        go_quiet (fail)
        clear e1 e1' e2 e2' e3 e3' w1 w2 w3 w4 w5 w6 w7 w8 w9
        go_wp2
        go_ret
        refine ⟨((v : Int) % n).toNat, ?_, ?_, fun h => by omega, hR2.drewN _, grown_drewN hG2 _⟩
        · exact ret_int (Int.toNat_of_nonneg (Int.emod_nonneg _ (by omega))).symm
        · intro _
          rw [Int.toNat_of_nonneg (Int.emod_nonneg _ (by omega))]
          exact Int.emod_lt_of_pos _ (by omega)
/-! ### frames -/
theorem Rdr.alloc {w : World} {B R : Nat} {zs : List Int} {p : Nat} (h : Rdr w B R zs p) (o : Obj) : Rdr (w.alloc o) B R zs p := by
  obtain ⟨h1, h2, h3, A, m, c, hh, hr⟩ := h
  have hlt : R < w.heap.size := (Array.getElem?_eq_some_iff.1 hh).1
  exact ⟨h1, h2, h3, A, m, c, (Below.heap_alloc w o R hlt).trans hh, hr.alloc (by omega) o⟩
theorem Rdr.lt {w : World} {B R : Nat} {zs : List Int} {p : Nat} (h : Rdr w B R zs p) : R < w.heap.size := by
  obtain ⟨_, _, _, _, _, _, hh, _⟩ := h
  exact (Array.getElem?_eq_some_iff.1 hh).1
/-- What another row's turn leaves of a reader. -/
theorem Rdr.grown {w w' : World} {B R : Nat} {zs : List Int} {p : Nat} (h : Rdr w B R zs p) {row : Option Nat} (hg : w.grownBy w' row) (hne : ∀ k, row = some k → B ≤ k ∧ k ≠ R) : Rdr w' B R zs p := by
  have hlt := h.lt
  obtain ⟨h1, h2, h3, A, m, c, hh, hr⟩ := h
  refine ⟨h1, h2, h3, A, m, c, (hg.block R hlt (fun e => (hne R e.symm).2 rfl)).trans hh, hr.keep fun q hq => World.cell?_of_block (hg.block q.block (by omega) (fun e => by have := (hne _ e.symm).1; omega))⟩
theorem Rdr.kept {w w' : World} {B R : Nat} {zs : List Int} {p : Nat} (h : Rdr w B R zs p) (hb : Below w.heap.size w w') : Rdr w' B R zs p :=
  h.grown (row := none) ⟨hb.os, hb.tape, hb.output, hb.size, fun k hk _ => hb.block k hk⟩ (fun _ e => by cases e)
theorem grown_alloc {a w : World} {row : Option Nat} (h : a.grownBy w row) (o : Obj) : a.grownBy (w.alloc o) row :=
  ⟨h.os, h.tape, h.output, Nat.le_trans h.size (by simp), fun i hi hne => (Below.heap_alloc w o i (Nat.lt_of_lt_of_le hi h.size)).trans (h.block i hi hne)⟩
theorem grown_trans {a b c : World} {row : Option Nat} (h : a.grownBy b row) (k : b.grownBy c row) : a.grownBy c row :=
  ⟨k.os.trans h.os, k.tape.trans h.tape, k.output.trans h.output, Nat.le_trans h.size k.size, fun i hi hne => (k.block i (Nat.lt_of_lt_of_le hi h.size) hne).trans (h.block i hi hne)⟩
theorem grown_refl (a : World) (row : Option Nat) : a.grownBy a row := ⟨rfl, rfl, rfl, Nat.le_refl _, fun _ _ _ => rfl⟩
theorem grown_below {a b c : World} {row : Option Nat} (h : a.grownBy b row) (k : Below b.heap.size b c) : a.grownBy c row :=
  ⟨k.os.trans h.os, k.tape.trans h.tape, k.output.trans h.output, Nat.le_trans h.size k.size, fun i hi hne => (k.block i (Nat.lt_of_lt_of_le hi h.size)).trans (h.block i hi hne)⟩
/-- A row of the call's own, over draws from a reader in another block. -/
theorem Row.drawn {w w' : World} {B R : Nat} {e : TypeId} {A : Option Addr} {n c : Nat} {xs : List Value} (h : Row w B e A n c xs) (hg : w.grownBy w' (some R)) (hne : (Value.slice A n c).ownBlock ≠ some R) : Row w' B e A n c xs :=
  World.ownsRow.kept h hg (.inr hne)
theorem Row.ne_of_lt {w : World} {B R : Nat} {e : TypeId} {A : Option Addr} {n c : Nat} {xs : List Value} (h : Row w B e A n c xs) (hR : R < B) : (Value.slice A n c).ownBlock ≠ some R := by
  intro e'
  have := (World.ownsRow.lt h R e').1
  omega
theorem rd_lit (w : World) (cs : Array Value) (t : TypeId) (n : Nat) (xs : List Value) (h : cs.toList = xs) (hn : xs.length = n) (hm : n ≤ 1000) :
    Rd (w.alloc (.cells cs t)) (w.alloc (.cells cs t)).heap.size (some ⟨w.heap.size, 0, none⟩) n n xs := by
  refine ⟨hn, Nat.le_refl _, by unfold maxLen; omega, fun _ => ⟨w.heap.size, 0, rfl, by simp, fun j u hu => ?_⟩⟩
  rw [cell_of_row (w.alloc (.cells cs t)) w.heap.size (0 + j) cs t (0, 0) (heap_alloc_new w _), Nat.zero_add]
  rw [← h] at hu
  simpa using hu

/-! ### one of a list -/
def OneOf (B R : Nat) (zs : List Int) (w : World) (p : Nat) (ls : List Int) (e : Ending) (w' : World) : Prop :=
  ∃ x, x ∈ ls ∧ e = .returned (.int .i64 x) ∧ Rdr w' B R zs (p + 1) ∧ w.grownBy w' (some R)
def OneText (B R : Nat) (zs : List Int) (w : World) (p : Nat) (ls : List (List UInt8)) (e : Ending) (w' : World) : Prop :=
  ∃ x, x ∈ ls ∧ e = .returned (.string ⟨x.toArray⟩) ∧ Rdr w' B R zs (p + 1) ∧ w.grownBy w' (some R)
set_option maxHeartbeats 400000 in
theorem one_any (B R : Nat) (zs : List Int) (p : Nat) (A : Option Addr) (m c : Nat) (ls : List Int) (w : World) (hR : Rdr w B R zs p) (hp : p + 1 ≤ 1099511627776)
    (hr : Rd w w.heap.size A m c (ls.map I)) (hm : 1 ≤ m) (hm1 : m ≤ 1000) (hne : ∀ b o, A = some ⟨b, o, none⟩ → b ≠ R) :
    Calls Try.prog 74 #[.pointer (some ⟨R, 0, none⟩), .slice A m c] w (OneOf B R zs w p ls) := by
  obtain ⟨b, o, y, rfl, hb, _, _⟩ := hr.int (show 0 < m by omega)
  have hbR := hne b o rfl
  have hP := Lib.hid (pick_any B R zs p m w hR hp (by omega) (by omega))
  have Hr := Lib.hid hr
  clear hne hr
  go_enter Try.func74, Try.ntmps74
  go_wp2_with fail
  refine hP.out.mono ?_
  rintro e w1 ⟨v, rfl, hv1, _, hR1, hg1⟩
  have hvm : v < m := by have := hv1 (by omega); omega
  obtain ⟨x, hx, hcx⟩ := Hr.out.int_at hvm
  have hc1 : w1.cell? ⟨b, o + v, none⟩ = some (.int .i64 x) := (World.cell?_of_block (hg1.block b hb (by simpa using hbR))).trans hcx
  have hmem := List.mem_of_getElem? hx
  clear hv1 hx hcx
  go_wp2_with fail
  go_ret
  exact ⟨x, hmem, rfl, hR1, hg1⟩
set_option maxHeartbeats 400000 in
theorem of_any (B R : Nat) (zs : List Int) (p : Nat) (A : Option Addr) (m c : Nat) (ls : List (List UInt8)) (w : World) (hR : Rdr w B R zs p) (hp : p + 1 ≤ 1099511627776)
    (hr : Rd w w.heap.size A m c (ls.map S)) (hm : 1 ≤ m) (hm1 : m ≤ 1000) (hne : ∀ b o, A = some ⟨b, o, none⟩ → b ≠ R) :
    Calls Try.prog 98 #[.pointer (some ⟨R, 0, none⟩), .slice A m c] w (OneText B R zs w p ls) := by
  obtain ⟨b, o, y, rfl, hb, _, _⟩ := hr.str (show 0 < m by omega)
  have hbR := hne b o rfl
  have hP := Lib.hid (pick_any B R zs p m w hR hp (by omega) (by omega))
  have Hr := Lib.hid hr
  clear hne hr
  go_enter Try.func98, Try.ntmps98
  go_wp2_with fail
  refine hP.out.mono ?_
  rintro e w1 ⟨v, rfl, hv1, _, hR1, hg1⟩
  have hvm : v < m := by have := hv1 (by omega); omega
  obtain ⟨x, hx, hcx⟩ := Hr.out.str_at hvm
  have hc1 : w1.cell? ⟨b, o + v, none⟩ = some (.string ⟨x.toArray⟩) := (World.cell?_of_block (hg1.block b hb (by simpa using hbR))).trans hcx
  have hmem := List.mem_of_getElem? hx
  clear hv1 hx hcx
  go_wp2_with fail
  go_ret
  exact ⟨x, hmem, rfl, hR1, hg1⟩
/-- A new reader of a code that came in. -/
def NewReader (w : World) (e : Ending) (w' : World) : Prop :=
  ∃ R zs, e = .returned (.pointer (some ⟨R, 0, none⟩)) ∧ Rdr w' w.heap.size R zs 0 ∧ Below w.heap.size w w'
set_option maxHeartbeats 400000 in
theorem newReader_any (A : Option Addr) (n c : Nat) (zs : List Int) (w : World) (hr : Rd w w.heap.size A n c (zs.map U8)) (hz : ∀ z ∈ zs, 0 ≤ z ∧ z ≤ 255) :
    Calls Try.prog 72 #[.slice A n c] w (NewReader w) := by
  have hm := hr.2.2.1
  have hnc := hr.2.1
  have hn := hr.1
  unfold maxLen at hm
  by_cases h2 : n ≤ 2000
  · go_enter Try.func72, Try.ntmps72
    go_wp2
    go_ret
    refine ⟨w.heap.size, zs, rfl, ⟨Nat.le_refl _, by omega, ⟨by simp at hn; omega, hz⟩, A, n, c, heap_alloc_new _ _, hr.alloc (Nat.le_refl _) _⟩, (Below.refl _ _).alloc (Nat.le_refl _) _⟩
  · obtain ⟨b, o, rfl, hb, hc⟩ := hr.2.2.2 (by omega)
    have hl : zs.length = n := by simpa using hn
    have Hc := Lib.hid hc
    have Hl := Lib.hid hl
    clear hc hn hl hr
    go_enter Try.func72, Try.ntmps72
    go_wp2
    go_ret
    have hl := Hl.out
    refine ⟨w.heap.size, zs.take 2000, rfl, ⟨Nat.le_refl _, by omega, ⟨by simp; omega, fun z hm => hz z (List.mem_of_mem_take hm)⟩, some ⟨b, o, none⟩, 2000, c, heap_alloc_new _ _, ?_⟩, (Below.refl _ _).alloc (Nat.le_refl _) _⟩
    refine ⟨by simp; omega, by omega, by unfold maxLen; omega, fun _ => ⟨b, o, rfl, hb, fun j u hu => ?_⟩⟩
    rw [World.cell?_alloc_lt w _ _ (by exact hb)]
    refine Hc.out j u ?_
    rw [List.map_take, List.getElem?_take] at hu
    split at hu
    · exact hu
    · cases hu
/-! ### some text -/
def SomeText (B R : Nat) (zs : List Int) (w : World) (p most : Nat) (e : Ending) (w' : World) : Prop :=
  ∃ (l : List UInt8) (q : Nat), e = .returned (.string ⟨l.toArray⟩) ∧ l.length ≤ most + 1 ∧ q ≤ p + 100 ∧ Rdr w' B R zs q ∧ w.grownBy w' (some R)
set_option maxHeartbeats 1000000 in
theorem someText_any (B R : Nat) (zs : List Int) (p most : Nat) (w : World) (hR : Rdr w B R zs p) (hp : p + 100 ≤ 1099511627776) (hmost : most ≤ 1000) :
    Calls Try.prog 73 #[.pointer (some ⟨R, 0, none⟩), .int .i64 most] w (SomeText B R zs w p most) := by
  have hlt := hR.lt
  go_enter Try.func73, Try.ntmps73
  go_wp2_with fail
  refine (one_any B R zs p _ 5 5 [2, 2, 3, 4, 1] _ (hR.alloc _) (by omega) (rd_lit _ _ _ 5 _ rfl rfl (by omega)) (by omega) (by omega) (fun b o e => by injection e with e; injection e with e1 e2; omega)).mono ?_
  rintro e w1 ⟨kinds, hk, rfl, hR1, hg1⟩
  have hk1 : 1 ≤ kinds ∧ kinds ≤ 4 := by simp at hk; omega
  obtain ⟨hk1a, hk1b⟩ := hk1
  have hG1 : w.grownBy w1 (some R) := grown_trans (grown_alloc (grown_refl w _) _) hg1
  have hlt1 := hR1.lt
  clear hk hg1
  go_wp2_with fail
  refine (one_any B R zs (p + 1) _ 10 10 [8, 12, 6, 5, 10, 3, 20, 1, 0, 40] _ (hR1.alloc _) (by omega) (rd_lit _ _ _ 10 _ rfl rfl (by omega)) (by omega) (by omega) (fun b o e => by injection e with e; injection e with e1 e2; omega)).mono ?_
  rintro e w2 ⟨rounds, hn, rfl, hR2, hg2⟩
  have hn1 : 0 ≤ rounds ∧ rounds ≤ 40 := by simp at hn; omega
  obtain ⟨hn1a, hn1b⟩ := hn1
  have hG2 : w.grownBy w2 (some R) := grown_trans hG1 (grown_trans (grown_alloc (grown_refl w1 _) _) hg2)
  clear hn hg2 hG1
  obtain ⟨r0, rfl⟩ := Int.eq_ofNat_of_zero_le hn1a
  go_wp2_with fail
  go_loopw [5, 7] (fun s t wr => ∃ (l : List UInt8) (r q : Nat), s = .string ⟨l.toArray⟩ ∧ t = .int .i64 r ∧ l.length ≤ most + 4 ∧ r ≤ 40 ∧ q + 2 * r ≤ p + 2 + 80 ∧ Rdr wr B R zs q ∧ w.grownBy wr (some R)) (fun _ t _ => (intOf t).toNat)
  case atStart => exact ⟨[], r0, p + 1 + 1, rfl, rfl, by simp, by omega, by omega, hR2, hG2⟩
  case round =>
    obtain ⟨l, r, q, rfl, rfl, hl, hr, hq, hRr, hGr⟩ := hrel
    by_cases h1 : 0 < r ∧ l.length < most
    · obtain ⟨h1a, h1b⟩ := h1
      go_wp2_with fail
      refine (pick_any B R zs q kinds _ hRr (by omega) (by omega) (by omega)).mono ?_
      rintro e w3 ⟨v, rfl, hv, _, hR3, hg3⟩
      have hv4 : v < 4 := by have := hv (by omega); omega
      have hG3 := grown_trans hGr hg3
      clear hv hg3
      obtain ⟨ll, hll⟩ : ∃ ll, ll = l ++ List.take 1 (List.take (4 - v) (List.drop v [97, 98, 99, 100])) := ⟨_, rfl⟩
      have hlll : ll.length ≤ l.length + 1 := by rw [hll]; simp; omega
      go_wp2_with fail
      · rw [← hll]
        have Hll := Lib.hid hll
        clear hll
        refine (pick_any B R zs (q + 1) 8 _ hR3 (by omega) (by omega) (by omega)).mono ?_
        rintro e w4 ⟨v2, rfl, hv2, _, hR4, hg4⟩
        have hG4 := grown_trans hG3 hg4
        clear hv2 hg4
        by_cases hz : v2 = 0
        · subst hz
          go_wp2_with fail
          go_roundw
          case rel => exact ⟨_, r - 1, q + 1 + 1, rfl, by go_num, by simp; omega, by omega, by omega, hR4, hG4⟩
          case measure => simp [intOf]; omega
        · go_wp2_with fail
          go_roundw
          case rel => exact ⟨_, r - 1, q + 1 + 1, rfl, by go_num, by omega, by omega, by omega, hR4, hG4⟩
          case measure => simp [intOf]; omega
      · rw [← hll]
        have Hll := Lib.hid hll
        clear hll
        go_roundw
        case rel => exact ⟨_, r - 1, q + 1, rfl, by go_num, by omega, by omega, by omega, hR3, hG3⟩
        case measure => simp [intOf]; omega
    · by_cases hlong : (most : Int) < (l.length : Int)
      · by_cases hr0 : 0 < r
        all_goals
          go_wp2_with fail
          refine (pick_any B R zs q 24 _ hRr (by omega) (by omega) (by omega)).mono ?_
          rintro e w3 ⟨v, rfl, hv, _, hR3, hg3⟩
          have hG3 := grown_trans hGr hg3
          have hlt3 := hR3.lt
          clear hv hg3
          by_cases hz : v = 0
          · subst hz
            go_wp2_with fail
            refine (of_any B R zs (q + 1) _ 3 3 [[101], [65], [32]] _ (hR3.alloc _) (by omega) (rd_lit _ _ _ 3 _ rfl rfl (by omega)) (by omega) (by omega) (fun b o e => by injection e with e; injection e with e1 e2; omega)).mono ?_
            rintro e w4 ⟨x, hx, rfl, hR4, hg4⟩
            have hx1 : x.length = 1 := by
              simp at hx
              rcases hx with rfl | rfl | rfl <;> rfl
            have hxl : x.length ≤ 1 := by omega
            have hG4 := grown_trans hG3 (grown_trans (grown_alloc (grown_refl w3 _) _) hg4)
            clear hx hx1 hg4
            go_wp2_with fail
            go_ret
            exact ⟨_, q + 1 + 1, rfl, by simp; omega, by omega, hR4, hG4⟩
          · go_wp2_with fail
            go_ret
            exact ⟨_, q + 1, rfl, by simp; omega, by omega, hR3, hG3⟩
      · by_cases hr0 : 0 < r
        all_goals
          go_wp2_with fail
          refine (pick_any B R zs q 24 _ hRr (by omega) (by omega) (by omega)).mono ?_
          rintro e w3 ⟨v, rfl, hv, _, hR3, hg3⟩
          have hG3 := grown_trans hGr hg3
          have hlt3 := hR3.lt
          clear hv hg3
          by_cases hz : v = 0
          · subst hz
            go_wp2_with fail
            refine (of_any B R zs (q + 1) _ 3 3 [[101], [65], [32]] _ (hR3.alloc _) (by omega) (rd_lit _ _ _ 3 _ rfl rfl (by omega)) (by omega) (by omega) (fun b o e => by injection e with e; injection e with e1 e2; omega)).mono ?_
            rintro e w4 ⟨x, hx, rfl, hR4, hg4⟩
            have hx1 : x.length = 1 := by
              simp at hx
              rcases hx with rfl | rfl | rfl <;> rfl
            have hxl : x.length ≤ 1 := by omega
            have hG4 := grown_trans hG3 (grown_trans (grown_alloc (grown_refl w3 _) _) hg4)
            clear hx hx1 hg4
            go_wp2_with fail
            go_ret
            exact ⟨_, q + 1 + 1, rfl, by simp; omega, by omega, hR4, hG4⟩
          · go_wp2_with fail
            go_ret
            exact ⟨_, q + 1, rfl, by omega, by omega, hR3, hG3⟩
/-! ### some words -/
theorem Try.infoGenS : (Try.prog.info? 9).map (fun i => (i.zero, i.size, i.bytes)) = some (some (.string ⟨#[]⟩), 1, 16) := by kernel_rfl
def Short (ws : List (List UInt8)) (k : Nat) : Prop := ∀ x ∈ ws, x.length ≤ k
theorem Short.snoc {ws : List (List UInt8)} {x : List UInt8} {k : Nat} (h : Short ws k) (hx : x.length ≤ k) : Short (ws ++ [x]) k := by
  intro y hy
  rw [List.mem_append] at hy
  rcases hy with hy | hy
  · exact h y hy
  · simp at hy; subst hy; exact hx
def SomeWords (B R : Nat) (zs : List Int) (w : World) (p : Nat) (e : Ending) (w' : World) : Prop :=
  ∃ (A : Option Addr) (n c : Nat) (ws : List (List UInt8)) (q : Nat), e = .returned (.slice A n c) ∧ Own w' w.heap.size 9 A n c (ws.map S) ∧ Short ws 100 ∧ n ≤ 7 ∧ q ≤ p + 2000 ∧ Rdr w' B R zs q ∧ w.grownBy w' (some R)
theorem grown_app {a w w' : World} {R : Nat} {e : TypeId} {A : Option Addr} {n c : Nat} {xs : List Value} {o : Obj} (hlt : R < a.heap.size) (hg : a.grownBy w (some R)) (hrow : Row w a.heap.size e A n c xs) (hg2 : (w.alloc o).grownBy w' (Value.slice A n c).ownBlock) : a.grownBy w' (some R) := by
  refine ⟨hg2.os.trans hg.os, hg2.tape.trans hg.tape, hg2.output.trans hg.output, Nat.le_trans hg.size (Nat.le_trans (by simp) hg2.size), fun i hi hne => ?_⟩
  have h1 : i < w.heap.size := Nat.lt_of_lt_of_le hi hg.size
  rw [hg2.block i (by simp; omega) (fun e => by have := (World.ownsRow.lt hrow i e.symm).1; omega)]
  exact (Below.heap_alloc w o i h1).trans (hg.block i hi hne)
/-! ### the draws of words -/
/-- Words that were drawn: some list of its own; what was there is as it was. -/
def DrawnWords (w : World) (e : Ending) (w' : World) : Prop :=
  ∃ (A : Option Addr) (n c : Nat) (ws : List (List UInt8)), e = .returned (.slice A n c) ∧ Own w' w.heap.size 9 A n c (ws.map S) ∧ Short ws 100 ∧ n ≤ 7 ∧ Below w.heap.size w w'
theorem grown_bel {a b c : World} {R : Nat} (h : Below a.heap.size a b) (hR : a.heap.size ≤ R) (k : b.grownBy c (some R)) : Below a.heap.size a c :=
  h.grown k h.size (fun j e => by cases e; exact hR)
end Go.Proofs.Ytfbmcfdmffpfmaa
