/-
  Words that all walks of this seat use: texts as lists of bytes, slices that are read, slices that a call has made, endings.
-/
import Derived.Test.YtfbmcfdmffpfmaaProg
import Derived.WalkKit
import Derived.WalkLawsBesides
import Derived.WalkSpells
import Derived.Lib.Hide
import Derived.Maps.AppendAt
namespace Go.Proofs.Ytfbmcfdmffpfmaa
open Go.RowKit

/-! ### endings -/
theorem ret_bool {a b : Bool} (h : a = b) : Ending.returned (.bool a) = .returned (.bool b) := by rw [h]
theorem ret_int {a b : Int} (h : a = b) : Ending.returned (.int .i64 a) = .returned (.int .i64 b) := by rw [h]
theorem ret_str {a b : List UInt8} (h : a = b) : Ending.returned (.string ⟨a.toArray⟩) = .returned (.string ⟨b.toArray⟩) := by rw [h]

/-! ### texts: a Go string is written '.string ⟨l.toArray⟩' throughout -/
def S (l : List UInt8) : Value := .string ⟨l.toArray⟩
def I (n : Int) : Value := .int .i64 n
@[go_sem] theorem ba_get (l : List UInt8) (k : Nat) (h : k < l.length) : (⟨l.toArray⟩ : ByteArray)[k]'h = l[k] := rfl
@[go_sem] theorem ba_extract (l : List UInt8) (a b : Nat) : (⟨l.toArray⟩ : ByteArray).extract a b = ⟨((l.drop a).take (b - a)).toArray⟩ := ByteArray.extract_mk l a b
@[go_sem] theorem ba_append (x y : List UInt8) : (⟨x.toArray⟩ ++ ⟨y.toArray⟩ : ByteArray) = ⟨(x ++ y).toArray⟩ := ByteArray.mk_append_mk x y
theorem ba_mk (s : ByteArray) : s = ⟨s.data.toList.toArray⟩ := by cases s; simp
theorem ba_str (s : ByteArray) : Value.string s = .string ⟨s.data.toList.toArray⟩ := by rw [← ba_mk]

/-! ### slices that are read: '.slice A n c' holds the cells xs, all of them in blocks below B -/
def Rd (w : World) (B : Nat) (A : Option Addr) (n c : Nat) (xs : List Value) : Prop :=
  xs.length = n ∧ n ≤ c ∧ c ≤ maxLen ∧ (0 < n → ∃ b o, A = some ⟨b, o, none⟩ ∧ b < B ∧ ∀ j u, xs[j]? = some u → w.cell? ⟨b, o + j, none⟩ = some u)

theorem Rd.keep {w w' : World} {B : Nat} {A : Option Addr} {n c : Nat} {xs : List Value} (h : Rd w B A n c xs) (hk : ∀ p : Addr, p.block < B → w'.cell? p = w.cell? p) : Rd w' B A n c xs :=
  ⟨h.1, h.2.1, h.2.2.1, fun hn => by
    obtain ⟨b, o, e, hb, hc⟩ := h.2.2.2 hn
    exact ⟨b, o, e, hb, fun j u hu => (hk ⟨b, o + j, none⟩ hb).trans (hc j u hu)⟩⟩
theorem Rd.more {w : World} {B B' : Nat} {A : Option Addr} {n c : Nat} {xs : List Value} (h : Rd w B A n c xs) (hB : B ≤ B') : Rd w B' A n c xs :=
  ⟨h.1, h.2.1, h.2.2.1, fun hn => by
    obtain ⟨b, o, e, hb, hc⟩ := h.2.2.2 hn
    exact ⟨b, o, e, Nat.lt_of_lt_of_le hb hB, hc⟩⟩
theorem Rd.below {w w' : World} {B : Nat} {A : Option Addr} {n c : Nat} {xs : List Value} (h : Rd w B A n c xs) (hb : Below B w w') : Rd w' B A n c xs := h.keep fun _ hp => hb.cell hp
theorem Rd.below' {w w' : World} {B B' : Nat} {A : Option Addr} {n c : Nat} {xs : List Value} (h : Rd w B A n c xs) (hb : Below B' w w') (hB : B ≤ B') : Rd w' B A n c xs := h.keep fun _ hp => hb.cell (Nat.lt_of_lt_of_le hp hB)
theorem Rd.alloc {w : World} {B : Nat} {A : Option Addr} {n c : Nat} {xs : List Value} (h : Rd w B A n c xs) (hB : B ≤ w.heap.size) (o : Obj) : Rd (w.alloc o) B A n c xs := h.keep fun p hp => World.cell?_alloc_lt w o p (Nat.lt_of_lt_of_le hp hB)
theorem Rd.len {w : World} {B : Nat} {A : Option Addr} {n c : Nat} {xs : List Value} (h : Rd w B A n c xs) : xs.length = n := h.1
/-- At an index within. -/
theorem Rd.at_ {w : World} {B : Nat} {A : Option Addr} {n c : Nat} {xs : List Value} (h : Rd w B A n c xs) {k : Nat} (hk : k < n) :
    ∃ b o, A = some ⟨b, o, none⟩ ∧ b < B ∧ w.cell? ⟨b, o + k, none⟩ = some (xs[k]'(by rw [h.1]; exact hk)) := by
  obtain ⟨b, o, e, hb, hc⟩ := h.2.2.2 (by omega)
  exact ⟨b, o, e, hb, hc k _ (List.getElem?_eq_getElem _)⟩

/-- A slice of texts, of numbers, at an index within. -/
theorem Rd.str {w : World} {B : Nat} {A : Option Addr} {n c : Nat} {ws : List (List UInt8)} (h : Rd w B A n c (ws.map S)) {k : Nat} (hk : k < n) :
    ∃ b o x, A = some ⟨b, o, none⟩ ∧ b < B ∧ ws[k]? = some x ∧ w.cell? ⟨b, o + k, none⟩ = some (.string ⟨x.toArray⟩) := by
  obtain ⟨b, o, e, hb, hc⟩ := h.at_ hk
  have hl : k < ws.length := by have := h.1; simp at this; omega
  exact ⟨b, o, ws[k], e, hb, List.getElem?_eq_getElem hl, by rw [hc]; simp [S]⟩
theorem Rd.int {w : World} {B : Nat} {A : Option Addr} {n c : Nat} {zs : List Int} (h : Rd w B A n c (zs.map I)) {k : Nat} (hk : k < n) :
    ∃ b o x, A = some ⟨b, o, none⟩ ∧ b < B ∧ zs[k]? = some x ∧ w.cell? ⟨b, o + k, none⟩ = some (.int .i64 x) := by
  obtain ⟨b, o, e, hb, hc⟩ := h.at_ hk
  have hl : k < zs.length := by have := h.1; simp at this; omega
  exact ⟨b, o, zs[k], e, hb, List.getElem?_eq_getElem hl, by rw [hc]; simp [I]⟩
theorem Rd.str_at {w : World} {B b o n c : Nat} {ws : List (List UInt8)} (h : Rd w B (some ⟨b, o, none⟩) n c (ws.map S)) {k : Nat} (hk : k < n) :
    ∃ x, ws[k]? = some x ∧ w.cell? ⟨b, o + k, none⟩ = some (.string ⟨x.toArray⟩) := by
  obtain ⟨b', o', x, e, _, hx, hc⟩ := h.str hk
  injection e with e
  injection e with e1 e2
  subst e1 e2
  exact ⟨x, hx, hc⟩
theorem Rd.int_at {w : World} {B b o n c : Nat} {zs : List Int} (h : Rd w B (some ⟨b, o, none⟩) n c (zs.map I)) {k : Nat} (hk : k < n) :
    ∃ x, zs[k]? = some x ∧ w.cell? ⟨b, o + k, none⟩ = some (.int .i64 x) := by
  obtain ⟨b', o', x, e, _, hx, hc⟩ := h.int hk
  injection e with e
  injection e with e1 e2
  subst e1 e2
  exact ⟨x, hx, hc⟩
theorem Rd.drewN {w : World} {B : Nat} {A : Option Addr} {n c : Nat} {xs : List Value} (h : Rd w B A n c xs) (m : Nat) : Rd (w.drewN m) B A n c xs := h
theorem Rd.take_ {w : World} {B : Nat} {A : Option Addr} {n c : Nat} {xs : List Value} (h : Rd w B A n c xs) {m : Nat} (hm : m ≤ n) : Rd w B A m c (xs.take m) := by
  obtain ⟨h1, h2, h3, h4⟩ := h
  refine ⟨by rw [List.length_take]; omega, by omega, h3, fun hp => ?_⟩
  obtain ⟨b, o, e, hb, hc⟩ := h4 (by omega)
  refine ⟨b, o, e, hb, fun j u hu => hc j u ?_⟩
  rw [List.getElem?_take] at hu
  split at hu
  · exact hu
  · cases hu
theorem Rd.slen {w : World} {B : Nat} {A : Option Addr} {n c : Nat} {ws : List (List UInt8)} (h : Rd w B A n c (ws.map S)) : ws.length = n := by have := h.1; simpa using this
theorem Rd.ilen {w : World} {B : Nat} {A : Option Addr} {n c : Nat} {zs : List Int} (h : Rd w B A n c (zs.map I)) : zs.length = n := by have := h.1; simpa using this

/-! ### slices that a call has made: a row of its own from block B on, its first cells xs -/
def Own (w : World) (B : Nat) (e : TypeId) (A : Option Addr) (n c : Nat) (xs : List Value) : Prop :=
  xs.length = n ∧ n ≤ c ∧ c ≤ maxLen ∧ (0 < n → ∃ g cur, A = some ⟨g, 0, none⟩ ∧ B ≤ g ∧ w.heap[g]? = some (.cells cur e (0, 0)) ∧ cur.toList.take n = xs)

theorem Own.of_row {w : World} {B : Nat} {e : TypeId} {A : Option Addr} {n c m : Nat} {xs : List Value} (h : w.ownsRow B e 1 (.slice A n c) m xs) : Own w B e A n c xs := by
  obtain ⟨h1, h2 | ⟨g, cap, cur, hv, hg, hh, hn, hc, hs, ht⟩⟩ := h
  · obtain ⟨hv, rfl⟩ := h2
    injection hv with ha hb hc
    subst ha hb hc
    exact ⟨by simpa using h1, Nat.le_refl _, by unfold maxLen; omega, fun h => absurd h (by omega)⟩
  · injection hv with ha hb hcc
    subst ha hb hcc
    exact ⟨by simpa using h1, hn, hc, fun _ => ⟨g, cur, rfl, hg, hh, by simpa using ht⟩⟩
theorem Own.block_lt {w : World} {B : Nat} {e : TypeId} {A : Option Addr} {n c : Nat} {xs : List Value} (_ : Own w B e A n c xs) {g : Nat} {o : Obj} (hh : w.heap[g]? = some o) : g < w.heap.size := (Array.getElem?_eq_some_iff.1 hh).1
theorem Own.rd {w : World} {B : Nat} {e : TypeId} {A : Option Addr} {n c : Nat} {xs : List Value} (h : Own w B e A n c xs) : Rd w w.heap.size A n c xs :=
  ⟨h.1, h.2.1, h.2.2.1, fun hn => by
    obtain ⟨g, cur, e, hb, hh, ht⟩ := h.2.2.2 hn
    refine ⟨g, 0, e, h.block_lt hh, fun j u hu => ?_⟩
    rw [Nat.zero_add, cell_of_row w g j cur _ (0, 0) hh]
    rw [← ht, List.getElem?_take] at hu
    split at hu
    · simpa using hu
    · cases hu⟩
theorem Own.below {w w' : World} {B B' : Nat} {e : TypeId} {A : Option Addr} {n c : Nat} {xs : List Value} (h : Own w B e A n c xs) (hb : Below B' w w') (hB : w.heap.size ≤ B') : Own w' B e A n c xs :=
  ⟨h.1, h.2.1, h.2.2.1, fun hn => by
    obtain ⟨g, cur, e, hg, hh, ht⟩ := h.2.2.2 hn
    exact ⟨g, cur, e, hg, (hb.block g (Nat.lt_of_lt_of_le (h.block_lt hh) hB)).trans hh, ht⟩⟩
theorem Own.more {w : World} {B B' : Nat} {e : TypeId} {A : Option Addr} {n c : Nat} {xs : List Value} (h : Own w B e A n c xs) (hB : B' ≤ B) : Own w B' e A n c xs :=
  ⟨h.1, h.2.1, h.2.2.1, fun hn => by
    obtain ⟨g, cur, e, hg, hh, ht⟩ := h.2.2.2 hn
    exact ⟨g, cur, e, Nat.le_trans hB hg, hh, ht⟩⟩
theorem Own.clip {w : World} {B : Nat} {e : TypeId} {A : Option Addr} {n c : Nat} {xs : List Value} (h : Own w B e A n c xs) : Own w B e A n n xs :=
  ⟨h.1, Nat.le_refl _, Nat.le_trans h.2.1 h.2.2.1, h.2.2.2⟩

/-- The ending of a call that hands back a slice of its own: xs, cells of type e, and what was there is as it was. -/
def RetRow (w : World) (t : TypeId) (xs : List Value) (e : Ending) (w' : World) : Prop :=
  ∃ A n c, e = .returned (.slice A n c) ∧ Own w' w.heap.size t A n c xs ∧ Below w.heap.size w w'
/-- The ending of a call that hands back a plain value, and what was there is as it was. -/
def RetVal (w : World) (v : Value) (e : Ending) (w' : World) : Prop := e = .returned v ∧ Below w.heap.size w w'

/-! ### small laws on frames -/
theorem bel_cells {B : Nat} {W w1 : World} (hb : Below B W w1) : (∀ b o, b < B → w1.cell? ⟨b, o, none⟩ = W.cell? ⟨b, o, none⟩) ∧ (∀ b o, b < B → w1.frozen? ⟨b, o, none⟩ = W.frozen? ⟨b, o, none⟩) :=
  ⟨fun b o h => hb.cell (p := ⟨b, o, none⟩) h, fun b o h => hb.frozen (p := ⟨b, o, none⟩) h⟩
theorem bel_drewN {B : Nat} {a w : World} (h : Below B a w) (n : Nat) : Below B a (w.drewN n) := ⟨h.os, h.tape, h.output, h.size, h.block⟩
theorem bel_iter {B : Nat} {a : World} (w : World) (hab : Below B a w) (hB : B ≤ w.heap.size) (s : ByteArray) (p : Nat) : Below B a (w.iter s p) := by
  unfold World.iter
  exact hab.alloc hB _
/-- Only draws lie between: w' is w after some draws. -/
def Quiet (w w' : World) : Prop := ∃ m, w' = w.drewN m
theorem Quiet.refl (w : World) : Quiet w w := ⟨0, rfl⟩
theorem Quiet.drewN {a w : World} (h : Quiet a w) (n : Nat) : Quiet a (w.drewN n) := by
  obtain ⟨m, rfl⟩ := h
  exact ⟨m + n, by rw [World.drewN_drewN]⟩
theorem Quiet.bel {a w : World} (h : Quiet a w) (B : Nat) : Below B a w := by
  obtain ⟨m, rfl⟩ := h
  exact bel_drewN (Below.refl _ _) m
theorem Quiet.own {a w : World} (h : Quiet a w) {B : Nat} {e : TypeId} {s : Nat} {v : Value} {n : Nat} {xs : List Value} (ho : a.ownsRow B e s v n xs) : w.ownsRow B e s v n xs := by
  obtain ⟨m, rfl⟩ := h
  exact ho
theorem Quiet.rd {a w : World} (h : Quiet a w) {B : Nat} {A : Option Addr} {n c : Nat} {xs : List Value} (hr : Rd a B A n c xs) : Rd w B A n c xs := by
  obtain ⟨m, rfl⟩ := h
  exact hr
theorem Quiet.size {a w : World} (h : Quiet a w) : w.heap.size = a.heap.size := by
  obtain ⟨m, rfl⟩ := h
  rfl
/-! ### a row of the call's own, and one element more -/
def Row (w : World) (B : Nat) (e : TypeId) (A : Option Addr) (n c : Nat) (xs : List Value) : Prop := w.ownsRow B e 1 (.slice A n c) n xs
theorem Row.own {w : World} {B : Nat} {e : TypeId} {A : Option Addr} {n c : Nat} {xs : List Value} (h : Row w B e A n c xs) : Own w B e A n c xs := Own.of_row h
theorem Row.rd {w : World} {B : Nat} {e : TypeId} {A : Option Addr} {n c : Nat} {xs : List Value} (h : Row w B e A n c xs) : Rd w w.heap.size A n c xs := h.own.rd
theorem Row.alloc {w : World} {B : Nat} {e : TypeId} {A : Option Addr} {n c : Nat} {xs : List Value} (h : Row w B e A n c xs) (o : Obj) : Row (w.alloc o) B e A n c xs := World.ownsRow.alloc h o
theorem Row.kept {w w' : World} {B : Nat} {e : TypeId} {A : Option Addr} {n c : Nat} {xs : List Value} (h : Row w B e A n c xs) (hb : Below w.heap.size w w') : Row w' B e A n c xs :=
  World.ownsRow.kept (row := none) h ⟨hb.os, hb.tape, hb.output, hb.size, fun k hk _ => hb.block k hk⟩ (by cases hv : (Value.slice A n c).ownBlock <;> simp)
theorem Row.quiet {w w' : World} {B : Nat} {e : TypeId} {A : Option Addr} {n c : Nat} {xs : List Value} (h : Row w B e A n c xs) (hq : Quiet w w') : Row w' B e A n c xs := hq.own h
theorem Row.len {w : World} {B : Nat} {e : TypeId} {A : Option Addr} {n c : Nat} {xs : List Value} (h : Row w B e A n c xs) : xs.length = n := by have := h.1; simpa using this
theorem Row.nil_ (w : World) (e : TypeId) : Row (w.alloc (.cells #[] e)) w.heap.size e (some ⟨w.heap.size, 0, none⟩) 0 0 [] := World.ownsRow_lit w #[] 0 (Nat.le_refl _) (by unfold maxLen; omega) rfl
theorem Row.none_ (w : World) (B : Nat) (e : TypeId) : Row w B e none 0 0 [] := World.ownsRow_nil w B e 1
theorem Row.more {w : World} {B B' : Nat} {e : TypeId} {A : Option Addr} {n c : Nat} {xs : List Value} (h : Row w B e A n c xs) (hB : B' ≤ B) : Row w B' e A n c xs := by
  obtain ⟨h1, h2 | ⟨g, cap, cur, hv, hg, r⟩⟩ := h
  · exact ⟨h1, .inl h2⟩
  · exact ⟨h1, .inr ⟨g, cap, cur, hv, Nat.le_trans hB hg, r⟩⟩
/-- Behind a law on append: below the rows of the call's own all is as it was. -/
theorem Row.grown {a w w' : World} {B0 B : Nat} {e : TypeId} {A : Option Addr} {n c : Nat} {xs : List Value} (h : Row w B e A n c xs) (hb : Below B0 a w) (hg : w.grownBy w' (Value.slice A n c).ownBlock) (h0 : B0 ≤ B) (h1 : B0 ≤ w.heap.size) : Below B0 a w' :=
  hb.grown hg h1 fun k hk => Nat.le_trans h0 (World.ownsRow.lt h k hk).1
theorem wpList_app1 {P : Program} (w : World) {ops : Array Oper} {rest : List Oper} {o : Oper} {a : Act} {Q : Exit → Act → World → Prop} (hgd : o.guard = none) (s x : Operand) (t : TypeId)
    (ho : o.op = .call { callee := .builtin .append, args := #[s, x], argTypes := #[t, t] })
    (B : Nat) (e : TypeId) (i : TypeInfo) (z : Value) (bytes : Nat) (ht : P.underlying t = some (.slice e)) (hi : P.info? e = some i) (hz : i.zero = some z)
    (hsize : i.size = 1) (hby : i.bytes = bytes) (hzs : z.cells.size = 1)
    (A : Option Addr) (n c : Nat) (xs : List Value) (hs : a.eval s = .slice A n c) (hown : Row w B e A n c xs)
    (ad : Addr) (u : Value) (hx : a.eval x = .slice (some ad) 1 1) (hnews : ∀ j v, [u][j]? = some v → w.cell? (ad.add j) = some v) (h1 : u.oneCell' = true)
    (hn : n ≤ 4398046511104) (hbytes : bytes ≤ 24) (hbase : B ≤ w.heap.size)
    (h : ∀ A' c' w', Row w' B e A' (n + 1) c' (xs ++ [u]) → w.grownBy w' (Value.slice A n c).ownBlock → wpList P ops Q rest (a.put o.dst (.slice A' (n + 1) c')) w') : wpList P ops Q (o :: rest) a w := by
  refine wpList_append_own w hgd s x t ho B e i z 1 bytes ht hi hz hsize hby hzs (by omega) _ n xs hs hown ad 1 1 [u] hx rfl hnews (by intro v hv; simp at hv; subst hv; exact h1) (by unfold maxLen; omega) ?_ hbase ?_
  · calc (n + 1) * bytes ≤ (n + 1) * 24 := Nat.mul_le_mul_left _ hbytes
      _ ≤ 140737488355328 := by omega
  · intro v' w' h2 h3 _
    have h4 := h2
    obtain ⟨_, ⟨_, h5⟩ | ⟨g, cap, cur, rfl, _⟩⟩ := h4
    · omega
    · exact h _ _ _ h2 h3
end Go.Proofs.Ytfbmcfdmffpfmaa
