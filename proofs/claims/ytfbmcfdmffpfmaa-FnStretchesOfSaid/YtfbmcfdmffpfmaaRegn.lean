/-
  Regions that draw their order and append: laws of a step, and what is kept.
-/
import Derived.Test.YtfbmcfdmffpfmaaArr
import Derived.Deep.QuietTactic
import Derived.BigQuiet
import Derived.Deep.RegionHeld3
import Derived.Deep.AppendLies
namespace Go.Proofs.Ytfbmcfdmffpfmaa
open Go.RowKit
set_option linter.unusedVariables false
set_option linter.unusedSimpArgs false

theorem Row.form {w : World} {B : Nat} {e : TypeId} {v : Value} {n : Nat} {xs : List Value} (h : w.ownsRow B e 1 v n xs) : ∃ A c, v = .slice A n c := by
  obtain ⟨_, ⟨rfl, rfl⟩ | ⟨g, cap, cur, rfl, _⟩⟩ := h
  · exact ⟨_, _, rfl⟩
  · exact ⟨_, _, rfl⟩
/-- Append onto a row of the call's own, whatever is appended: at a step of a region that draws its order. -/
theorem step_app {P : Program} (w : World) {ops : Array Oper} {o : Oper} {a : Act} {K : Act → World → Prop} {Q : Exit → Act → World → Prop} {E : Prop} (hgd : o.guard = none) (s x : Operand) (t : TypeId)
    (ho : o.op = .call { callee := .builtin .append, args := #[s, x], argTypes := #[t, t] })
    (B : Nat) (e : TypeId) (i : TypeInfo) (z : Value) (bytes : Nat) (ht : P.underlying t = some (.slice e)) (hi : P.info? e = some i) (hz : i.zero = some z)
    (hsize : i.size = 1) (hby : i.bytes = bytes) (hzs : z.cells.size = 1)
    (A : Option Addr) (n c : Nat) (xs : List Value) (hs : a.eval s = .slice A n c) (hown : Row w B e A n c xs)
    (ad : Addr) (m cm : Nat) (news : List Value) (hx : a.eval x = .slice (some ad) m cm) (hl : news.length = m) (hnews : ∀ j u, news[j]? = some u → w.cell? (ad.add j) = some u) (h1 : ∀ u ∈ news, u.oneCell' = true)
    (k : Nat) (hk : n + m = k) (hn : k ≤ 4398046511104) (hbytes : bytes ≤ 32) (hbase : B ≤ w.heap.size)
    (h : ∀ A' c' w', Row w' B e A' k c' (xs ++ news) → w.grownBy w' (Value.slice A n c).ownBlock → K (a.put o.dst (.slice A' k c')) w') :
    if Region.wanted o (yielded ops a.tmps) = true then Oper.wp P o a w K Q else E := by
  subst hk
  have hw : Region.wanted o (yielded ops a.tmps) = true := by simp [Region.wanted, hgd]
  rw [if_pos hw]
  have hb2 : (n + m) * bytes ≤ 140737488355328 := by
    calc (n + m) * bytes ≤ (n + m) * 32 := Nat.mul_le_mul_left _ hbytes
      _ ≤ 140737488355328 := by omega
  obtain ⟨v', w', hr, h2, h3, _, _⟩ := run_append_own_at (P := P) w B t o.type e i z 1 bytes ht hi hz hsize hby hzs (by omega) _ n xs hown ad m cm news (by rw [hl, Nat.mul_one]) hnews h1 (by unfold maxLen; omega) hb2 hbase
  obtain ⟨A', c', rfl⟩ := Row.form h2
  unfold Oper.wp execOp
  simp only [ho, resolve, invoke, builtin, Sem.run_bind, Sem.run_pure, Result.andThen_ok, List.map_toArray, List.map_cons, List.map_nil, hs, hx, hr]
  exact h A' c' w' h2 h3
/-- A row in a block that is known: a literal. -/
theorem Row.of_block {w : World} {B g : Nat} {e : TypeId} (cs : Array Value) (n : Nat) (hg : w.heap[g]? = some (.cells cs e (0, 0))) (hB : B ≤ g) (hn : cs.size = n) (hm : n ≤ 1000000) : Row w B e (some ⟨g, 0, none⟩) n n cs.toList := by
  refine ⟨by simpa using hn, .inr ⟨g, n, cs, rfl, hB, hg, Nat.le_refl _, by unfold maxLen; omega, by simpa using hn, ?_⟩⟩
  rw [List.take_of_length_le]
  simp <;> omega
theorem heap_al (w : World) (o : Obj) (k : Nat) : (w.alloc o).heap[k]? = if k = w.heap.size then some o else w.heap[k]? := by
  show (w.heap.push o)[k]? = _
  rw [Array.getElem?_push]
theorem heap_al0 (w : World) (o : Obj) : (w.alloc o).heap[w.heap.size]? = some o := heap_alloc_new w o
theorem heap_al1 (w : World) (o o' : Obj) : ((w.alloc o).alloc o').heap[w.heap.size]? = some o := by rw [heap_al, if_neg (by simp), heap_al0]
theorem heap_al2 (w : World) (o o' : Obj) : ((w.alloc o).alloc o').heap[w.heap.size + 1]? = some o' := by rw [heap_al, if_pos (by simp)]
theorem block_far {w w' : World} {row : Option Nat} {o : Obj} {k : Nat} (hg : w.grownBy w' row) (h : w.heap[k]? = some o) (hne : some k ≠ row) : w'.heap[k]? = some o := (hg.block k (Array.getElem?_eq_some_iff.1 h).1 hne).trans h
theorem own_ne {g n c k : Nat} (h : k ≠ g) : some k ≠ (Value.slice (some ⟨g, 0, none⟩) n c).ownBlock := by
  intro hk
  have : k = g := by simpa [Value.ownBlock] using hk
  exact h this
/-- What a region has kept: all below N is as it was. -/
theorem kp_alloc {N : Nat} {w0 w : World} (o : Obj) (h : Below N w0 w) (hN : N ≤ w0.heap.size) : Below N w0 (w.alloc o) := h.alloc (Nat.le_trans hN h.size) o
theorem kp_grown {N : Nat} {w0 w w' : World} {row : Option Nat} (h : Below N w0 w) (hN : N ≤ w0.heap.size) (hg : w.grownBy w' row) (hr : ∀ k, row = some k → N ≤ k) : Below N w0 w' := h.grown hg (Nat.le_trans hN h.size) hr
theorem row_ge {w : World} {B : Nat} {e : TypeId} {A : Option Addr} {n c : Nat} {xs : List Value} (h : Row w B e A n c xs) : ∀ k, (Value.slice A n c).ownBlock = some k → B ≤ k := fun k hk => (World.ownsRow.lt h k hk).1
theorem own_ge {N g n c : Nat} (h : N ≤ g) : ∀ k, (Value.slice (some ⟨g, 0, none⟩) n c).ownBlock = some k → N ≤ k := by
  intro k hk
  have : g = k := by simpa [Value.ownBlock] using hk
  omega
theorem kp_size {N : Nat} {w0 w : World} (h : Below N w0 w) : w0.heap.size ≤ w.heap.size := h.size
theorem kp_one {N : Nat} {w0 w' : World} {a : Addr} {v : Value} (hc : w0.cell? a = some v) (ha : a.block < N) (h : Below N w0 w') : w'.cell? a = some v ∧ Below N w0 w' := ⟨(h.cell ha).trans hc, h⟩
theorem kp_two {N : Nat} {w0 w' : World} {a a2 : Addr} {v v2 : Value} (hc : w0.cell? a = some v) (ha : a.block < N) (hc2 : w0.cell? a2 = some v2) (ha2 : a2.block < N) (h : Below N w0 w') : w'.cell? a = some v ∧ w'.cell? a2 = some v2 ∧ Below N w0 w' := ⟨(h.cell ha).trans hc, (h.cell ha2).trans hc2, h⟩
theorem Row.drew_ {w : World} {B : Nat} {e : TypeId} {A : Option Addr} {n c : Nat} {xs : List Value} (h : Row w B e A n c xs) : Row w.drew B e A n c xs := h
theorem kp_cell {N : Nat} {w0 w : World} {a : Addr} {v : Value} (h : Below N w0 w) (ha : a.block < N) (hc : w0.cell? a = some v) : w.cell? a = some v := (h.cell ha).trans hc
theorem rd_front {w0 w : World} {N g j c' q : Nat} {xs : List Value} (h : Rd w0 N (some ⟨g, 0, none⟩) j c' xs) (hb : Below N w0 w) : ∀ i u, (xs.take q)[i]? = some u → w.cell? ((⟨g, 0, none⟩ : Addr).add i) = some u := by
  intro i u hu
  obtain ⟨h1, h2, h3, h4⟩ := h
  rw [List.getElem?_take] at hu
  split at hu
  · have hlt : i < xs.length := (List.getElem?_eq_some_iff.1 hu).1
    obtain ⟨b, o, e, hb', hc⟩ := h4 (by omega)
    injection e with e
    injection e with e1 e2
    subst e1 e2
    have hadd : (⟨g, 0, none⟩ : Addr).add i = ⟨g, 0 + i, none⟩ := by unfold Addr.add; split <;> simp_all
    rw [hadd]
    exact (hb.cell (p := ⟨g, 0 + i, none⟩) hb').trans (hc i u hu)
  · cases hu
theorem rd_back {w0 w : World} {N g j c' q : Nat} {xs : List Value} (h : Rd w0 N (some ⟨g, 0, none⟩) j c' xs) (hb : Below N w0 w) : ∀ i u, (xs.drop q)[i]? = some u → w.cell? ((⟨g, q, none⟩ : Addr).add i) = some u := by
  intro i u hu
  obtain ⟨h1, h2, h3, h4⟩ := h
  rw [List.getElem?_drop] at hu
  have hlt : q + i < xs.length := (List.getElem?_eq_some_iff.1 hu).1
  obtain ⟨b, o, e, hb', hc⟩ := h4 (by omega)
  injection e with e
  injection e with e1 e2
  subst e1 e2
  have hadd : (⟨g, q, none⟩ : Addr).add i = ⟨g, 0 + (q + i), none⟩ := by unfold Addr.add; split <;> simp_all
  rw [hadd]
  exact (hb.cell (p := ⟨g, 0 + (q + i), none⟩) hb').trans (hc (q + i) u hu)
theorem rd_back2 {w0 w : World} {N g j c' q : Nat} {xs : List Value} (h : Rd w0 N (some ⟨g, 0, none⟩) j c' xs) (hb : Below N w0 w) : ∀ i u, (xs.drop q)[i]? = some u → w.cell? ((if c' = q then (⟨g, 0, none⟩ : Addr) else ⟨g, q, none⟩).add i) = some u := by
  intro i u hu
  split
  · next he =>
    have h1 := h.1
    have h2 := h.2.1
    rw [List.drop_of_length_le (by omega)] at hu
    cases hu
  · exact rd_back h hb i u hu
theorem slice_if {p : Prop} [Decidable p] {a b : Addr} {n c : Nat} : Value.slice (if p then some a else some b) n c = .slice (some (if p then a else b)) n c := by
  split <;> rfl
theorem one_front (xs : List Value) (q : Nat) (h : ∀ u ∈ xs, u.oneCell' = true) : ∀ u ∈ xs.take q, u.oneCell' = true := fun u hu => h u (List.mem_of_mem_take hu)
theorem one_back (xs : List Value) (q : Nat) (h : ∀ u ∈ xs, u.oneCell' = true) : ∀ u ∈ xs.drop q, u.oneCell' = true := fun u hu => h u (List.mem_of_mem_drop hu)
theorem oneI (l : List Int) : ∀ u ∈ l.map I, u.oneCell' = true := by
  intro u hu
  obtain ⟨x, _, rfl⟩ := List.mem_map.1 hu
  rfl
theorem oneS (l : List (List UInt8)) : ∀ u ∈ l.map S, u.oneCell' = true := by
  intro u hu
  obtain ⟨x, _, rfl⟩ := List.mem_map.1 hu
  rfl
theorem len_front {xs : List Value} {j q : Nat} (h : xs.length = j) (hq : q ≤ j) : (xs.take q).length = q := by rw [List.length_take]; omega
theorem len_back {xs : List Value} {j q : Nat} (h : xs.length = j) : (xs.drop q).length = j - q := by rw [List.length_drop, h]
end Go.Proofs.Ytfbmcfdmffpfmaa
