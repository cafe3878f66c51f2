/-
  Points with distances: the program's search.
-/
import Derived.Test.YtopmifidhabobaaPlv
import Derived.Test.YtopmifidhabobaaVals
import Derived.Defers
import Derived.Deep.RegionHeld3
namespace Go.Proofs.Ytopmifidhabobaa
open Go.RowKit Go.Sort
set_option linter.unusedVariables false
set_option linter.unusedSimpArgs false

set_option maxRecDepth 8000 in
set_option maxHeartbeats 1600000 in
/-- The deferred call: the last point goes. -/
theorem tryDeferred_any (bx R g n c : Nat) (fv : Value) (u : FrameMode) (w : World) (hbx : w.cell? ⟨bx, 0, none⟩ = some (.pointer (some ⟨R, 0, none⟩))) (hR : w.heap[R]? = some (.cells #[.slice (some ⟨g, 0, none⟩) (n + 1) c, fv] 50 (0, 0))) (hnc : n + 1 ≤ c) (hn : n ≤ 1000) :
    CallsD Try.prog 88 #[.pointer (some ⟨bx, 0, none⟩)] u w fun e u' w' => u' = u ∧ (e = .returned (.tuple #[]) ∧ w' = (w.setCell ⟨R, 0, none⟩ (.slice (some ⟨g, 0, none⟩) n c)).drew) := by
  have hc0 : w.cell? ⟨R, 0, none⟩ = some (.slice (some ⟨g, 0, none⟩) (n + 1) c) := by rw [cell_of_row w R 0 _ _ (0, 0) hR]; rfl
  have hf0 := frozen_of_row w R 0 _ _ hR
  have e0 : IntKind.i64.wrap ((n : Int) + 1 - 1) = (n : Int) := by rw [IntKind.wrap_i64]; omega
  have e1 : ((n : Int) + 1 - 1) = (n : Int) := by omega
  have e2 : IntKind.i64.wrap (n : Int) = (n : Int) := by rw [IntKind.wrap_i64]; omega
  have hcn : ¬ c < n := by omega
  go_enter_d Try.func88, Try.ntmps88
  go_wp2_with fail
  refine wp_region_noPanic ?_
  refine region_plain (fun w' => w'.cell? ⟨bx, 0, none⟩ = some (.pointer (some ⟨R, 0, none⟩)) ∧ w'.cell? ⟨R, 0, none⟩ = some (.slice (some ⟨g, 0, none⟩) (n + 1) c)) 14 (by kernel_rfl) ?_
  have hS : w.drew.cell? ⟨bx, 0, none⟩ = some (.pointer (some ⟨R, 0, none⟩)) ∧ w.drew.cell? ⟨R, 0, none⟩ = some (.slice (some ⟨g, 0, none⟩) (n + 1) c) := ⟨hbx, hc0⟩
  refine take_T 0 (.pointer (some ⟨R, 0, none⟩)) #[true, false, false, false, false, false, false, false, false, false, false, false, false, false, false] rfl (by kernel_rfl) (fun _ _ _ h => h) (by simp [Region.wanted, yielded, Act.put]) (fun w' hS => by obtain ⟨h1, h2⟩ := hS; simp [go_sem, execOp, Act.eval, Act.put, h1, h2]) hS ?_
  refine take_T 1 (.pointer (some ⟨R, 0, none⟩)) #[true, true, false, false, false, false, false, false, false, false, false, false, false, false, false] rfl (by kernel_rfl) (fun _ _ _ h => h) (by simp [Region.wanted, yielded, Act.put]) (fun w' hS => by obtain ⟨h1, h2⟩ := hS; simp [go_sem, execOp, Act.eval, Act.put, h1, h2]) hS ?_
  refine take_T 2 (.pointer (some ⟨R, 0, none⟩)) #[true, true, true, false, false, false, false, false, false, false, false, false, false, false, false] rfl (by kernel_rfl) (fun _ _ _ h => h) (by simp [Region.wanted, yielded, Act.put]) (fun w' hS => by obtain ⟨h1, h2⟩ := hS; simp [go_sem, execOp, Act.eval, Act.put, h1, h2]) hS ?_
  refine take_T 3 (.pointer (some ⟨R, 0, none⟩)) #[true, true, true, true, false, false, false, false, false, false, false, false, false, false, false] rfl (by kernel_rfl) (fun _ _ _ h => h) (by simp [Region.wanted, yielded, Act.put]) (fun w' hS => by obtain ⟨h1, h2⟩ := hS; simp [go_sem, execOp, Act.eval, Act.put, h1, h2]) hS ?_
  refine take_T 4 (.slice (some ⟨g, 0, none⟩) (n + 1) c) #[true, true, true, true, true, false, false, false, false, false, false, false, false, false, false] rfl (by kernel_rfl) (fun _ _ _ h => h) (by simp [Region.wanted, yielded, Act.put]) (fun w' hS => by obtain ⟨h1, h2⟩ := hS; simp [go_sem, execOp, Act.eval, Act.put, h1, h2]) hS ?_
  refine take_T 5 (.pointer (some ⟨R, 0, none⟩)) #[true, true, true, true, true, true, false, false, false, false, false, false, false, false, false] rfl (by kernel_rfl) (fun _ _ _ h => h) (by simp [Region.wanted, yielded, Act.put]) (fun w' hS => by obtain ⟨h1, h2⟩ := hS; simp [go_sem, execOp, Act.eval, Act.put, h1, h2]) hS ?_
  refine take_T 6 (.pointer (some ⟨R, 0, none⟩)) #[true, true, true, true, true, true, true, false, false, false, false, false, false, false, false] rfl (by kernel_rfl) (fun _ _ _ h => h) (by simp [Region.wanted, yielded, Act.put]) (fun w' hS => by obtain ⟨h1, h2⟩ := hS; simp [go_sem, execOp, Act.eval, Act.put, h1, h2]) hS ?_
  refine take_T 7 (.pointer (some ⟨R, 0, none⟩)) #[true, true, true, true, true, true, true, true, false, false, false, false, false, false, false] rfl (by kernel_rfl) (fun _ _ _ h => h) (by simp [Region.wanted, yielded, Act.put]) (fun w' hS => by obtain ⟨h1, h2⟩ := hS; simp [go_sem, execOp, Act.eval, Act.put, h1, h2]) hS ?_
  refine take_T 8 (.slice (some ⟨g, 0, none⟩) (n + 1) c) #[true, true, true, true, true, true, true, true, true, false, false, false, false, false, false] rfl (by kernel_rfl) (fun _ _ _ h => h) (by simp [Region.wanted, yielded, Act.put]) (fun w' hS => by obtain ⟨h1, h2⟩ := hS; simp [go_sem, execOp, Act.eval, Act.put, h1, h2]) hS ?_
  refine take_T 9 (.int .i64 ((n : Int) + 1)) #[true, true, true, true, true, true, true, true, true, true, false, false, false, false, false] rfl (by kernel_rfl) (fun _ _ _ h => h) (by simp [Region.wanted, yielded, Act.put]) (fun w' hS => by obtain ⟨h1, h2⟩ := hS; simp [go_sem, execOp, Act.eval, Act.put, h1, h2]) hS ?_
  refine take_T 10 (.int .i64 (n : Int)) #[true, true, true, true, true, true, true, true, true, true, true, false, false, false, false] rfl (by kernel_rfl) (fun _ _ _ h => h) (by simp [Region.wanted, yielded, Act.put]) (fun w' hS => by obtain ⟨h1, h2⟩ := hS; simp [go_sem, execOp, Act.eval, Act.put, h1, h2, e0, e1, e2]) hS ?_
  refine take_T 11 (.slice (some ⟨g, 0, none⟩) n c) #[true, true, true, true, true, true, true, true, true, true, true, true, false, false, false] rfl (by kernel_rfl) (fun _ _ _ h => h) (by simp [Region.wanted, yielded, Act.put]) (fun w' hS => by obtain ⟨h1, h2⟩ := hS; simp [go_sem, execOp, Act.eval, Act.put, h1, h2, hnc, hcn]) hS ?_
  refine only_T 12 #[true, true, true, true, true, true, true, true, true, true, true, true, true, false, false] rfl (by kernel_rfl) (by simp [Region.wanted]) ?_
  simp [go_sem, Oper.wp, execOp, Act.eval, Act.put]
  refine ⟨hS, ?_⟩
  refine only_T 13 #[true, true, true, true, true, true, true, true, true, true, true, true, true, true, false] rfl (by kernel_rfl) (by simp [Region.wanted]) ?_
  simp [go_sem, Oper.wp, execOp, Act.eval, Act.put]
  refine ⟨hS, ?_⟩
  refine only_T 14 #[true, true, true, true, true, true, true, true, true, true, true, true, true, true, true] rfl (by kernel_rfl) (by simp [Region.wanted]) ?_
  simp [go_sem, Oper.wp, execOp, Act.eval, Act.put, hc0, hf0]
  refine done_T (by kernel_rfl) ?_
  refine NoPanic.normal ?_
  go_end0
  exact ⟨rfl, rfl⟩
theorem wp_app_at {P : Program} {Q : Exit → Act → World → Prop} (w : World) {o : Oper} {a : Act} {K : Act → World → Prop} (s x : Operand) (t : TypeId)
    (ho : o.op = .call { callee := .builtin .append, args := #[s, x], argTypes := #[t, t] })
    (B : Nat) (e : TypeId) (i : TypeInfo) (z : Value) (bytes : Nat) (ht : P.underlying t = some (.slice e)) (hi : P.info? e = some i) (hz : i.zero = some z)
    (hsize : i.size = 1) (hby : i.bytes = bytes) (hzs : z.cells.size = 1)
    (A : Option Addr) (n c : Nat) (xs : List Value) (hs : a.eval s = .slice A n c) (hown : Row w B e A n c xs)
    (ad : Addr) (m cm : Nat) (news : List Value) (hx : a.eval x = .slice (some ad) m cm) (hl : news.length = m) (hnews : ∀ j u, news[j]? = some u → w.cell? (ad.add j) = some u) (h1 : ∀ u ∈ news, u.oneCell' = true)
    (k : Nat) (hk : n + m = k) (hn : k ≤ 4398046511104) (hbytes : bytes ≤ 32) (hbase : B ≤ w.heap.size)
    (h : ∀ A' c' w', Row w' B e A' k c' (xs ++ news) → w.grownBy w' (Value.slice A n c).ownBlock → ((Value.slice A' k c').ownBlock = (Value.slice A n c).ownBlock ∨ (Value.slice A' k c').ownBlock = some w.heap.size) → K (a.put o.dst (.slice A' k c')) w') :
    o.wp P a w K Q := by
  subst hk
  have hb2 : (n + m) * bytes ≤ 140737488355328 := by
    calc (n + m) * bytes ≤ (n + m) * 32 := Nat.mul_le_mul_left _ hbytes
      _ ≤ 140737488355328 := by omega
  obtain ⟨v', w', hr, h2, h3, _, h5⟩ := run_append_own_at (P := P) w B t o.type e i z 1 bytes ht hi hz hsize hby hzs (by omega) _ n xs hown ad m cm news (by rw [hl, Nat.mul_one]) hnews h1 (by unfold maxLen; omega) hb2 hbase
  obtain ⟨A', c', rfl⟩ := Row.form h2
  unfold Oper.wp execOp
  simp only [ho, resolve, invoke, builtin, Sem.run_bind, Sem.run_pure, Result.andThen_ok, List.map_toArray, List.map_cons, List.map_nil, hs, hx, hr]
  exact h A' c' w' h2 h3 h5
/-! ### the search's own object -/
def ob (A : Option Addr) (n c : Nat) : Option Nat := (Value.slice A n c).ownBlock
/-- No two of them share memory. -/
def DistP (P : List SP) : Prop := P.Pairwise fun p q => ∀ g, 0 < p.1.2.1 → 0 < q.1.2.1 → p.1.1 = some ⟨g, 0, none⟩ → q.1.1 ≠ some ⟨g, 0, none⟩
structure St (w : World) (B R : Nat) (A : Option Addr) (n c : Nat) (pts : List Int) (Af : Option Addr) (nf cf : Nat) (P : List SP) : Prop where
  obj : w.heap[R]? = some (.cells #[.slice A n c, .slice Af nf cf] 50 (0, 0))
  prow : Row w B 3 A n c (pts.map I)
  frow : Row w B 22 Af nf cf (P.map V)
  own : OwnP w B P
  hR : B ≤ R
  apart : ∀ p ∈ P, ∀ g, 0 < p.1.2.1 → p.1.1 = some ⟨g, 0, none⟩ → ob A n c ≠ some g
  dist : DistP P
theorem St.below {w w' : World} {B R : Nat} {A : Option Addr} {n c : Nat} {pts : List Int} {Af : Option Addr} {nf cf : Nat} {P : List SP} (h : St w B R A n c pts Af nf cf P) (hb : Below w.heap.size w w') : St w' B R A n c pts Af nf cf P :=
  ⟨(hb.block _ (Array.getElem?_eq_some_iff.1 h.obj).1).trans h.obj, h.prow.kept hb, h.frow.kept hb, h.own.below hb, h.hR, h.apart, h.dist⟩
/-- What a call may turn: the object, and the two rows it holds. -/
structure Fr (R : Nat) (pb fb : Option Nat) (w w' : World) : Prop where
  os : w'.os = w.os
  tape : w'.tape = w.tape
  output : w'.output = w.output
  size : w.heap.size ≤ w'.heap.size
  block : ∀ b, b < w.heap.size → b ≠ R → pb ≠ some b → fb ≠ some b → w'.heap[b]? = w.heap[b]?
theorem Fr.of_below {R : Nat} {pb fb : Option Nat} {w w' : World} (h : Below w.heap.size w w') : Fr R pb fb w w' := ⟨h.os, h.tape, h.output, h.size, fun b hb _ _ _ => h.block b hb⟩
/-- The same block, or one that is new. -/
def Nw (w : World) (o o' : Option Nat) : Prop := o' = o ∨ ∃ k, o' = some k ∧ w.heap.size ≤ k
theorem Nw.refl (w : World) (o : Option Nat) : Nw w o o := .inl rfl
theorem Nw.ne {w : World} {o o' : Option Nat} (h : Nw w o o') {b : Nat} (hb : b < w.heap.size) (hne : o ≠ some b) : o' ≠ some b := by
  rcases h with h | ⟨k, h, hk⟩
  · rw [h]; exact hne
  · rw [h]; intro e; injection e with e; omega
theorem Nw.trans {w w1 : World} {o o1 o2 : Option Nat} (h : Nw w o o1) (k : Nw w1 o1 o2) (hs : w.heap.size ≤ w1.heap.size) : Nw w o o2 := by
  rcases k with k | ⟨j, k, hj⟩
  · rw [k]; exact h
  · exact .inr ⟨j, k, by omega⟩
theorem Fr.trans {R : Nat} {pb fb pb1 fb1 : Option Nat} {w w1 w2 : World} (h : Fr R pb fb w w1) (k : Fr R pb1 fb1 w1 w2) (hp : Nw w pb pb1) (hf : Nw w fb fb1) : Fr R pb fb w w2 :=
  ⟨k.os.trans h.os, k.tape.trans h.tape, k.output.trans h.output, Nat.le_trans h.size k.size, fun b hb h1 h2 h3 => (k.block b (Nat.lt_of_lt_of_le hb h.size) h1 (hp.ne hb h2) (hf.ne hb h3)).trans (h.block b hb h1 h2 h3)⟩
/-- A list that the search reads, apart from what it turns. -/
def Lf (w : World) (R : Nat) (pb fb : Option Nat) (A : Option Addr) (n c : Nat) (left : List Int) : Prop :=
  Rd w w.heap.size A n c (left.map I) ∧ ∀ b o, 0 < n → A = some ⟨b, o, none⟩ → b ≠ R ∧ pb ≠ some b ∧ fb ≠ some b
theorem Lf.step {w w' : World} {R : Nat} {pb fb pb' fb' : Option Nat} {A : Option Addr} {n c : Nat} {left : List Int} (h : Lf w R pb fb A n c left) (hf : Fr R pb fb w w') (hp : Nw w pb pb') (hq : Nw w fb fb') : Lf w' R pb' fb' A n c left := by
  obtain ⟨⟨h1, h2, h3, h4⟩, h5⟩ := h
  refine ⟨⟨h1, h2, h3, fun hn => ?_⟩, fun b o hn e => ?_⟩
  · obtain ⟨b, o, e, hb, hc⟩ := h4 hn
    obtain ⟨g1, g2, g3⟩ := h5 b o hn e
    exact ⟨b, o, e, Nat.lt_of_lt_of_le hb hf.size, fun j u hu => (World.cell?_of_block (hf.block b hb g1 g2 g3)).trans (hc j u hu)⟩
  · obtain ⟨b', o', e', hb, _⟩ := h4 hn
    obtain ⟨g1, g2, g3⟩ := h5 b o hn e
    rw [e] at e'
    injection e' with e'
    injection e' with e1 e2
    subst e1
    exact ⟨g1, hp.ne hb g2, hq.ne hb g3⟩
theorem Fr.setR (R j : Nat) (pb fb : Option Nat) (w : World) (v : Value) : Fr R pb fb w (w.setCell ⟨R, j, none⟩ v) :=
  ⟨rfl, rfl, rfl, by simp, fun b hb h1 _ _ => Below.heap_setCell _ _ _ _ (by show b ≠ R; exact h1)⟩
theorem Fr.grown {R : Nat} {pb fb : Option Nat} {w w' : World} (h : w.grownBy w' pb) : Fr R pb fb w w' := ⟨h.os, h.tape, h.output, h.size, fun b hb _ h2 _ => h.block b hb (fun e => h2 e.symm)⟩
theorem Fr.drew_ {R : Nat} {pb fb : Option Nat} {w w' : World} (h : Fr R pb fb w w') : Fr R pb fb w w'.drew := ⟨h.os, h.tape, h.output, h.size, h.block⟩
theorem St.lt {w : World} {B R : Nat} {A : Option Addr} {n c : Nat} {pts : List Int} {Af : Option Addr} {nf cf : Nat} {P : List SP} (h : St w B R A n c pts Af nf cf P) : R < w.heap.size := (Array.getElem?_eq_some_iff.1 h.obj).1
theorem own_some {A : Option Addr} {n c g : Nat} (h : (Value.slice A n c).ownBlock = some g) : ∃ o s, A = some ⟨g, o, s⟩ := by
  cases A with
  | none => simp [Value.ownBlock] at h
  | some a => obtain ⟨b, o, s⟩ := a; simp [Value.ownBlock] at h; subst h; exact ⟨o, s, rfl⟩
theorem row_own {w : World} {B : Nat} {e : TypeId} {A : Option Addr} {n c g : Nat} {xs : List Value} (h : Row w B e A n c xs) (hg : (Value.slice A n c).ownBlock = some g) : ∃ cur, w.heap[g]? = some (.cells cur e (0, 0)) := by
  obtain ⟨_, ⟨hv, _⟩ | ⟨g', cap', cur, hv, _, hb, _⟩⟩ := h
  · rw [hv] at hg; simp [Value.ownBlock] at hg
  · rw [hv] at hg; simp [Value.ownBlock] at hg; subst hg; exact ⟨cur, hb⟩
theorem Row.keep2 {w w' : World} {B : Nat} {e : TypeId} {A : Option Addr} {n c : Nat} {xs : List Value} (h : Row w B e A n c xs) (hk : ∀ k, (Value.slice A n c).ownBlock = some k → k < w.heap.size → w'.heap[k]? = w.heap[k]?) : Row w' B e A n c xs := by
  obtain ⟨h1, h2 | ⟨g, cap, cur, hv, hb, hh, h3⟩⟩ := h
  · exact ⟨h1, .inl h2⟩
  · refine ⟨h1, .inr ⟨g, cap, cur, hv, hb, (hk g ?_ (Array.getElem?_eq_some_iff.1 hh).1).trans hh, h3⟩⟩
    rw [hv]
    rfl
theorem St.ne_p {w : World} {B R : Nat} {A : Option Addr} {n c : Nat} {pts : List Int} {Af : Option Addr} {nf cf : Nat} {P : List SP} (h : St w B R A n c pts Af nf cf P) : ob A n c ≠ some R := fun e => by
  obtain ⟨cur, hc⟩ := row_own h.prow e
  rw [h.obj] at hc
  injection hc with hc
  injection hc with h1 h2
  revert h2
  decide
theorem St.ne_f {w : World} {B R : Nat} {A : Option Addr} {n c : Nat} {pts : List Int} {Af : Option Addr} {nf cf : Nat} {P : List SP} (h : St w B R A n c pts Af nf cf P) : ob Af nf cf ≠ some R := fun e => by
  obtain ⟨cur, hc⟩ := row_own h.frow e
  rw [h.obj] at hc
  injection hc with hc
  injection hc with h1 h2
  revert h2
  decide
theorem St.ne_pf {w : World} {B R : Nat} {A : Option Addr} {n c : Nat} {pts : List Int} {Af : Option Addr} {nf cf : Nat} {P : List SP} (h : St w B R A n c pts Af nf cf P) {g : Nat} (hp : ob A n c = some g) : ob Af nf cf ≠ some g := fun e => by
  obtain ⟨cur, hc⟩ := row_own h.prow hp
  obtain ⟨cur2, hc2⟩ := row_own h.frow e
  rw [hc] at hc2
  injection hc2 with hc2
  injection hc2 with h1 h2
  revert h2
  decide
theorem St.in_ne {w : World} {B R : Nat} {A : Option Addr} {n c : Nat} {pts : List Int} {Af : Option Addr} {nf cf : Nat} {P : List SP} (h : St w B R A n c pts Af nf cf P) {g : Nat} {cur : Array Value} (hh : w.heap[g]? = some (.cells cur 3 (0, 0))) : g ≠ R ∧ ob Af nf cf ≠ some g := by
  constructor
  · rintro rfl
    rw [h.obj] at hh
    injection hh with hh
    injection hh with h1 h2
    revert h2
    decide
  · intro e
    obtain ⟨cur2, hc2⟩ := row_own h.frow e
    rw [hh] at hc2
    injection hc2 with hc2
    injection hc2 with h1 h2
    revert h2
    decide
/-- The rows that were found abide what turns neither the object nor the rows that it holds. -/
theorem OwnP.fr {w w' : World} {B R : Nat} {A : Option Addr} {n c : Nat} {pts : List Int} {Af : Option Addr} {nf cf : Nat} {P : List SP} {fb : Option Nat} (h : St w B R A n c pts Af nf cf P) (hf : Fr R (ob A n c) fb w w') (hfb : fb = none ∨ fb = ob Af nf cf) : OwnP w' B P := fun p hp => by
  obtain ⟨h1, h2, h3, h4⟩ := h.own p hp
  refine ⟨h1, h2, h3, fun hn => ?_⟩
  obtain ⟨g, cur, e, hg, hh, ht⟩ := h4 hn
  obtain ⟨n1, n2⟩ := h.in_ne hh
  refine ⟨g, cur, e, hg, (hf.block g (Array.getElem?_eq_some_iff.1 hh).1 n1 (h.apart p hp g hn e) ?_).trans hh, ht⟩
  rcases hfb with rfl | rfl
  · simp
  · exact n2
def FromPost (w : World) (B R : Nat) (A : Option Addr) (n c : Nat) (pts : List Int) (Af : Option Addr) (nf cf : Nat) (P : List SP) (L : List (List Int)) (e : Ending) (w' : World) : Prop :=
  e = .returned (.tuple #[]) ∧ ∃ (A' : Option Addr) (c' : Nat) (Af' : Option Addr) (nf' cf' : Nat) (Q : List SP), St w' B R A' n c' pts Af' nf' cf' (P ++ Q) ∧ Q.map Prod.snd = L ∧ Fr R (ob A n c) (ob Af nf cf) w w' ∧ Nw w (ob A n c) (ob A' n c') ∧ Nw w (ob Af nf cf) (ob Af' nf' cf')
theorem FromPost.nothing {w w' : World} {B R : Nat} {A : Option Addr} {n c : Nat} {pts : List Int} {Af : Option Addr} {nf cf : Nat} {P : List SP} (h : St w B R A n c pts Af nf cf P) (hb : Below w.heap.size w w') : FromPost w B R A n c pts Af nf cf P [] (.returned (.tuple #[])) w' :=
  ⟨rfl, A, c, Af, nf, cf, [], by rw [List.append_nil]; exact h.below hb, rfl, .of_below hb, .refl _ _, .refl _ _⟩
theorem tryI_no {rec : List Int → List Int → List (List Int)} {pts left : List Int} {x : Int} (h : ¬ (x < 0 ∨ x ∈ pts)) (hw : wo left (gaps x pts) = none) : tryI rec pts left x = [] := by
  unfold tryI
  rw [if_neg h, hw]
theorem tryI_yes {rec : List Int → List Int → List (List Int)} {pts left r : List Int} {x : Int} (h : ¬ (x < 0 ∨ x ∈ pts)) (hw : wo left (gaps x pts) = some r) : tryI rec pts left x = rec (pts ++ [x]) r := by
  unfold tryI
  rw [if_neg h, hw]
theorem lt_of_cell {w : World} {a : Addr} {v : Value} (h : w.cell? a = some v) : a.block < w.heap.size := by
  rcases Nat.lt_or_ge a.block w.heap.size with h' | h'
  · exact h'
  · simp [World.cell?, Array.getElem?_eq_none h'] at h
/-- What is asked of points and of what is left. -/
def Num (pts left : List Int) : Prop := 1 ≤ pts.length ∧ (∀ p ∈ pts, 0 ≤ p ∧ p ≤ 60) ∧ (∀ x ∈ left, 1 ≤ x ∧ x ≤ 60) ∧ left.Pairwise (fun a b => a ≤ b) ∧ pts.length + left.length ≤ 40
def FromOk (f : Nat) : Prop := ∀ (A : Option Addr) (n c : Nat) (pts : List Int) (Af : Option Addr) (nf cf : Nat) (P : List SP) (A2 : Option Addr) (n2 c2 : Nat) (left : List Int) (B R : Nat) (w : World),
  St w B R A n c pts Af nf cf P → Lf w R (ob A n c) (ob Af nf cf) A2 n2 c2 left → left.length ≤ f → Num pts left → P.length + 2 ^ f ≤ 1000000 → B ≤ w.heap.size →
  Calls Try.prog 89 #[.pointer (some ⟨R, 0, none⟩), .slice A2 n2 c2] w (FromPost w B R A n c pts Af nf cf P (lvI f pts left))
set_option maxRecDepth 8000 in
set_option maxHeartbeats 3200000 in
theorem try_any (f : Nat) (hF : FromOk f) (A : Option Addr) (n c : Nat) (pts : List Int) (Af : Option Addr) (nf cf : Nat) (P : List SP) (A2 : Option Addr) (n2 c2 : Nat) (left : List Int) (B R : Nat) (x : Int) (w : World)
    (hst : St w B R A n c pts Af nf cf P) (hlf : Lf w R (ob A n c) (ob Af nf cf) A2 n2 c2 left) (hne : left ≠ []) (hl : left.length ≤ f + 1) (hnum : Num pts left) (hP : P.length + 2 ^ f ≤ 1000000) (hB : B ≤ w.heap.size) (hx : -60 ≤ x ∧ x ≤ 60) :
    Calls Try.prog 54 #[.pointer (some ⟨R, 0, none⟩), .int .i64 x, .slice A2 n2 c2] w (FromPost w B R A n c pts Af nf cf P (tryI (lvI f) pts left x)) := by
  have hc0 : w.cell? ⟨R, 0, none⟩ = some (.slice A n c) := by rw [cell_of_row w R 0 _ _ (0, 0) hst.obj]; rfl
  have hRlt : R < w.heap.size := (Array.getElem?_eq_some_iff.1 hst.obj).1
  have hbel := (Below.refl w.heap.size w).alloc (Nat.le_refl _) (.cells #[.pointer (some ⟨R, 0, none⟩)] 48)
  have hbx := (Boxed.new w 48 (.pointer (some ⟨R, 0, none⟩))).cell
  have hcR : (w.alloc (.cells #[.pointer (some ⟨R, 0, none⟩)] 48)).cell? ⟨R, 0, none⟩ = some (.slice A n c) := (hbel.cell (p := ⟨R, 0, none⟩) hRlt).trans hc0
  by_cases hneg : x < 0
  · have Hv := Lib.hid (show tryI (lvI f) pts left x = [] by unfold tryI; rw [if_pos (.inl hneg)])
    go_enter_defers Try.func54, Try.ntmps54
    go_wp2_with fail
    refine ⟨_, results_none rfl _ _ _, ?_⟩
    rw [Hv.out]
    exact FromPost.nothing hst hbel
  have hn := hst.prow.len
  rw [List.length_map] at hn
  have Hn := Lib.hid hn
  obtain ⟨hp1, hp60, hl60, hsrt, hsum⟩ := hnum
  have hn40 : n ≤ 40 := by omega
  have hn1 : 1 ≤ n := by omega
  have hrp : Rd (w.alloc (.cells #[.pointer (some ⟨R, 0, none⟩)] 48)) w.heap.size A n c (pts.map I) := hst.prow.rd.below hbel
  have hCo := ContainsI_any A n c pts x _ _ hrp
  by_cases hin : x ∈ pts
  · have Hv := Lib.hid (show tryI (lvI f) pts left x = [] by unfold tryI; rw [if_pos (.inr hin)])
    have hd : decide (x ∈ pts) = true := decide_eq_true hin
    rw [hd] at hCo
    clear hd hin
    go_enter_defers Try.func54, Try.ntmps54
    go_wp2_with fail
    refine hCo.mono ?_
    rintro e w1 ⟨rfl, rfl⟩
    go_wp2_with fail
    refine ⟨_, results_none rfl _ _ _, ?_⟩
    rw [Hv.out]
    exact FromPost.nothing hst hbel
  · have Hno := Lib.hid (show ¬ (x < 0 ∨ x ∈ pts) from fun h => h.elim hneg hin)
    have hd : decide (x ∈ pts) = false := decide_eq_false hin
    rw [hd] at hCo
    clear hd hin
    obtain ⟨i0, hi, hz0, hz1, hz2⟩ := info_parts Try.infoI
    go_enter_defers Try.func54, Try.ntmps54
    go_wp2_with fail
    refine hCo.mono ?_
    rintro e w1 ⟨rfl, rfl⟩
    go_wp2_with (at_make; refine wpList_make_own _ rfl _ _ 22 rfl (w.heap.size + 1) 3 i0 (.int .i64 0) 1 Try.underlying22 hi hz0 hz1 .i64 .i64 n n rfl rfl rfl (by rw [hz2]; omega) (by unfold maxLen; omega) (by simp) ?_; intro w4 hown0 hgrow0; have hb4 : Below (w.heap.size + 1) (w.alloc (.cells #[.pointer (some ⟨R, 0, none⟩)] 48)) w4 := kp_grown (Below.refl _ _) (by simp) hgrow0 (fun k hk => by cases hk); have hbx4 := (hb4.cell (p := ⟨w.heap.size, 0, none⟩) (Nat.lt_succ_self _)).trans hbx; have hcR4 := (hb4.cell (p := ⟨R, 0, none⟩) (Nat.lt_succ_of_lt hRlt)).trans hcR)
    have hbel4 : Below w.heap.size w w4 := hbel.trans (hb4.mono (Nat.le_succ _))
    have hs4 : w.heap.size + 1 ≤ w4.heap.size := by have := hb4.size; simpa using this
    have hrow0 : Row w4 (w.heap.size + 1) 3 (some ⟨w.heap.size + 1, 0, none⟩) 0 n [] := by
      have h := hown0
      rw [World.size_alloc] at h
      exact h
    have hrd4 : Rd w4 w.heap.size A n c (pts.map I) := hrp.below' hb4 (Nat.le_succ _)
    obtain ⟨gA, _, hgA, _⟩ := hst.prow.blk (g := 0) (show 0 < n by omega)
    subst hgA
    clear hown0 hgrow0 hCo hrp hbx hcR hc0
    go_loopw [6, 32] (fun v i wr => ∃ k : Nat, k ≤ n ∧ i = .int .i64 k ∧ v = .slice (some ⟨w.heap.size + 1, 0, none⟩) k n ∧ Row wr (w.heap.size + 1) 3 (some ⟨w.heap.size + 1, 0, none⟩) k n (((gaps x pts).take k).map I) ∧ Below (w.heap.size + 1) w4 wr) (fun _ i _ => n - (intOf i).toNat)
    case atStart => exact ⟨0, Nat.zero_le _, rfl, rfl, hrow0, Below.refl _ _⟩
    case round =>
      obtain ⟨k, hk, rfl, rfl, hrow, hbw⟩ := hrel
      by_cases hlt : k < n
      · obtain ⟨y, hy, hcy⟩ := (hrd4.below' hbw (Nat.le_succ _)).int_at hlt
        have hy60 := hp60 y (List.mem_of_getElem? hy)
        have hlt' : (k : Int) < (n : Int) := by omega
        have k0 : (0 : Int) ≤ (k : Int) := by omega
        have e1 : IntKind.i64.wrap (x - y) = x - y := by rw [IntKind.wrap_i64]; omega
        have e2 : IntKind.i64.wrap (y - x) = y - x := by rw [IntKind.wrap_i64]; omega
        have e5 : IntKind.i64.wrap ((k : Int) + 1) = (k : Int) + 1 := by rw [IntKind.wrap_i64]; omega
        have Hst := Lib.hid (show ((gaps x pts).take (k + 1)).map I = ((gaps x pts).take k).map I ++ [.int .i64 (max (x - y) (y - x))] by
          rw [take_snoc (x := max (x - y) (y - x)) (by unfold gaps; rw [List.getElem?_map, hy]; rfl), List.map_append]
          rfl)
        have hsw := hbw.size
        rw [Nat.zero_add] at hcy
        clear hy
        go_wp2_with (at_builtin; refine wpList_append_fits _ rfl _ _ 22 rfl (w.heap.size + 1) 3 i0 1 Try.underlying22 hi hz1 (w.heap.size + 1) k n _ rfl (hrow.alloc _) ⟨wr.heap.size, 0, none⟩ 1 1 [.int .i64 (max (x - y) (y - x))] rfl rfl (cell_one_new _ _ _) (by simp [Value.oneCell']) (by omega) ?_; intro w5 hown5 hgrow5)
        have hbw5 : Below (w.heap.size + 1) w4 w5 := kp_grown (kp_alloc _ hbw (by omega)) (by omega) hgrow5 (fun k hk => by cases hk; exact Nat.le_refl _)
        clear hgrow5
        go_wp2_with fail
        go_roundw
        case rel => exact ⟨k + 1, by omega, by go_num, rfl, by rw [Hst.out]; exact hown5, hbw5⟩
        case measure => simp [intOf]; omega
      · obtain rfl : k = n := by omega
        have hlt' : ¬ (k : Int) < (k : Int) := by omega
        have hgl : (gaps x pts).length = k := by unfold gaps; rw [List.length_map]; exact Hn.out
        rw [List.take_of_length_le (by omega)] at hrow
        have hbelr : Below w.heap.size w wr := hbel4.trans (hbw.mono (Nat.le_succ _))
        have hsr := hbelr.size
        have hlr : left.length = n2 := hlf.1.ilen
        have hn21 : 1 ≤ n2 := by
          rw [← hlr]
          exact List.length_pos_iff.2 hne
        have hW := without_any A2 n2 c2 left (some ⟨w.heap.size + 1, 0, none⟩) k k (gaps x pts) wr ((hlf.1.below hbelr).more hsr) hrow.rd hsrt hn21 (by omega) (by omega)
        have hbx5 : wr.cell? ⟨w.heap.size, 0, none⟩ = some (.pointer (some ⟨R, 0, none⟩)) := (hbw.cell (p := ⟨w.heap.size, 0, none⟩) (Nat.lt_succ_self _)).trans hbx4
        clear hrow hbw hbx4 hcR4 hbel4
        go_wp2_with fail
        refine hW.mono ?_
        rintro e w6 ⟨A6, n6, c6, ok, rfl, hb6, hres⟩
        have hbel6 : Below w.heap.size w w6 := hbelr.trans (hb6.mono hsr)
        have hs6 := hb6.size
        have hs46 : w.heap.size + 1 ≤ wr.heap.size := by
          have : w.heap.size < wr.heap.size := lt_of_cell hbx5
          omega
        have hbx6 : w6.cell? ⟨w.heap.size, 0, none⟩ = some (.pointer (some ⟨R, 0, none⟩)) := (hb6.cell (p := ⟨w.heap.size, 0, none⟩) (by show w.heap.size < _; omega)).trans hbx5
        clear hW hbx5
        rcases hres with ⟨hw, rfl⟩ | ⟨r, hw, rfl, hrow6⟩
        · have Hv := Lib.hid (tryI_no (rec := lvI f) Hno.out hw)
          clear hw
          go_wp2_with fail
          refine ⟨_, results_none rfl _ _ _, ?_⟩
          rw [Hv.out]
          exact FromPost.nothing hst hbel6
        · have Hv := Lib.hid (tryI_yes (rec := lvI f) Hno.out hw)
          have Hw := Lib.hid hw
          have hst6 := hst.below hbel6
          have hc6 : w6.cell? ⟨R, 0, none⟩ = some (.slice (some ⟨gA, 0, none⟩) k c) := by rw [cell_of_row w6 R 0 _ _ (0, 0) hst6.obj]; rfl
          have hf6 := frozen_of_row w6 R 0 _ _ hst6.obj
          clear hw
          go_wp2_with fail
          refine wp_region_noPanic ?_
          refine region_plain (fun w' => w'.cell? ⟨w.heap.size, 0, none⟩ = some (.pointer (some ⟨R, 0, none⟩)) ∧ w'.cell? ⟨R, 0, none⟩ = some (.slice (some ⟨gA, 0, none⟩) k c)) 10 (by kernel_rfl) ?_
          have hS : w6.drew.cell? ⟨w.heap.size, 0, none⟩ = some (.pointer (some ⟨R, 0, none⟩)) ∧ w6.drew.cell? ⟨R, 0, none⟩ = some (.slice (some ⟨gA, 0, none⟩) k c) := ⟨hbx6, hc6⟩
          refine take_T 0 (.pointer (some ⟨R, 0, none⟩)) #[true, false, false, false, false, false, false, false, false, false, false] rfl (by kernel_rfl) (fun _ _ _ h => h) (by simp [Region.wanted, yielded, Act.put]) (fun w' hS => by obtain ⟨h1, h2⟩ := hS; simp [go_sem, execOp, Act.eval, Act.put, h1, h2]) hS ?_
          refine take_T 1 (.pointer (some ⟨R, 0, none⟩)) #[true, true, false, false, false, false, false, false, false, false, false] rfl (by kernel_rfl) (fun _ _ _ h => h) (by simp [Region.wanted, yielded, Act.put]) (fun w' hS => by obtain ⟨h1, h2⟩ := hS; simp [go_sem, execOp, Act.eval, Act.put, h1, h2]) hS ?_
          refine take_T 2 (.pointer (some ⟨R, 0, none⟩)) #[true, true, true, false, false, false, false, false, false, false, false] rfl (by kernel_rfl) (fun _ _ _ h => h) (by simp [Region.wanted, yielded, Act.put]) (fun w' hS => by obtain ⟨h1, h2⟩ := hS; simp [go_sem, execOp, Act.eval, Act.put, h1, h2]) hS ?_
          refine take_T 3 (.pointer (some ⟨R, 0, none⟩)) #[true, true, true, true, false, false, false, false, false, false, false] rfl (by kernel_rfl) (fun _ _ _ h => h) (by simp [Region.wanted, yielded, Act.put]) (fun w' hS => by obtain ⟨h1, h2⟩ := hS; simp [go_sem, execOp, Act.eval, Act.put, h1, h2]) hS ?_
          refine take_T 4 (.slice (some ⟨gA, 0, none⟩) k c) #[true, true, true, true, true, false, false, false, false, false, false] rfl (by kernel_rfl) (fun _ _ _ h => h) (by simp [Region.wanted, yielded, Act.put]) (fun w' hS => by obtain ⟨h1, h2⟩ := hS; simp [go_sem, execOp, Act.eval, Act.put, h1, h2]) hS ?_
          refine take_T 5 (.int .i64 x) #[true, true, true, true, true, true, false, false, false, false, false] rfl (by kernel_rfl) (fun _ _ _ h => h) (by simp [Region.wanted, yielded, Act.put]) (fun w' hS => by obtain ⟨h1, h2⟩ := hS; simp [go_sem, execOp, Act.eval, Act.put, h1, h2]) hS ?_
          refine only_T 6 #[true, true, true, true, true, true, true, false, false, false, false] rfl (by kernel_rfl) (by simp [Region.wanted]) ?_
          simp [go_sem, Oper.wp, execOp, Act.eval, Act.put]
          have hB6 : B ≤ w6.heap.size := by omega
          have hgA : gA < w.heap.size := by
            obtain ⟨cur, hc⟩ := row_own hst.prow (g := gA) rfl
            exact (Array.getElem?_eq_some_iff.1 hc).1
          refine ⟨⟨(World.cell?_alloc_lt w6 _ _ (by show w.heap.size < _; omega)).trans hbx6, (World.cell?_alloc_lt w6 _ _ (by show R < _; omega)).trans hc6⟩, ?_⟩
          refine only_T 7 #[true, true, true, true, true, true, true, true, false, false, false] rfl (by kernel_rfl) (by simp [Region.wanted]) ?_
          refine wp_app_at _ _ _ 22 rfl B 3 i0 (.int .i64 0) 8 Try.underlying22 hi hz0 hz1 hz2 rfl (some ⟨gA, 0, none⟩) k c (pts.map I) rfl (hst6.prow.alloc _) ⟨w6.heap.size, 0, none⟩ 1 1 [.int .i64 x] rfl rfl (cell_one_new _ _ _) (oneI [x]) (k + 1) rfl (by omega) (by omega) (by simp; omega) ?_
          intro A7 c7 w7 hrow7 hg7 hat7
          have hneA : gA ≠ R := fun e => hst.ne_p (by rw [← e]; rfl)
          have hs7 : w6.heap.size + 1 ≤ w7.heap.size := by have := hg7.size; simpa using this
          have hblk7 : ∀ b, b < w6.heap.size → b ≠ gA → w7.heap[b]? = w6.heap[b]? := fun b h1 h2 =>
            (hg7.block b (by simp; omega) (fun e => by simp [Value.ownBlock] at e; exact h2 e)).trans (Below.heap_alloc w6 _ _ h1)
          have hbx7 : w7.cell? ⟨w.heap.size, 0, none⟩ = some (.pointer (some ⟨R, 0, none⟩)) := (World.cell?_of_block (hblk7 w.heap.size (by omega) (by omega))).trans hbx6
          have hob7 : w7.heap[R]? = some (.cells #[.slice (some ⟨gA, 0, none⟩) k c, .slice Af nf cf] 50 (0, 0)) := (hblk7 R (by omega) (fun e => hneA e.symm)).trans hst6.obj
          have hc7 : w7.cell? ⟨R, 0, none⟩ = some (.slice (some ⟨gA, 0, none⟩) k c) := by rw [cell_of_row w7 R 0 _ _ (0, 0) hob7]; rfl
          have hf7 := frozen_of_row w7 R 0 _ _ hob7
          refine ⟨fun _ => ⟨hbx7, hc7⟩, ?_⟩
          refine only_T 8 #[true, true, true, true, true, true, true, true, true, false, false] rfl (by kernel_rfl) (by simp [Region.wanted]) ?_
          simp [go_sem, Oper.wp, execOp, Act.eval, Act.put]
          refine ⟨⟨hbx7, hc7⟩, ?_⟩
          refine only_T 9 #[true, true, true, true, true, true, true, true, true, true, false] rfl (by kernel_rfl) (by simp [Region.wanted]) ?_
          simp [go_sem, Oper.wp, execOp, Act.eval, Act.put]
          refine ⟨⟨hbx7, hc7⟩, ?_⟩
          refine only_T 10 #[true, true, true, true, true, true, true, true, true, true, true] rfl (by kernel_rfl) (by simp [Region.wanted]) ?_
          simp [go_sem, Oper.wp, execOp, Act.eval, Act.put, hc7, hf7]
          refine done_T (by kernel_rfl) ?_
          refine NoPanic.normal ?_
          have hnew := heap_setCell_same w7 R 0 _ _ (.slice A7 (k + 1) c7) hob7
          obtain ⟨W, hW⟩ : ∃ W, W = w7.setCell ⟨R, 0, none⟩ (.slice A7 (k + 1) c7) := ⟨_, rfl⟩
          rw [← hW] at hnew ⊢
          have hblkW : ∀ b, b < w6.heap.size → b ≠ gA → b ≠ R → W.heap[b]? = w6.heap[b]? := fun b h1 h2 h3 => by
            rw [hW]
            exact (Below.heap_setCell _ _ _ _ (by show b ≠ R; exact h3)).trans (hblk7 b h1 h2)
          have hsW : w7.heap.size = W.heap.size := by rw [hW]; simp
          have hbxW : W.cell? ⟨w.heap.size, 0, none⟩ = some (.pointer (some ⟨R, 0, none⟩)) := (World.cell?_of_block (hblkW w.heap.size (by omega) (by omega) (by omega))).trans hbx6
          have hnw7 : Nw w6 (some gA) (ob A7 (k + 1) c7) := by
            rcases hat7 with h | h
            · exact .inl h
            · exact .inr ⟨_, h, by simp⟩
          have hne7 : ob A7 (k + 1) c7 ≠ some R := hnw7.ne (by omega) (fun e => hneA (by injection e))
          have hrowW : Row W B 3 A7 (k + 1) c7 ((pts ++ [x]).map I) := by
            rw [List.map_append, hW]
            exact Row.keep2 hrow7 (fun j hj _ => Below.heap_setCell _ _ _ _ (by show j ≠ R; rintro rfl; exact hne7 hj))
          have hfrW : Fr R (some gA) none w6 W := by
            refine ⟨?_, ?_, ?_, by omega, fun b h1 h2 h3 _ => hblkW b h1 (fun e => h3 (by rw [e])) h2⟩
            · rw [hW]; exact hg7.os
            · rw [hW]; exact hg7.tape
            · rw [hW]; exact hg7.output
          have hstW : St W B R A7 (k + 1) c7 (pts ++ [x]) Af nf cf P := by
            refine ⟨by simpa using hnew, hrowW, ?_, OwnP.fr hst6 hfrW (.inl rfl), hst.hR, fun p hp g hpn hpg => ?_, hst.dist⟩
            · refine Row.keep2 hst6.frow (fun j hj hjl => hblkW j hjl ?_ ?_)
              · rintro rfl; exact hst6.ne_pf (g := j) rfl hj
              · rintro rfl; exact hst6.ne_f hj
            · obtain ⟨_, _, _, h4⟩ := hst6.own p hp
              obtain ⟨g', cur, e, _, hh, _⟩ := h4 hpn
              rw [hpg] at e
              injection e with e
              injection e with e1 e2
              subst e1
              exact hnw7.ne (Array.getElem?_eq_some_iff.1 hh).1 (hst6.apart p hp g hpn hpg)
          clear hW hnew hob7 hc7 hf7 hbx7 hblk7 hg7 hrow7 hat7 hS hc6 hf6
          have hmf : ∀ (fn : Fn) (first cap : Array Value) (w : World), (Instr.makeFunc fn first cap).run Try.prog w = .ok (.func fn first cap) w := fun _ _ _ _ => rfl
          go_wp2_with fail
          have hbf : ∀ b, ob Af nf cf = some b → b < w.heap.size := fun b hb => by
            obtain ⟨cur, hc⟩ := row_own hst.frow hb
            exact (Array.getElem?_eq_some_iff.1 hc).1
          have hlf6 : Lf w6 R (some gA) (ob Af nf cf) A6 n6 c6 r := by
            refine ⟨hrow6.rd, fun b o hn6 e => ?_⟩
            have hb : wr.heap.size ≤ b := row_ge hrow6 b (by rw [e]; rfl)
            exact ⟨by omega, fun e2 => by injection e2; omega, fun e2 => by have := hbf b e2; omega⟩
          have hfrW2 : Fr R (some gA) (ob Af nf cf) w6 W := ⟨hfrW.os, hfrW.tape, hfrW.output, hfrW.size, fun b h1 h2 h3 _ => hfrW.block b h1 h2 h3 (by simp)⟩
          have hlfW := hlf6.step hfrW2 hnw7 (.refl _ _)
          have hwl := wo_len Hw.out
          rw [hgl] at hwl
          have hnumW : Num (pts ++ [x]) r := by
            refine ⟨by simp, fun p hp => ?_, fun y hy => hl60 y (wo_sub Hw.out y hy), wo_sorted Hw.out hsrt, by rw [List.length_append, List.length_singleton]; omega⟩
            rw [List.mem_append, List.mem_singleton] at hp
            rcases hp with hp | rfl
            · exact hp60 p hp
            · omega
          have hC := hF A7 (k + 1) c7 (pts ++ [x]) Af nf cf P A6 n6 c6 r B R W hstW hlfW (by omega) hnumW hP (by omega)
          refine hC.mono ?_
          rintro e w9 ⟨rfl, A9, c9, Af9, nf9, cf9, Q, hst9, hQ, hfr9, hnp, hnf⟩
          obtain ⟨g9, _, hg9, _, _, _, hkc9, _⟩ := hst9.prow.blk (g := 0) (Nat.succ_pos k)
          subst hg9
          have hs9 := hfr9.size
          have hbx9 : w9.cell? ⟨w.heap.size, 0, none⟩ = some (.pointer (some ⟨R, 0, none⟩)) := by
            refine (World.cell?_of_block (hfr9.block w.heap.size (by omega) (by omega) (hnw7.ne (by omega) (fun e => by injection e; omega)) (fun e => by have := hbf _ e; omega))).trans hbxW
          have hD := tryDeferred_any w.heap.size R g9 k c9 _ .returning w9 hbx9 hst9.obj hkc9 (by omega)
          clear hC
          go_wp2_with fail
          refine leaves_cons (f := 88) (args := #[.pointer (some ⟨w.heap.size, 0, none⟩)]) (by simp) (by simp [go_sem]) ?_
          refine hD.mono ?_
          rintro e u' w10 ⟨rfl, rfl, rfl⟩
          refine ⟨_, results_none rfl _ _ _, ?_⟩
          rw [Hv.out]
          have hnew9 := heap_setCell_same w9 R 0 _ _ (.slice (some ⟨g9, 0, none⟩) k c9) hst9.obj
          have hne9 : g9 ≠ R := fun e => hst9.ne_p (by rw [← e]; rfl)
          have hfr10 : Fr R (some g9) none w9 (w9.setCell ⟨R, 0, none⟩ (.slice (some ⟨g9, 0, none⟩) k c9)) := Fr.setR R 0 _ _ w9 _
          have hst10 : St (w9.setCell ⟨R, 0, none⟩ (.slice (some ⟨g9, 0, none⟩) k c9)) B R (some ⟨g9, 0, none⟩) k c9 pts Af9 nf9 cf9 (P ++ Q) := by
            have hr9 := hst9.prow.cut (show k ≤ k + 1 by omega)
            rw [← List.map_take, List.take_left' Hn.out] at hr9
            refine ⟨by simpa using hnew9, ?_, ?_, OwnP.fr hst9 hfr10 (.inl rfl), hst9.hR, hst9.apart, hst9.dist⟩
            · exact Row.keep2 hr9 (fun j hj _ => Below.heap_setCell _ _ _ _ (by show j ≠ R; rintro rfl; exact hne9 (by simpa [Value.ownBlock] using hj)))
            · exact Row.keep2 hst9.frow (fun j hj _ => Below.heap_setCell _ _ _ _ (by show j ≠ R; rintro rfl; exact hst9.ne_f hj))
          have f1 : Fr R (some gA) (ob Af nf cf) w w6 := .of_below hbel6
          have f2 := f1.trans hfrW2 (.refl _ _) (.refl _ _)
          have n2' : Nw w (some gA) (ob A7 (k + 1) c7) := (Nw.refl _ _).trans hnw7 (by omega)
          have f3 := f2.trans hfr9 n2' (.refl _ _)
          have n3 : Nw w (some gA) (some g9) := n2'.trans hnp (by omega)
          have n4 : Nw w (ob Af nf cf) (ob Af9 nf9 cf9) := (Nw.refl _ _).trans hnf (by omega)
          have f4 := f3.trans (Fr.setR R 0 (some g9) (ob Af9 nf9 cf9) w9 (.slice (some ⟨g9, 0, none⟩) k c9)) n3 n4
          refine ⟨rfl, some ⟨g9, 0, none⟩, c9, Af9, nf9, cf9, Q, ?_, hQ, f4.drew_, n3, n4⟩
          exact ⟨hst10.obj, hst10.prow, hst10.frow, hst10.own, hst10.hR, hst10.apart, hst10.dist⟩
end Go.Proofs.Ytopmifidhabobaa
