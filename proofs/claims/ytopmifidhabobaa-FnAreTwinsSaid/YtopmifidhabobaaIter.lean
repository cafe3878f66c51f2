/-
  A range over a function that keeps blocks of its own: the law for a body whose rounds all end normally.
-/
import Derived.Test.YtopmifidhabobaaRound
import Derived.RangeFuncBox
namespace Go.Proofs.Ytopmifidhabobaa
open Go.RowKit
set_option linter.unusedVariables false
set_option linter.unusedSimpArgs false

/-- Blocks from lo on and below hi, and new ones, are all that may have turned. -/
structure Win (lo hi : Nat) (w w' : World) : Prop where
  os : w'.os = w.os
  tape : w'.tape = w.tape
  output : w'.output = w.output
  size : w.heap.size ≤ w'.heap.size
  block : ∀ b, b < w.heap.size → (b < lo ∨ hi ≤ b) → w'.heap[b]? = w.heap[b]?
theorem Win.refl (lo hi : Nat) (w : World) : Win lo hi w w := ⟨rfl, rfl, rfl, Nat.le_refl _, fun _ _ _ => rfl⟩
theorem Win.trans {lo hi : Nat} {a b c : World} (h : Win lo hi a b) (k : Win lo hi b c) : Win lo hi a c :=
  ⟨k.os.trans h.os, k.tape.trans h.tape, k.output.trans h.output, Nat.le_trans h.size k.size, fun x hx hl => (k.block x (Nat.lt_of_lt_of_le hx h.size) hl).trans (h.block x hx hl)⟩
theorem Win.wider {lo hi lo' hi' : Nat} {a b : World} (h : Win lo hi a b) (h1 : lo' ≤ lo) (h2 : hi ≤ hi') : Win lo' hi' a b :=
  ⟨h.os, h.tape, h.output, h.size, fun x hx hl => h.block x hx (by omega)⟩
theorem Win.of_grown {lo hi : Nat} {w w' : World} {row : Option Nat} (h : w.grownBy w' row) (hr : ∀ k, row = some k → lo ≤ k ∧ k < hi) : Win lo hi w w' :=
  ⟨h.os, h.tape, h.output, h.size, fun b hb hl => h.block b hb (fun e => by have := hr b e.symm; omega)⟩
theorem Win.alloc (lo hi : Nat) (w : World) (o : Obj) : Win lo hi w (w.alloc o) := Win.of_grown (World.grownBy_alloc w o none) (fun _ h => by cases h)
theorem Win.putObj {lo hi : Nat} (w : World) {l : Nat} (o : Obj) (h1 : lo ≤ l) (h2 : l < hi) : Win lo hi w (w.putObj l o) := Win.of_grown (grownBy_putObj' w l o) (fun k e => by cases e; exact ⟨h1, h2⟩)
theorem Win.setCell {lo hi : Nat} (w : World) {b : Nat} (v : Value) (h1 : lo ≤ b) (h2 : b < hi) : Win lo hi w (w.setCell ⟨b, 0, none⟩ v) := Win.of_grown (grownBy_setCell' w b v) (fun k e => by cases e; exact ⟨h1, h2⟩)
theorem Win.below {lo hi B : Nat} {a b : World} (h : Win lo hi a b) (h1 : B ≤ lo) (h2 : B ≤ a.heap.size) : Below B a b :=
  ⟨h.os, h.tape, h.output, h.size, fun x hx => h.block x (by omega) (.inl (by omega))⟩
/-- Blocks from lo on and below hi lie as they lay. -/
structure Keeps (lo hi : Nat) (w w' : World) : Prop where
  size : w.heap.size ≤ w'.heap.size
  same : ∀ b, lo ≤ b → b < hi → b < w.heap.size → w'.heap[b]? = w.heap[b]?
theorem Keeps.trans {lo hi : Nat} {a b c : World} (h : Keeps lo hi a b) (k : Keeps lo hi b c) : Keeps lo hi a c :=
  ⟨Nat.le_trans h.size k.size, fun x h1 h2 h3 => (k.same x h1 h2 (Nat.lt_of_lt_of_le h3 h.size)).trans (h.same x h1 h2 h3)⟩
theorem Keeps.refl (lo hi : Nat) (w : World) : Keeps lo hi w w := ⟨Nat.le_refl _, fun _ _ _ _ => rfl⟩
theorem Keeps.of_grown {lo hi : Nat} {w w' : World} {row : Option Nat} (h : w.grownBy w' row) (hr : ∀ k, row = some k → k < lo ∨ hi ≤ k) : Keeps lo hi w w' :=
  ⟨h.size, fun b h1 h2 h3 => h.block b h3 (fun e => by have := hr b e.symm; omega)⟩
theorem Keeps.alloc (lo hi : Nat) (w : World) (o : Obj) : Keeps lo hi w (w.alloc o) := Keeps.of_grown (World.grownBy_alloc w o none) (fun _ h => by cases h)

section
variable {F : Fence} {n : Nat} {P : Program}
/-- How a round ends: what the iterator and the loop keep lies as it lay. -/
def roundOk {α : Type} (lo hi : Nat) (I : List α → World → Prop) (xs : List α) (W : World) : Exit → Act → World → Prop
  | .normal, _, W' => Keeps lo hi W W' ∧ I xs W'
  | _, _, _ => False
/-- A range over a function whose rounds all end normally; the function keeps k blocks of its own, laid first. -/
theorem wpIn_range_win {α : Type} {g : Operand} {ps : Array Tmp} {assign body : Code} {Q : Exit → Act → World → Prop} {a : Act} {w : World}
    (hro : F.round = none) (h1 : 1 ≤ n) {gf : Nat} {lb : Array Value} (hg : a.eval g = .func (.func gf) #[] lb) (hFg : F.fn gf) (eg : ∀ args w, (callFunc gf args).run P w = .ok (.enter gf args) w)
    (b0 k : Nat) (hb0 : b0 ≤ w.heap.size) (At : α → Array Value → World → Prop) (xs : List α)
    (hseq : ∀ (l : Nat) (J : List α → World → Prop) (W : World), W.heap.size = w.heap.size + 2 → Below w.heap.size w W →
      (∀ pre A B, J pre A → Win (w.heap.size + 2) (w.heap.size + 2 + k) A B → J pre B) →
      (∀ pre x args W1, J pre W1 → (pre ++ [x]) <+: xs → w.heap.size + 2 + k ≤ W1.heap.size → At x args W1 → YieldAt F (n - 1 - 1) P l args W1 fun e W' => e = .returned (.bool true) ∧ J (pre ++ [x]) W' ∧ Keeps b0 w.heap.size W1 W' ∧ Keeps (w.heap.size + 2) (w.heap.size + 2 + k) W1 W') →
      J [] W → CallsIn F (n - 1) P gf (#[.func (.yield l) #[] #[]] ++ lb) W fun e W' => (∃ v, e = .returned v) ∧ J xs W')
    (hps : ∀ x args W, At x args W → args.size = ps.size)
    (hAt : ∀ x args A B, At x args A → Keeps (w.heap.size + 2) (w.heap.size + 2 + k) A B → w.heap.size + 2 + k ≤ A.heap.size → At x args B)
    (I : List α → World → Prop) (hI : ∀ pre A B, I pre A → Win w.heap.size (w.heap.size + 2 + k) A B → I pre B) (h0 : I [] w) (a₁ : Array Value → Act)
    (hassign : ∀ (l : Nat) (x : α) (args : Array Value) (W : World) (K : Act → World → Prop), At x args W → K (a₁ args) W →
      assign.wpIn (F.inRound l) (n - 1 - 1) P (Exit.then K (fun _ _ _ => False)) { tmps := (ps.zip args).foldl (fun t (p, v) => t.setIfInBounds p v) a.tmps, defers := [] } W)
    (hbody : ∀ (l : Nat) (pre : List α) (x : α) (args : Array Value) (W : World), I pre W → (pre ++ [x]) <+: xs → w.heap.size + 2 + k ≤ W.heap.size → At x args W →
      body.wpIn (F.inRound l) (n - 1 - 1) P (roundOk b0 (w.heap.size + 2 + k) I (pre ++ [x]) W) (a₁ args) W)
    (hdone : ∀ (W : World), I xs W → W.heap[w.heap.size]? = some (.deferred (some [])) → Q .normal { a with defers := { target := .collected w.heap.size, args := #[] } :: a.defers } W) :
    (Code.rangeFunc g ps assign body).wpIn F n P Q a w := by
  refine wpIn_rangeFunc fun fn hfn => ?_
  rw [hro]
  obtain ⟨rec, hrec⟩ : ∃ rec : LoopState → Loop, rec = fun st => { state := st, pending := none, fn, tmps := a.tmps, params := ps, assign, body, defers := w.heap.size } := ⟨_, rfl⟩
  obtain ⟨L, hL⟩ : ∃ L, L = w.heap.size + 1 := ⟨_, rfl⟩
  obtain ⟨W1, hW1⟩ : ∃ W1, (w.alloc (.deferred (some []))).alloc (.loop (rec .ready)) = W1 := ⟨_, rfl⟩
  have hs1 : W1.heap.size = w.heap.size + 2 := by rw [← hW1]; simp
  have hL1 : W1.heap[L]? = some (.loop (rec .ready)) := by
    rw [← hW1, hL]
    have := World.alloc_heap_new (w.alloc (.deferred (some []))) (.loop (rec .ready))
    rwa [World.size_alloc] at this
  have hD1 : W1.heap[w.heap.size]? = some (.deferred (some [])) := by
    rw [← hW1]
    exact (Below.heap_alloc _ _ _ (by simp)).trans (World.alloc_heap_new w _)
  have hwin1 : Win w.heap.size (w.heap.size + 2 + k) w W1 := by
    rw [← hW1]
    exact (Win.alloc _ _ _ _).trans (Win.alloc _ _ _ _)
  have hbel1 : Below w.heap.size w W1 := by
    rw [← hW1]
    exact ((Below.refl _ w).alloc (Nat.le_refl _) _).alloc (by simp) _
  refine ⟨L, [{ target := .collected w.heap.size, args := #[] }], W1, { target := .fn (.func gf) lb, args := #[.func (.yield L) #[] #[]] }, W1, gf, #[.func (.yield L) #[] #[]] ++ lb, W1, ?_, ?_, ?_, ?_, fun _ => h1, ?_⟩
  · rw [← hW1, hrec, hL]
    exact run_enterLoop_outer _ _ _ _ _
  · simp only [resolve, hg]
    simp [go_sem]
  · intro f' hf'
    simp [Target.leads] at hf'
    subst hf'
    exact hFg
  · simp [invoke, go_sem, eg]
  · refine (hseq L (fun pre W => I pre W ∧ W.heap[L]? = some (.loop (rec .ready)) ∧ W.heap[w.heap.size]? = some (.deferred (some []))) W1 hs1 hbel1 ?_ ?_ ⟨hI _ _ _ h0 hwin1, hL1, hD1⟩).mono ?_
    · rintro pre A B ⟨hi, hl, hd⟩ hw
      refine ⟨hI _ _ _ hi (hw.wider (by omega) (Nat.le_refl _)), ?_, ?_⟩
      · exact (hw.block _ (Array.getElem?_eq_some_iff.1 hl).1 (.inl (by omega))).trans hl
      · exact (hw.block _ (Array.getElem?_eq_some_iff.1 hd).1 (.inl (by omega))).trans hd
    · rintro pre x args W ⟨hi, hl, hd⟩ hpre hsz hat
      have hlt : L < W.heap.size := (Array.getElem?_eq_some_iff.1 hl).1
      have hy := run_yield (P := P) (args := args) hl (by rw [hrec]; exact hps x args W hat)
      rw [hrec] at hy
      refine ⟨fn, _, assign, body, hy, roundIn_of_wpIn hfn (hassign _ x args W _ hat ⟨_, run_beginRound hl (by rw [hrec]), ?_⟩)⟩
      have hl2 : (W.putObj L (.loop { rec .ready with state := .busy })).heap[L]? = some (.loop { rec .ready with state := .busy }) := World.putObj_heap_same hlt
      have hd2 : (W.putObj L (.loop { rec .ready with state := .busy })).heap[w.heap.size]? = some (.deferred (some [])) := (World.putObj_heap_other (by omega)).trans hd
      have hk2 : Keeps (w.heap.size + 2) (w.heap.size + 2 + k) W (W.putObj L (.loop { rec .ready with state := .busy })) := Keeps.of_grown (grownBy_putObj' W L _) (fun j e => by cases e; omega)
      refine wpIn_mono (hbody _ pre x args _ (hI _ _ _ hi (Win.putObj _ _ (by omega) (by omega))) hpre (by simpa using hsz) (hAt _ _ _ _ hat hk2 hsz)) ?_
      intro e a3 W3 hp
      cases e with
      | normal =>
        obtain ⟨hk3, hi3⟩ := hp
        have hs3 := hk3.size
        have hl3 := (hk3.same L (by omega) (by omega) (by simpa using hlt)).trans hl2
        have hd3 := (hk3.same w.heap.size (by omega) (by omega) (by simp; omega)).trans hd2
        have hlt3 : L < W3.heap.size := (Array.getElem?_eq_some_iff.1 hl3).1
        have hend := run_endRound (P := P) none hl3
        refine ⟨_, _, hend, rfl, ⟨hI _ _ _ hi3 (Win.putObj _ _ (by omega) (by omega)), ?_, (World.putObj_heap_other (by omega)).trans hd3⟩, ?_⟩
        · rw [World.putObj_heap_same hlt3, hrec]
          rfl
        · exact ⟨((Keeps.of_grown (grownBy_putObj' W L _) (fun j e => by cases e; omega)).trans ⟨hk3.size, fun b h1 h2 h3 => hk3.same b h1 (by omega) h3⟩).trans (Keeps.of_grown (grownBy_putObj' _ L _) (fun j e => by cases e; omega)), (hk2.trans ⟨hk3.size, fun b h1 h2 h3 => hk3.same b (by omega) h2 h3⟩).trans (Keeps.of_grown (grownBy_putObj' _ L _) (fun j e => by cases e; omega))⟩
      | ret => exact hp.elim
      | exit id => exact hp.elim
      | goto t => exact hp.elim
      | panic ch => exact hp.elim
      | outgrown => exact hp.elim
    · rintro e W2 ⟨⟨v, rfl⟩, hi, hl, hd⟩
      have hend := run_endLoop (P := P) hl (by rw [hrec]; simp)
      rw [hrec] at hend
      exact ⟨none, _, hend, hdone _ (hI _ _ _ hi (Win.putObj W2 _ (by omega) (by omega))) ((World.putObj_heap_other (by omega)).trans hd)⟩
end
section
variable {n : Nat} {P : Program} {Q : Exit → Act → World → Prop} {l : Nat}
/-- A region that draws its order and only reads, in a round: one walk in the order of the text. -/
theorem round_quiet {id : Nat} {a : Act} {w : World} {ls : List Oper} (hm : P.follows .mixedOrders = true) (hd : noDefer ls.toArray = true) (hL : ¬ LetsOut Q) (hB : Region.lexB .any ls.toArray = true)
    (h : wpQuiet P ls.toArray (fun w' => ∃ k, w' = w.drewN k) (fun a' => ∀ w', (∃ k, w' = w.drewN k) → Q .normal a' w') ls a) : (Code.region id ls.toArray true).wpIn (Fence.wide.inRound l) n P Q a w := by
  simp only [Region.lexB, Bool.and_eq_true] at hB
  refine wpIn_region_any hm (any_round (noDefer_spec hd) hL _ _ _ _ (wpAny_of_quiet (Q := fun a' => ∀ w', (∃ k, w' = w.drewN k) → Q .normal a' w') (fun _ w' hw' h => h w' hw') _ _ _ _ ⟨1, rfl⟩ ?_))
  have := wpAnyQ_lex (C := fun w' => ∃ k, w' = w.drewN k) (md := .any) hB.1 ls 0 (Array.replicate ls.toArray.size false) a (by simp) (by simpa using hB.2) h
  simpa using this
end
section
variable {F : Fence} {n : Nat} {P : Program}
/-- The frame behind the assignment of the one loop variable. -/
def setTwo (t : Array Value) (p q : Nat) (v : Value) : Act := { tmps := (t.setIfInBounds p v).setIfInBounds q v, defers := [] }
/-- The law at one loop variable, in slot q; yield's own parameter in slot p. -/
theorem wpIn_range_win1 {α : Type} {g : Operand} {p : Nat} (q : Nat) {assign body : Code} {Q : Exit → Act → World → Prop} {a : Act} {w : World}
    (hro : F.round = none) (h1 : 1 ≤ n) {gf : Nat} {lb : Array Value} (hg : a.eval g = .func (.func gf) #[] lb) (hFg : F.fn gf) (eg : ∀ args w, (callFunc gf args).run P w = .ok (.enter gf args) w)
    (b0 k : Nat) (hb0 : b0 ≤ w.heap.size) (At : α → Value → World → Prop) (xs : List α)
    (hseq : ∀ (l : Nat) (J : List α → World → Prop) (W : World), W.heap.size = w.heap.size + 2 → Below w.heap.size w W →
      (∀ pre A B, J pre A → Win (w.heap.size + 2) (w.heap.size + 2 + k) A B → J pre B) →
      (∀ pre x v W1, J pre W1 → (pre ++ [x]) <+: xs → w.heap.size + 2 + k ≤ W1.heap.size → At x v W1 → YieldAt F (n - 1 - 1) P l #[v] W1 fun e W' => e = .returned (.bool true) ∧ J (pre ++ [x]) W' ∧ Keeps b0 w.heap.size W1 W' ∧ Keeps (w.heap.size + 2) (w.heap.size + 2 + k) W1 W') →
      J [] W → CallsIn F (n - 1) P gf (#[.func (.yield l) #[] #[]] ++ lb) W fun e W' => (∃ v, e = .returned v) ∧ J xs W')
    (hAt : ∀ x v A B, At x v A → Keeps (w.heap.size + 2) (w.heap.size + 2 + k) A B → w.heap.size + 2 + k ≤ A.heap.size → At x v B)
    (I : List α → World → Prop) (hI : ∀ pre A B, I pre A → Win w.heap.size (w.heap.size + 2 + k) A B → I pre B) (h0 : I [] w)
    (hassign : ∀ (l : Nat) (v : Value) (W : World) (K : Act → World → Prop), K (setTwo a.tmps p q v) W →
      assign.wpIn (F.inRound l) (n - 1 - 1) P (Exit.then K (fun _ _ _ => False)) { tmps := a.tmps.setIfInBounds p v, defers := [] } W)
    (hbody : ∀ (l : Nat) (pre : List α) (x : α) (v : Value) (W : World), I pre W → (pre ++ [x]) <+: xs → w.heap.size + 2 + k ≤ W.heap.size → At x v W →
      body.wpIn (F.inRound l) (n - 1 - 1) P (roundOk b0 (w.heap.size + 2 + k) I (pre ++ [x]) W) (setTwo a.tmps p q v) W)
    (hdone : ∀ (W : World), I xs W → W.heap[w.heap.size]? = some (.deferred (some [])) → Q .normal { a with defers := { target := .collected w.heap.size, args := #[] } :: a.defers } W) :
    (Code.rangeFunc g #[p] assign body).wpIn F n P Q a w := by
  refine wpIn_range_win (At := fun x args W => ∃ v, args = #[v] ∧ At x v W) hro h1 hg hFg eg b0 k hb0 xs (fun l J W hs hb hJ hY h0 => hseq l J W hs hb hJ (fun pre x v W1 hj hp hz hat => hY pre x #[v] W1 hj hp hz ⟨v, rfl, hat⟩) h0)
    (fun x args W h => by obtain ⟨v, rfl, _⟩ := h; rfl) (fun x args A B h hk hz => by obtain ⟨v, rfl, h⟩ := h; exact ⟨v, rfl, hAt x v A B h hk hz⟩) I hI h0 (fun args => setTwo a.tmps p q (args.getD 0 undef)) ?_ ?_ hdone
  · rintro l x args W K ⟨v, rfl, _⟩ hK
    have e : (#[p].zip #[v]).foldl (fun t (x : Tmp × Value) => t.setIfInBounds x.1 x.2) a.tmps = a.tmps.setIfInBounds p v := by simp
    have h := hassign l v W K hK
    rw [← e] at h
    exact h
  · rintro l pre x args W hi hp hz ⟨v, rfl, hat⟩
    exact hbody l pre x v W hi hp hz hat
end
end Go.Proofs.Ytopmifidhabobaa
