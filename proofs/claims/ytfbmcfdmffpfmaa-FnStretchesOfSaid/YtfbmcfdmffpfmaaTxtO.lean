/-
  The box of the texts found so far, and what a search leaves as it lay.
-/
import Derived.Test.YtfbmcfdmffpfmaaTxtF
import Derived.Test.YtfbmcfdmffpfmaaValT
namespace Go.Proofs.Ytfbmcfdmffpfmaa
open Go.RowKit
set_option linter.unusedVariables false
set_option linter.unusedSimpArgs false

/-- All but one box and one row lies as it lay. -/
structure TOut (bo : Nat) (own : Option Nat) (w w' : World) : Prop where
  os : w'.os = w.os
  tape : w'.tape = w.tape
  output : w'.output = w.output
  size : w.heap.size ≤ w'.heap.size
  block : ∀ b, b < w.heap.size → b ≠ bo → some b ≠ own → w'.heap[b]? = w.heap[b]?
theorem TOut.refl (bo : Nat) (own : Option Nat) (w : World) : TOut bo own w w := ⟨rfl, rfl, rfl, Nat.le_refl _, fun _ _ _ _ => rfl⟩
theorem TOut.trans {bo : Nat} {own own' : Option Nat} {a b c : World} (h : TOut bo own a b) (k : TOut bo own' b c) (hk : ∀ m, own' = some m → own = some m ∨ a.heap.size ≤ m) : TOut bo own a c :=
  ⟨k.os.trans h.os, k.tape.trans h.tape, k.output.trans h.output, Nat.le_trans h.size k.size, fun x h1 h2 h3 => (k.block x (Nat.lt_of_lt_of_le h1 h.size) h2 (fun e => by
    rcases hk x e.symm with h4 | h4
    · exact h3 h4.symm
    · omega)).trans (h.block x h1 h2 h3)⟩
theorem TOut.of_below {bo : Nat} {own : Option Nat} {a b : World} (h : Below a.heap.size a b) : TOut bo own a b := ⟨h.os, h.tape, h.output, h.size, fun x hx _ _ => h.block x hx⟩
theorem TOut.of_grown {bo : Nat} {own : Option Nat} {a b : World} (h : a.grownBy b own) : TOut bo own a b := ⟨h.os, h.tape, h.output, h.size, fun x hx _ h3 => h.block x hx h3⟩
theorem TOut.set (bo : Nat) (own : Option Nat) (w : World) (v : Value) : TOut bo own w (w.setCell ⟨bo, 0, none⟩ v) :=
  ⟨rfl, rfl, rfl, by simp, fun x _ h2 _ => Below.heap_setCell w ⟨bo, 0, none⟩ v x h2⟩
theorem TOut.below {bo B : Nat} {own : Option Nat} {a b : World} (h : TOut bo own a b) (h1 : B ≤ bo) (h2 : B ≤ a.heap.size) (ho : ∀ k, own = some k → B ≤ k) : Below B a b :=
  ⟨h.os, h.tape, h.output, h.size, fun x hx => h.block x (by omega) (by omega) (fun e => by have := ho x e.symm; omega)⟩
theorem Rd.tout {w w' : World} {B g n c bo : Nat} {own : Option Nat} {xs : List Value} (h : Rd w B (some ⟨g, 0, none⟩) n c xs) (k : TOut bo own w w') (hB : B ≤ w.heap.size) (h1 : g ≠ bo) (h2 : some g ≠ own) : Rd w' B (some ⟨g, 0, none⟩) n c xs := by
  refine ⟨h.1, h.2.1, h.2.2.1, fun hn => ?_⟩
  obtain ⟨b, o, e, hb, hc⟩ := h.2.2.2 hn
  refine ⟨b, o, e, hb, fun j u hu => (World.cell?_of_block (k.block b (by omega) ?_ ?_)).trans (hc j u hu)⟩
  · injection e with e
    injection e with e1 e2
    omega
  · injection e with e
    injection e with e1 e2
    rw [← e1]
    exact h2
/-- The search, as a function value. -/
def fromV (bo bf : Nat) : Value := .func (.func 103) #[] #[.pointer (some ⟨bo, 0, none⟩), .pointer (some ⟨bf, 0, none⟩)]
/-- What the search has captured: the box of the texts found, and itself. -/
structure OutSt (w : World) (bo bf B : Nat) (A : Option Addr) (n c : Nat) (L : List (List UInt8)) : Prop where
  box : Boxed w bo 24 (.slice A n c)
  fr : ∃ t, t ≠ 9 ∧ Boxed w bf t (fromV bo bf)
  row : Row w B 9 A n c (L.map S)
  ne : bf ≠ bo
theorem OutSt.fr_cell {w : World} {bo bf B : Nat} {A : Option Addr} {n c : Nat} {L : List (List UInt8)} (h : OutSt w bo bf B A n c L) : w.cell? ⟨bf, 0, none⟩ = some (.func (.func 103) #[] #[.pointer (some ⟨bo, 0, none⟩), .pointer (some ⟨bf, 0, none⟩)]) := by
  obtain ⟨t, ht, hb⟩ := h.fr
  exact hb.cell
theorem OutSt.off_box {w : World} {bo bf B : Nat} {A : Option Addr} {n c : Nat} {L : List (List UInt8)} (h : OutSt w bo bf B A n c L) : some bo ≠ (Value.slice A n c).ownBlock := h.box.not_row (by decide) h.row
theorem OutSt.off_fr {w : World} {bo bf B : Nat} {A : Option Addr} {n c : Nat} {L : List (List UInt8)} (h : OutSt w bo bf B A n c L) : some bf ≠ (Value.slice A n c).ownBlock := by
  obtain ⟨t, ht, hb⟩ := h.fr
  exact hb.not_row ht h.row
theorem OutSt.kept {w w' : World} {bo bf B : Nat} {A : Option Addr} {n c : Nat} {L : List (List UInt8)} (h : OutSt w bo bf B A n c L) (hb : Below w.heap.size w w') : OutSt w' bo bf B A n c L := by
  obtain ⟨t, ht, hf⟩ := h.fr
  exact ⟨(hb.block bo h.box.lt).trans h.box, ⟨t, ht, (hb.block bf hf.lt).trans hf⟩, h.row.kept hb, h.ne⟩
theorem OutSt.lt {w : World} {bo bf B : Nat} {A : Option Addr} {n c : Nat} {L : List (List UInt8)} (h : OutSt w bo bf B A n c L) : ∀ k, (Value.slice A n c).ownBlock = some k → k < w.heap.size := fun k hk => (World.ownsRow.lt h.row k hk).2
/-- A text more. -/
theorem OutSt.put {w w1 : World} {bo bf B : Nat} {A A2 : Option Addr} {n c c2 : Nat} {L : List (List UInt8)} {x : List UInt8} {o : Obj} (h : OutSt w bo bf B A n c L) (hrow : Row w1 B 9 A2 (n + 1) c2 (L.map S ++ [S x])) (hg : (w.alloc o).grownBy w1 (Value.slice A n c).ownBlock)
    (ho : (Value.slice A2 (n + 1) c2).ownBlock = (Value.slice A n c).ownBlock ∨ (Value.slice A2 (n + 1) c2).ownBlock = some (w.alloc o).heap.size) :
    OutSt (w1.setCell ⟨bo, 0, none⟩ (.slice A2 (n + 1) c2)) bo bf B A2 (n + 1) c2 (L ++ [x]) ∧ TOut bo (Value.slice A n c).ownBlock w (w1.setCell ⟨bo, 0, none⟩ (.slice A2 (n + 1) c2)) ∧ ∀ k, (Value.slice A2 (n + 1) c2).ownBlock = some k → (Value.slice A n c).ownBlock = some k ∨ w.heap.size ≤ k := by
  obtain ⟨t, ht, hf⟩ := h.fr
  have b1 : Boxed w1 bo 24 (.slice A n c) := (h.box.alloc o).kept hg h.off_box
  have f1 : Boxed w1 bf t (fromV bo bf) := (hf.alloc o).kept hg h.off_fr
  refine ⟨⟨b1.set _, ⟨t, ht, f1.other h.ne _⟩, ?_, h.ne⟩, ?_, fun k hk => ?_⟩
  · rw [List.map_append]
    exact World.ownsRow.kept hrow (grownBy_setCell' w1 bo _) (.inr fun e => b1.not_row (by decide) hrow e.symm)
  · exact (TOut.of_below ((Below.refl _ w).alloc (Nat.le_refl _) o)).trans ((TOut.of_grown hg).trans (TOut.set bo _ w1 _) fun m hm => .inl hm) fun m hm => .inl hm
  · rcases ho with e | e
    · rw [e] at hk
      exact .inl hk
    · rw [e] at hk
      injection hk with hk
      right
      rw [← hk]
      simp
end Go.Proofs.Ytfbmcfdmffpfmaa
