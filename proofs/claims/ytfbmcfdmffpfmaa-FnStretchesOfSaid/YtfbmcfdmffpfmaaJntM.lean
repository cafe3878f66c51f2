/-
  A map of joints that the call makes: read and written.
-/
import Derived.Test.YtfbmcfdmffpfmaaJntL
import Derived.Test.YtfbmcfdmffpfmaaKeys
namespace Go.Proofs.Ytfbmcfdmffpfmaa
open Go.RowKit Go.Maps Go.Sort Go.Shelf
set_option linter.unusedVariables false
set_option linter.unusedSimpArgs false

/-- A joint, as a value and as it reads. -/
def jv (j : Jt) : Value := .agg #[.int .i64 (j.e : Nat), .int .i64 (j.b : Nat), .string ⟨j.n.toArray⟩]
def jd (j : Jt) : DU := .agg [.lit (.int .i64 (j.e : Nat)), .lit (.int .i64 (j.b : Nat)), .lit (.string j.n)]
def jR : Value → Option (DU × List MemPlace)
  | .agg cs => match cs.toList with
    | [.int .i64 a, .int .i64 b, .string s] => some (.agg [.lit (.int .i64 a), .lit (.int .i64 b), .lit (.string s.data.toList)], [])
    | _ => none
  | _ => none
theorem jR_jv (j : Jt) : jR (jv j) = some (jd j, []) := rfl
theorem jR_inv {v : Value} {j : Jt} {ps : List MemPlace} (h : jR v = some (jd j, ps)) : v = jv j := by
  unfold jR at h
  split at h
  · next cs =>
    split at h
    · next a b s hc =>
      unfold jd at h
      simp only [Option.some.injEq, Prod.mk.injEq, DataW.agg.injEq, List.cons.injEq, DataW.lit.injEq, Lit.int.injEq, Lit.string.injEq, true_and, and_true] at h
      obtain ⟨⟨rfl, rfl, hs⟩, _⟩ := h
      unfold jv
      congr 1
      apply Array.toList_inj.1
      rw [hc]
      have : s = ⟨j.n.toArray⟩ := by
        cases s with
        | mk d => rw [← hs]
      rw [this]
    · cases h
  · cases h
theorem Try.zeroJ (w : World) : (zeroValue 65).run Try.prog w = .ok (jv ⟨0, 0, []⟩) w := by kernel_rfl
/-- The map of block b holds joints: those of f. -/
def JMap (w : World) (b n : Nat) (f : List UInt8 → Jt) : Prop := ∃ D : DU, w.ownsMap Try.prog 9 jR b n D ∧ IsMap D ∧ ∀ x, D.atKey (.string x) (jd ⟨0, 0, []⟩) = jd (f x)
theorem JMap.start (w : World) : JMap (w.alloc (.map #[] 0)) w.heap.size 0 (fun _ => ⟨0, 0, []⟩) := ⟨.map [], World.ownsMap_made _ _ _ _, ⟨[], rfl⟩, fun x => rfl⟩
theorem JMap.congr {w : World} {b n : Nat} {f g : List UInt8 → Jt} (h : JMap w b n f) (e : f = g) : JMap w b n g := e ▸ h
theorem JMap.lt {w : World} {b n : Nat} {f : List UInt8 → Jt} (h : JMap w b n f) : b < w.heap.size := by
  obtain ⟨D, h1, _⟩ := h
  exact h1.lt
theorem JMap.kept {w w' : World} {b n : Nat} {f : List UInt8 → Jt} {row : Option Nat} (h : JMap w b n f) (hg : w.grownBy w' row) (hne : some b ≠ row) : JMap w' b n f := by
  obtain ⟨D, h1, h2⟩ := h
  exact ⟨D, h1.kept hg hne, h2⟩
theorem JMap.below {w w' : World} {b n : Nat} {f : List UInt8 → Jt} (h : JMap w b n f) (hb : Below w.heap.size w w') : JMap w' b n f :=
  h.kept (row := none) ⟨hb.os, hb.tape, hb.output, hb.size, fun i hi _ => hb.block i hi⟩ (by simp)
theorem JMap.mono {w : World} {b n m : Nat} {f : List UInt8 → Jt} (h : JMap w b n f) (hm : n ≤ m) : JMap w b m f := by
  obtain ⟨D, h1, h2⟩ := h
  exact ⟨D, h1.mono hm, h2⟩
theorem wpList_lookup_j (w : World) {ops : Array Oper} {rest : List Oper} {o : Oper} {a : Act} {Q : Exit → Act → World → Prop}
    (hg : o.guard = none) (m x : Operand) (hop : o.op = Op.lookup 63 m x false) (b n : Nat) (f : List UInt8 → Jt)
    (hm : a.eval m = .map (some b)) (hown : JMap w b n f) (y : List UInt8) (hx : a.eval x = .string ⟨y.toArray⟩) (hy : y.length ≤ 1048576)
    (hK : wpList Try.prog ops Q rest (a.put o.dst (jv (f y))) w) : wpList Try.prog ops Q (o :: rest) a w := by
  refine wpList_plain hg fun K' hK' => ?_
  obtain ⟨D, h1, h2, h3⟩ := hown
  obtain ⟨v, ps, hrun, hv⟩ := h1.lookup Try.lawK Try.underlying63 (Try.zeroJ w) (jR_jv _) (key_of y hy)
  rw [h3] at hv
  have hv := jR_inv hv
  subst hv
  unfold Oper.wp
  simp [execOp, hop, hm, hx, hrun, Result.andThen]
  exact hK' _ _ hK
theorem wpList_store_j (w : World) {ops : Array Oper} {rest : List Oper} {o : Oper} {a : Act} {Q : Exit → Act → World → Prop}
    (hg : o.guard = none) (m x v : Operand) (hop : o.op = Op.mapUpdate 63 m x v) (b n : Nat) (f : List UInt8 → Jt)
    (hm : a.eval m = .map (some b)) (hown : JMap w b n f) (hn : n ≤ 1000000) (y : List UInt8) (j : Jt) (hx : a.eval x = .string ⟨y.toArray⟩) (hy : y.length ≤ 1048576) (hv : a.eval v = jv j)
    (hK : ∀ w', JMap w' b (n + 1) (updJ f y j) → w.grownBy w' (some b) → wpList Try.prog ops Q rest (a.put o.dst undef) w') : wpList Try.prog ops Q (o :: rest) a w := by
  obtain ⟨D, h1, h2, h3⟩ := hown
  refine wpList_mapUpdate_own w hg m x v 63 hop 9 65 Try.lawK Try.underlying63 jR b n D hm h1 (by unfold maxLen; omega) _ _ (.string y) hx hv (key_of y hy) (jd j) [] (jR_jv j) ?_
  intro w' hown' hgrow
  refine hK w' ⟨_, hown', ?_, fun z => ?_⟩ hgrow
  · obtain ⟨es, rfl⟩ := h2
    exact ⟨_, rfl⟩
  · unfold updJ
    by_cases e : y = z
    · subst e
      rw [if_pos rfl, atKey_put_same h2 (keyLit y)]
    · have hne : (Lit.string z) ≠ .string y := fun h => e (by injection h with h; exact h.symm)
      rw [if_neg e, atKey_put_other hne, h3]
end Go.Proofs.Ytfbmcfdmffpfmaa
