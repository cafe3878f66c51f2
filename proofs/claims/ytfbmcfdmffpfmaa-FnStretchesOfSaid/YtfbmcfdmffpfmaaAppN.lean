/-
  Small words: a number in a list; append of many cells.
-/
import Derived.Test.YtfbmcfdmffpfmaaRegn
import Derived.Maps.AppendAt
namespace Go.Proofs.Ytfbmcfdmffpfmaa
open Go.RowKit
set_option linter.unusedVariables false
set_option linter.unusedSimpArgs false

theorem take_snoc {zs : List Int} {k : Nat} {x : Int} (h : zs[k]? = some x) : zs.take (k + 1) = zs.take k ++ [x] := by
  obtain ⟨hk, rfl⟩ := List.getElem?_eq_some_iff.1 h
  exact List.take_succ_eq_append_getElem hk
theorem wpList_appN {P : Program} (w : World) {ops : Array Oper} {rest : List Oper} {o : Oper} {a : Act} {Q : Exit → Act → World → Prop} (hgd : o.guard = none) (s x : Operand) (t : TypeId)
    (ho : o.op = .call { callee := .builtin .append, args := #[s, x], argTypes := #[t, t] })
    (B : Nat) (e : TypeId) (i : TypeInfo) (z : Value) (bytes : Nat) (ht : P.underlying t = some (.slice e)) (hi : P.info? e = some i) (hz : i.zero = some z)
    (hsize : i.size = 1) (hby : i.bytes = bytes) (hzs : z.cells.size = 1)
    (A : Option Addr) (n c : Nat) (xs : List Value) (hs : a.eval s = .slice A n c) (hown : Row w B e A n c xs)
    (ad : Addr) (m cm : Nat) (news : List Value) (hx : a.eval x = .slice (some ad) m cm) (hl : news.length = m) (hnews : ∀ j u, news[j]? = some u → w.cell? (ad.add j) = some u) (h1 : ∀ u ∈ news, u.oneCell' = true)
    (k : Nat) (hk : n + m = k) (hn : k ≤ 4398046511104) (hbytes : bytes ≤ 32) (hbase : B ≤ w.heap.size)
    (h : ∀ A' c' w', Row w' B e A' k c' (xs ++ news) → w.grownBy w' (Value.slice A n c).ownBlock → ((Value.slice A' k c').ownBlock = (Value.slice A n c).ownBlock ∨ (Value.slice A' k c').ownBlock = some w.heap.size) → wpList P ops Q rest (a.put o.dst (.slice A' k c')) w') : wpList P ops Q (o :: rest) a w := by
  subst hk
  have hb2 : (n + m) * bytes ≤ 140737488355328 := by
    calc (n + m) * bytes ≤ (n + m) * 32 := Nat.mul_le_mul_left _ hbytes
      _ ≤ 140737488355328 := by omega
  refine wpList_append_own_at w hgd s x t ho B e i z 1 bytes ht hi hz hsize hby hzs (by omega) _ n xs hs hown ad m cm news hx (by rw [hl, Nat.mul_one]) hnews h1 (by unfold maxLen; omega) hb2 hbase ?_
  intro v' w' h2 h3 _ h5
  obtain ⟨A', c', rfl⟩ := Row.form h2
  exact h A' c' w' h2 h3 h5
theorem oneIs (zs : List Int) : ∀ u ∈ zs.map I, u.oneCell' = true := by
  intro u hu
  obtain ⟨x, _, rfl⟩ := List.mem_map.1 hu
  rfl
theorem rd_news {w : World} {B g m c : Nat} {xs : List Value} (h : Rd w B (some ⟨g, 0, none⟩) m c xs) : ∀ j u, xs[j]? = some u → w.cell? ((⟨g, 0, none⟩ : Addr).add j) = some u := by
  intro j u hu
  have hj : j < xs.length := (List.getElem?_eq_some_iff.1 hu).1
  obtain ⟨b, o, e, hb, hc⟩ := h.2.2.2 (by have := h.1; omega)
  injection e with e
  injection e with e1 e2
  subst e1 e2
  have hadd : (⟨g, 0, none⟩ : Addr).add j = ⟨g, 0 + j, none⟩ := by unfold Addr.add; split <;> simp_all
  rw [hadd]
  exact hc j u hu
theorem Rd.aside {w w' : World} {B : Nat} {A : Option Addr} {n c : Nat} {xs : List Value} {row : Option Nat} (h : Rd w B A n c xs) (hg : w.grownBy w' row) (hB : B ≤ w.heap.size) (hne : 0 < n → ∀ b o, A = some ⟨b, o, none⟩ → row ≠ some b) : Rd w' B A n c xs := by
  refine ⟨h.1, h.2.1, h.2.2.1, fun hn => ?_⟩
  obtain ⟨b, o, e, hb, hc⟩ := h.2.2.2 hn
  exact ⟨b, o, e, hb, fun j u hu => (World.cell?_of_block (hg.block b (by omega) (fun e' => hne hn b o e e'.symm))).trans (hc j u hu)⟩
end Go.Proofs.Ytfbmcfdmffpfmaa
