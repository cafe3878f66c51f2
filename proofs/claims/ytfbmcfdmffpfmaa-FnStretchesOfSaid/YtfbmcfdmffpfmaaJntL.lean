/-
  Plain words for joints: what is known of letters after some of the words.
-/
import Derived.Test.YtfbmcfdmffpfmaaStrL
namespace Go.Proofs.Ytfbmcfdmffpfmaa
set_option linter.unusedVariables false
set_option linter.unusedSimpArgs false

/-- The last word that begins with letters. -/
def lastB (k : Nat) (l : List (List UInt8)) (p : List UInt8) : List UInt8 := l.foldl (fun acc y => if y.take (k - 1) = p then y else acc) []
theorem lastB_snoc (k : Nat) (l : List (List UInt8)) (y p : List UInt8) : lastB k (l ++ [y]) p = if y.take (k - 1) = p then y else lastB k l p := by
  unfold lastB
  rw [List.foldl_append]
  rfl
theorem fold_last {k : Nat} {p : List UInt8} : ∀ (l : List (List UInt8)) (acc : List UInt8), (l.foldl (fun acc y => if y.take (k - 1) = p then y else acc) acc = acc ∧ ∀ y ∈ l, y.take (k - 1) ≠ p) ∨ ((l.foldl (fun acc y => if y.take (k - 1) = p then y else acc) acc) ∈ l ∧ (l.foldl (fun acc y => if y.take (k - 1) = p then y else acc) acc).take (k - 1) = p) := by
  intro l
  induction l with
  | nil => intro acc; exact .inl ⟨rfl, by simp⟩
  | cons a l ih =>
    intro acc
    rw [List.foldl_cons]
    by_cases h : a.take (k - 1) = p
    · rw [if_pos h]
      rcases ih a with ⟨h1, h2⟩ | ⟨h1, h2⟩
      · exact .inr ⟨by rw [h1]; simp, by rw [h1]; exact h⟩
      · exact .inr ⟨by simp [h1], h2⟩
    · rw [if_neg h]
      rcases ih acc with ⟨h1, h2⟩ | ⟨h1, h2⟩
      · refine .inl ⟨h1, fun y hy => ?_⟩
        rcases List.mem_cons.1 hy with rfl | hy
        · exact h
        · exact h2 y hy
      · exact .inr ⟨by simp [h1], h2⟩
theorem lastB_nxw {k : Nat} {all : List (List UInt8)} {p : List UInt8} (h : psd k all p = true) : lastB k all p = nxw k all p := by
  have hb := begs_one h
  unfold lastB
  rcases fold_last (k := k) (p := p) all [] with ⟨_, h2⟩ | ⟨h1, h2⟩
  · exact absurd hb.2 (h2 _ hb.1)
  · exact (begs_uni h h1 h2).symm
theorem lastB_len {k : Nat} {all : List (List UInt8)} {p : List UInt8} (h : ∀ x ∈ all, x.length ≤ 6) : (lastB k all p).length ≤ 6 := by
  unfold lastB
  rcases fold_last (k := k) (p := p) all [] with ⟨h1, _⟩ | ⟨h1, _⟩
  · rw [h1]; simp
  · exact h _ h1
/-- What is known of letters: how many words end with them, how many begin with them, the last of these. -/
structure Jt where
  e : Nat
  b : Nat
  n : List UInt8
def jOf (k : Nat) (l : List (List UInt8)) (p : List UInt8) : Jt := ⟨endsN l p, begsN k l p, lastB k l p⟩
def updJ (f : List UInt8 → Jt) (p : List UInt8) (v : Jt) : List UInt8 → Jt := fun q => if p = q then v else f q
theorem endsN_snoc (l : List (List UInt8)) (y p : List UInt8) : endsN (l ++ [y]) p = endsN l p + if y.drop 1 = p then 1 else 0 := by
  unfold endsN
  rw [List.countP_append, List.countP_singleton]
  simp
theorem begsN_snoc (k : Nat) (l : List (List UInt8)) (y p : List UInt8) : begsN k (l ++ [y]) p = begsN k l p + if y.take (k - 1) = p then 1 else 0 := by
  unfold begsN
  rw [List.countP_append, List.countP_singleton]
  simp
theorem endsN_le (l : List (List UInt8)) (p : List UInt8) : endsN l p ≤ l.length := List.countP_le_length
theorem begsN_le (k : Nat) (l : List (List UInt8)) (p : List UInt8) : begsN k l p ≤ l.length := List.countP_le_length
/-- One word more: the two places at which something is put. -/
theorem jOf_step {k : Nat} {l : List (List UInt8)} {y : List UInt8} {a b : List UInt8} (ha : a = y.take (k - 1)) (hb : b = y.drop 1) {j1 j2 : Jt} (h1 : j1 = ⟨(jOf k l a).e, (jOf k l a).b + 1, y⟩) (h2 : j2 = ⟨(updJ (jOf k l) a j1 b).e + 1, (updJ (jOf k l) a j1 b).b, (updJ (jOf k l) a j1 b).n⟩) :
    updJ (updJ (jOf k l) a j1) b j2 = jOf k (l ++ [y]) := by
  funext q
  unfold jOf
  rw [endsN_snoc, begsN_snoc, lastB_snoc]
  subst ha hb h1 h2
  unfold updJ jOf
  by_cases e1 : y.drop 1 = q
  · subst e1
    rw [if_pos rfl, if_pos rfl]
    by_cases e2 : y.take (k - 1) = y.drop 1
    · rw [if_pos e2, if_pos e2, if_pos e2]
      simp [e2]
    · rw [if_neg e2, if_neg e2, if_neg e2]
      simp
  · rw [if_neg e1, if_neg e1]
    by_cases e2 : y.take (k - 1) = q
    · subst e2
      rw [if_pos rfl, if_pos rfl, if_pos rfl]
      simp
    · rw [if_neg e2, if_neg e2, if_neg e2]
      simp
theorem jOf_nil (k : Nat) (p : List UInt8) : jOf k [] p = ⟨0, 0, []⟩ := rfl
/-- Letters are passed: as the joints tell. -/
theorem psd_j (k : Nat) (all : List (List UInt8)) (p : List UInt8) : psd k all p = (decide ((jOf k all p).e = 1) && decide ((jOf k all p).b = 1)) := rfl
/-- The texts for the words up to an index. -/
def begTo (k : Nat) (all : List (List UInt8)) (i : Nat) : List (List UInt8) := ((all.take i).filter fun x => !psd k all (x.take (k - 1))).map (strT k all)
theorem begTo_all (k : Nat) (all : List (List UInt8)) : begTo k all all.length = (begT k all).map (strT k all) := by unfold begTo begT; rw [List.take_length]
theorem take_ats {all : List (List UInt8)} {i : Nat} {x : List UInt8} (h : all[i]? = some x) : all.take (i + 1) = all.take i ++ [x] := by rw [List.take_add_one, h]; rfl
theorem begTo_skip {k : Nat} {all : List (List UInt8)} {i : Nat} {x : List UInt8} (h : all[i]? = some x) (hp : psd k all (x.take (k - 1)) = true) : begTo k all (i + 1) = begTo k all i := by
  unfold begTo
  rw [take_ats h, List.filter_append]
  simp [hp]
theorem begTo_go {k : Nat} {all : List (List UInt8)} {i : Nat} {x : List UInt8} (h : all[i]? = some x) (hp : psd k all (x.take (k - 1)) = false) : begTo k all (i + 1) = begTo k all i ++ [strT k all x] := by
  unfold begTo
  rw [take_ats h, List.filter_append]
  simp [hp]
theorem begTo_len (k : Nat) (all : List (List UInt8)) (i : Nat) : (begTo k all i).length ≤ i := by
  unfold begTo
  rw [List.length_map]
  exact Nat.le_trans (List.length_filter_le _ _) (by rw [List.length_take]; omega)
/-- Where a way ends. -/
theorem Pth.stop {k : Nat} {all : List (List UInt8)} {x : List UInt8} (W : Wds k all) (hx : x ∈ all) (n : psd k all (x.take (k - 1)) = false) {vis : List (List UInt8)} {s : List UInt8} (h : Pth k all x vis s) (hp : psd k all (endT k s) = false) : strT k all x = s := by
  rw [h.run W hx n, run_stop hp]
theorem Pth.len {k : Nat} {all : List (List UInt8)} {x : List UInt8} (W : Wds k all) (hx : x ∈ all) (n : psd k all (x.take (k - 1)) = false) {vis : List (List UInt8)} {s : List UInt8} (h : Pth k all x vis s) : k ≤ s.length ∧ s.length + 1 ≤ k + all.length ∧ (k = 1 + (k - 1)) := by
  have h1 := h.short W hx n
  obtain ⟨_, h2, y, r, he, _⟩ := h.facts W hx
  have h3 : 1 ≤ vis.length := by rw [he]; simp
  have := W.k2
  omega
theorem SO_go {ws : List (List UInt8)} (h : vwd ws = true) (h2 : 2 ≤ klen ws) : SO ws = stT ((begT (klen ws) (dd ws)).map (strT (klen ws) (dd ws))) := by
  unfold SO
  rw [h, decide_eq_true h2]
  rfl
theorem SO_no {ws : List (List UInt8)} (h : vwd ws = false ∨ klen ws < 2) : SO ws = [] := by
  unfold SO
  rcases h with h | h
  · rw [h]; rfl
  · rw [decide_eq_false (by omega)]; simp
end Go.Proofs.Ytfbmcfdmffpfmaa
