/-
  Plain laws of FactorsOf, LongestTwice, MissingOf, OnceFrom, WindowsOf.
-/
import Derived.Test.YtfbmcfdmffpfmaaFac
namespace Go.Proofs.Ytfbmcfdmffpfmaa
set_option linter.unusedVariables false
set_option linter.unusedSimpArgs false

/-! ### plain words -/
def twice (s : List UInt8) (k : Nat) (x : List UInt8) : Bool := decide (2 ≤ (winds s k).count x)
def ltF (s : List UInt8) : Nat → List UInt8
  | 0 => []
  | k + 1 => ((fac s (k + 1)).find? (twice s (k + 1))).getD (ltF s k)
def LT (s : List UInt8) : List UInt8 := if vt s then ltF s (s.length - 1) else []
theorem windsTo_count (s : List UInt8) (k j : Nat) (x : List UInt8) : (windsTo s k (j + 1)).count x = (windsTo s k j).count x + (if win s k j == x then 1 else 0) := by
  rw [windsTo_succ, List.count_append, List.count_singleton]
theorem windsTo_count_le (s : List UInt8) (k j : Nat) (x : List UInt8) : (windsTo s k j).count x ≤ j := by
  have := List.count_le_length (a := x) (l := windsTo s k j)
  rwa [windsTo_len] at this
theorem find_take_some {α : Type} {p : α → Bool} {l : List α} {i : Nat} {x : α} (h : ∀ y ∈ l.take i, p y = false) (hx : l[i]? = some x) (hp : p x = true) : l.find? p = some x := by
  obtain ⟨h1, he⟩ := List.getElem?_eq_some_iff.1 hx
  have e : l = l.take i ++ x :: l.drop (i + 1) := by rw [← he, ← List.drop_eq_getElem_cons h1, List.take_append_drop]
  rw [e, List.find?_append, List.find?_eq_none.2 (fun y hy => by simp [h y hy]), List.find?_cons_of_pos hp]
  rfl
theorem find_none_all {α : Type} {p : α → Bool} {l : List α} {i : Nat} (h : ∀ y ∈ l.take i, p y = false) (hi : l.length ≤ i) : l.find? p = none := by
  rw [List.take_of_length_le hi] at h
  exact List.find?_eq_none.2 fun y hy => by simp [h y hy]
theorem take_all_snoc {α : Type} {p : α → Prop} {l : List α} {i : Nat} {x : α} (h : ∀ y ∈ l.take i, p y) (hx : l[i]? = some x) (hp : p x) : ∀ y ∈ l.take (i + 1), p y := by
  obtain ⟨h1, rfl⟩ := List.getElem?_eq_some_iff.1 hx
  intro y hy
  rw [List.take_succ_eq_append_getElem h1, List.mem_append, List.mem_singleton] at hy
  rcases hy with hy | rfl
  · exact h y hy
  · exact hp

/-- What FactorsOf is, what WindowsOf is. -/
def FO (s : List UInt8) (k : Int) : List (List UInt8) := if vt s && inR k 0 40 then fac s k.toNat else []
def WO (s : List UInt8) (k : Int) : List (List UInt8) := if vt s && inR k 1 6 then stT (winds s k.toNat) else []

/-! ### parts have parts -/
theorem win_drop (s : List UInt8) (k i : Nat) : (win s k i).drop 1 = win s (k - 1) (i + 1) := by
  unfold win
  rw [List.drop_take, List.drop_drop]
theorem win_dropLast {s : List UInt8} {k i : Nat} (h : i + k ≤ s.length) : (win s k i).dropLast = win s (k - 1) i := by
  unfold win
  rw [List.dropLast_eq_take, List.take_take, List.length_take, List.length_drop, show min (min k (s.length - i) - 1) k = k - 1 by omega]
theorem fac_drop {s : List UInt8} {k : Nat} {x : List UInt8} (hk : 1 ≤ k) (h : x ∈ fac s k) : x.drop 1 ∈ fac s (k - 1) := by
  rw [fac_mem] at h ⊢
  obtain ⟨i, hi, rfl⟩ := (winds_mem s k x).1 h
  exact (winds_mem s (k - 1) _).2 ⟨i + 1, by omega, (win_drop s k i).symm⟩
theorem fac_has {s : List UInt8} {k : Nat} {x : List UInt8} (h : x ∈ fac s k) : x.length = k ∧ hasL s x = true := by
  rw [fac_mem] at h
  have hl := winds_memlen h
  exact ⟨hl, winds_has.2 (by rw [hl]; exact h)⟩
theorem has_fac {s x : List UInt8} (h : hasL s x = true) : x ∈ fac s x.length := by rw [fac_mem]; exact winds_has.1 h
theorem has_drop {s x : List UInt8} (h : hasL s x = true) (hx : x ≠ []) : hasL s (x.drop 1) = true := by
  have h1 := fac_drop (k := x.length) (List.length_pos_iff.2 hx) (has_fac h)
  exact (fac_has h1).2
theorem has_le {s x : List UInt8} (h : hasL s x = true) : x.length ≤ s.length := by
  rw [hasL_iff] at h
  exact h.length_le
theorem has_trans {s x y : List UInt8} (h : hasL s x = true) (k : hasL x y = true) : hasL s y = true := by
  rw [hasL_iff] at h k ⊢
  exact k.trans h
theorem fac_count {s : List UInt8} {k : Nat} {x : List UInt8} (h : x ∈ fac s k) : (fac s k).length ≤ max (s.length + 1 - k) 1 := by
  have := fac_len s k
  omega

/-! ### what is longer stands once -/
theorem dd_nodup {l : List (List UInt8)} (h : l.Nodup) : (dd l).length = l.length :=
  ((List.perm_ext_iff_of_nodup (dd_asc l).nodup h).2 fun z => dd_mem l z).length_eq
theorem nodup_of_twice {s : List UInt8} {k : Nat} (h : (fac s k).find? (twice s k) = none) : (winds s k).Nodup := by
  rw [List.nodup_iff_count]
  intro x
  by_cases hx : x ∈ winds s k
  · have h1 := List.find?_eq_none.1 h x ((fac_mem s k x).2 hx)
    unfold twice at h1
    simp at h1
    omega
  · rw [List.count_eq_zero.2 hx]
    omega
theorem ltF_law (s : List UInt8) : ∀ m : Nat, (ltF s m = [] ∨ (1 ≤ (ltF s m).length ∧ (ltF s m).length ≤ m ∧ ltF s m ∈ fac s (ltF s m).length ∧ 2 ≤ cntW s (ltF s m))) ∧ ∀ k, (ltF s m).length < k → k ≤ m → (winds s k).Nodup := by
  intro m
  induction m with
  | zero => exact ⟨.inl rfl, fun k h1 h2 => by omega⟩
  | succ m ih =>
    rw [ltF]
    cases hf : (fac s (m + 1)).find? (twice s (m + 1)) with
    | none =>
      rw [Option.getD_none]
      refine ⟨ih.1.imp id fun h => ⟨h.1, by omega, h.2.2⟩, fun k h1 h2 => ?_⟩
      rcases Nat.lt_or_ge m k with h3 | h3
      · obtain rfl : k = m + 1 := by omega
        exact nodup_of_twice hf
      · exact ih.2 k h1 h3
    | some x =>
      rw [Option.getD_some]
      have hm := List.mem_of_find?_eq_some hf
      have hx := fac_has hm
      have ht := List.find?_some hf
      refine ⟨.inr ⟨by omega, by omega, by rw [hx.1]; exact hm, ?_⟩, fun k h1 h2 => by omega⟩
      unfold twice at ht
      unfold cntW
      rw [hx.1]
      simpa using ht
theorem LT_law {s : List UInt8} (h : vt s = true) : (LT s = [] ∨ 2 ≤ cntW s (LT s)) ∧ (LT s).length ≤ s.length - 1 ∧ vt (LT s) = true ∧ (fac s ((LT s).length + 1)).length = s.length - (LT s).length := by
  have e : LT s = ltF s (s.length - 1) := by unfold LT; rw [h]; rfl
  obtain ⟨h1, h2⟩ := ltF_law s (s.length - 1)
  rw [e]
  have hle : (ltF s (s.length - 1)).length ≤ s.length - 1 := by
    rcases h1 with h1 | h1
    · rw [h1]; simp
    · exact h1.2.1
  refine ⟨h1.imp id fun h => h.2.2.2, hle, ?_, ?_⟩
  · rcases h1 with h1 | h1
    · rw [h1]; rfl
    · refine vt_mk (fun c hc => vt_ok h c ?_) (by have := vt_len h; omega)
      have h3 := (fac_has h1.2.2.1).2
      rw [hasL_iff] at h3
      exact h3.subset hc
  · have hn : (winds s ((ltF s (s.length - 1)).length + 1)).Nodup := by
      rcases Nat.lt_or_ge (ltF s (s.length - 1)).length (s.length - 1) with h3 | h3
      · exact h2 _ (by omega) (by omega)
      · have hl := winds_len s ((ltF s (s.length - 1)).length + 1)
        rcases hw : winds s ((ltF s (s.length - 1)).length + 1) with _ | ⟨a, _ | ⟨b, r⟩⟩
        · exact List.nodup_nil
        · simp
        · rw [hw] at hl
          simp at hl
          omega
    unfold fac
    rw [dd_nodup hn, winds_len]
    omega
/-- A word that stands twice is no longer than LongestTwice. -/
theorem LT_most {s x : List UInt8} (h : vt s = true) (hx : x ≠ []) (h2 : 2 ≤ cntW s x) : x.length ≤ (LT s).length := by
  have e : LT s = ltF s (s.length - 1) := by unfold LT; rw [h]; rfl
  rw [e]
  rcases Nat.lt_or_ge (ltF s (s.length - 1)).length x.length with h3 | h3
  · have hl : x.length ≤ s.length - 1 := by
      have h4 := List.count_le_length (a := x) (l := winds s x.length)
      rw [winds_len] at h4
      unfold cntW at h2
      omega
    have := List.nodup_iff_count.1 ((ltF_law s (s.length - 1)).2 x.length h3 hl) x
    unfold cntW at h2
    omega
  · exact h3

/-! ### missing words -/
def L4m : List UInt8 := [97, 98, 99, 100]
def miss1 (s x : List UInt8) : List (List UInt8) := (L4m.map fun c => x ++ [c]).filter fun y => !hasL s y && hasL s (y.drop 1)
def missK (s : List UInt8) (k : Nat) : List (List UInt8) := (fac s k).flatMap (miss1 s)
def missA (s : List UInt8) (m : Nat) : List (List UInt8) := (List.range m).flatMap (missK s)
def MS (s : List UInt8) : List (List UInt8) := if vt s && decide (s.length ≤ 12) then missA s (s.length + 1) else []
theorem miss_mem {s y : List UInt8} : y ∈ missA s (s.length + 1) ↔ ∃ x c, y = x ++ [c] ∧ c ∈ L4m ∧ hasL s x = true ∧ hasL s y = false ∧ hasL s (y.drop 1) = true := by
  unfold missA missK miss1
  simp only [List.mem_flatMap, List.mem_filter, List.mem_map, List.mem_range, Bool.and_eq_true, Bool.not_eq_true']
  constructor
  · rintro ⟨k, hk, x, hx, ⟨c, hc, rfl⟩, h1, h2⟩
    exact ⟨x, c, rfl, hc, (fac_has hx).2, h1, h2⟩
  · rintro ⟨x, c, rfl, hc, hx, h1, h2⟩
    exact ⟨x.length, by have := has_le hx; omega, x, has_fac hx, ⟨c, hc, rfl⟩, h1, h2⟩
theorem MS_mem {s y : List UInt8} (h : y ∈ MS s) : hasL s y = false ∧ hasL s (y.drop 1) = true ∧ hasL s y.dropLast = true ∧ 1 ≤ y.length ∧ vt y = true ∧ vt s = true := by
  unfold MS at h
  split at h
  · next hv =>
    rw [Bool.and_eq_true] at hv
    have hl := of_decide_eq_true hv.2
    obtain ⟨x, c, rfl, hc, hx, h1, h2⟩ := miss_mem.1 h
    refine ⟨h1, h2, by simpa using hx, by simp, ?_, hv.1⟩
    refine vt_mk (fun d hd => ?_) (by have := has_le hx; simp; omega)
    rcases List.mem_append.1 hd with hd | hd
    · rw [hasL_iff] at hx
      exact vt_ok hv.1 d (hx.subset hd)
    · rw [List.mem_singleton] at hd
      subst hd
      unfold L4m at hc
      simp at hc
      rcases hc with rfl | rfl | rfl | rfl <;> decide
  · cases h
theorem has_nil (s : List UInt8) : hasL s [] = true := hasL_iff.2 List.nil_infix
/-- A word of two letters is in a text exactly if it has none of the missing ones. -/
theorem MS_two {s : List UInt8} (hv : vt s = true) (hl : s.length ≤ 12) {a b : UInt8} (ha : a ∈ L4m) (hb : b ∈ L4m) : (MS s).all (fun y => !hasL [a, b] y) = hasL s [a, b] := by
  have e : MS s = missA s (s.length + 1) := by unfold MS; rw [hv, if_pos (by simp [hl])]
  rw [e, Bool.eq_iff_iff, List.all_eq_true]
  constructor
  · intro h
    cases hs : hasL s [a, b] with
    | true => rfl
    | false =>
      exfalso
      have key : ∀ y, y ∈ missA s (s.length + 1) → hasL [a, b] y = false := fun y hy => by have := h y hy; simpa using this
      have h1 : hasL s [a] = true := by
        cases h1 : hasL s [a] with
        | true => rfl
        | false =>
          have := key [a] (miss_mem.2 ⟨[], a, rfl, ha, has_nil s, h1, has_nil s⟩)
          rw [← this]
          exact hasL_iff.2 ⟨[], [b], rfl⟩
      have h2 : hasL s [b] = true := by
        cases h2 : hasL s [b] with
        | true => rfl
        | false =>
          have := key [b] (miss_mem.2 ⟨[], b, rfl, hb, has_nil s, h2, has_nil s⟩)
          rw [← this]
          exact hasL_iff.2 ⟨[a], [], rfl⟩
      have := key [a, b] (miss_mem.2 ⟨[a], b, rfl, hb, h1, hs, h2⟩)
      have h3 : hasL [a, b] [a, b] = true := hasL_iff.2 List.infix_rfl
      rw [h3] at this
      cases this
  · intro h y hy
    obtain ⟨x, c, he, _, _, h1, _⟩ := miss_mem.1 hy
    rw [Bool.not_eq_true']
    cases hh : hasL [a, b] y with
    | false => rfl
    | true => rw [has_trans h hh] at h1; cases h1

/-! ### letters that stand once -/
/-- The rounds of OnceFrom: the first length from k on, so many rounds. -/
def onF (s : List UInt8) (i : Nat) : Nat → Nat → Option Nat
  | 0, _ => none
  | f + 1, k => if (winds s k).count (win s k i) = 1 then some k else onF s i f (k + 1)
def OFo (s : List UInt8) (i : Int) : Option Nat := if vt s && inR i 0 ((s.length : Int) - 1) then onF s i.toNat (s.length - i.toNat) 1 else none
theorem onF_law (s : List UInt8) (i : Nat) : ∀ (f k m : Nat), onF s i f k = some m → k ≤ m ∧ m < k + f ∧ (winds s m).count (win s m i) = 1 ∧ ∀ j, k ≤ j → j < m → (winds s j).count (win s j i) ≠ 1 := by
  intro f
  induction f with
  | zero => intro k m h; cases h
  | succ f ih =>
    intro k m h
    rw [onF] at h
    split at h
    · next hc =>
      injection h with h
      subst h
      exact ⟨Nat.le_refl _, by omega, hc, fun j h1 h2 => by omega⟩
    · next hc =>
      obtain ⟨h1, h2, h3, h4⟩ := ih (k + 1) m h
      refine ⟨by omega, by omega, h3, fun j h5 h6 => ?_⟩
      rcases Nat.lt_or_ge k j with h7 | h7
      · exact h4 j h7 h6
      · obtain rfl : j = k := by omega
        exact hc

/-! ### windows, each once -/
def adjT (L : List (List UInt8)) : Nat → List (List UInt8)
  | 0 => []
  | j + 1 => adjT L j ++ (if j = 0 ∨ L.getD j [] ≠ L.getD (j - 1) [] then [L.getD j []] else [])
theorem adjT_len (L : List (List UInt8)) (j : Nat) : (adjT L j).length ≤ j := by
  induction j with
  | zero => simp [adjT]
  | succ j ih =>
    rw [adjT, List.length_append]
    split <;> simp <;> omega
theorem adjT_law {L : List (List UInt8)} (h : L.Pairwise (fun a b => a ≤ b)) : ∀ j, j ≤ L.length → AscT (adjT L j) ∧ (∀ x, x ∈ adjT L j ↔ x ∈ L.take j) := by
  intro j
  induction j with
  | zero => intro _; exact ⟨by simp [adjT, AscT], by simp [adjT]⟩
  | succ j ih =>
    intro hj
    obtain ⟨h1, h2⟩ := ih (by omega)
    have hjl : j < L.length := by omega
    have hg : L.getD j [] = L[j] := by rw [List.getD_eq_getElem?_getD, List.getElem?_eq_getElem hjl]; rfl
    have ht : L.take (j + 1) = L.take j ++ [L[j]] := List.take_succ_eq_append_getElem hjl
    have hle : ∀ x ∈ L.take j, x ≤ L[j] := by
      intro x hx
      obtain ⟨m, hm, he⟩ := List.mem_iff_getElem.1 hx
      rw [List.length_take] at hm
      rw [List.getElem_take] at he
      rw [← he]
      exact List.pairwise_iff_getElem.1 h m j (by omega) hjl (by omega)
    rw [adjT, hg]
    by_cases hc : j = 0 ∨ L[j] ≠ L.getD (j - 1) []
    · rw [if_pos hc]
      refine ⟨?_, fun x => by rw [List.mem_append, List.mem_singleton, h2, ht, List.mem_append, List.mem_singleton]⟩
      refine List.pairwise_append.2 ⟨h1, by simp, fun x hx y hy => ?_⟩
      rw [List.mem_singleton] at hy
      subst hy
      have hx2 := (h2 x).1 hx
      refine tlt_of_le_ne (hle x hx2) fun e => ?_
      subst e
      rcases hc with hc | hc
      · subst hc; simp at hx2
      · -- the one ahead of it is as great as any
        have hj0 : 0 < j := by
          rcases Nat.eq_zero_or_pos j with h0 | h0
          · subst h0; simp at hx2
          · exact h0
        have hg1 : L.getD (j - 1) [] = L[j - 1]'(by omega) := by rw [List.getD_eq_getElem?_getD, List.getElem?_eq_getElem (by omega)]; rfl
        rw [hg1] at hc
        have h3 : L[j - 1]'(by omega) ≤ L[j] := List.pairwise_iff_getElem.1 h (j - 1) j (by omega) hjl (by omega)
        have h4 : L[j] ≤ L[j - 1]'(by omega) := by
          obtain ⟨m, hm, he⟩ := List.mem_iff_getElem.1 hx2
          rw [List.length_take] at hm
          rw [List.getElem_take] at he
          by_cases hmj : m = j - 1
          · subst hmj; rw [he]; exact List.le_refl _
          · have := List.pairwise_iff_getElem.1 h m (j - 1) (by omega) (by omega) (by omega)
            rw [he] at this
            exact this
        exact hc (List.le_antisymm h4 h3)
    · rw [if_neg hc, List.append_nil]
      refine ⟨h1, fun x => ?_⟩
      rw [h2, ht, List.mem_append, List.mem_singleton]
      refine ⟨.inl, fun hx => hx.elim id fun e => ?_⟩
      have hj0 : j ≠ 0 := fun h0 => hc (.inl h0)
      have he : L[j] = L.getD (j - 1) [] := by
        by_cases e2 : L[j] = L.getD (j - 1) []
        · exact e2
        · exact absurd (.inr e2) hc
      rw [e, he, List.getD_eq_getElem?_getD, List.getElem?_eq_getElem (by omega)]
      exact List.mem_iff_getElem.2 ⟨j - 1, by rw [List.length_take]; omega, by rw [List.getElem_take]; rfl⟩
theorem adjT_dd {l : List (List UInt8)} : adjT (stT l) (stT l).length = dd l := by
  obtain ⟨h1, h2⟩ := adjT_law (stT_sorted l) (stT l).length (Nat.le_refl _)
  refine dd_eq h1 fun x => ?_
  rw [h2, List.take_length, (stT_perm l).mem_iff]
end Go.Proofs.Ytfbmcfdmffpfmaa
