/-
  Plain laws of cuts: the ends of pieces, the pieces of two cuts together.
-/
import Derived.Test.YtopmifidhabobaaTwins
namespace Go.Proofs.Ytopmifidhabobaa
set_option linter.unusedVariables false
set_option linter.unusedSimpArgs false

/-! ### lists that rise -/
theorem strict_eq {l m : List Int} (hl : l.Pairwise (fun a b => a < b)) (hm : m.Pairwise (fun a b => a < b)) (h : ∀ x, x ∈ l ↔ x ∈ m) : l = m := by
  have n1 : l.Nodup := hl.imp fun h => by omega
  have n2 : m.Nodup := hm.imp fun h => by omega
  exact sorted_eq ((List.perm_ext_iff_of_nodup n1 n2).2 h) (hl.imp fun h => by omega) (hm.imp fun h => by omega)
theorem strict_of {l : List Int} (h : l.Pairwise (fun a b => a ≤ b)) (hn : l.Nodup) : l.Pairwise (fun a b => a < b) := by
  have := List.pairwise_and_iff.2 ⟨h, hn⟩
  exact this.imp fun ⟨h1, h2⟩ => by have : _ ≠ _ := h2; omega
theorem keeps_list (l : List Int) (k : Nat) (hk : k < l.length) : Lib.keeps l.toArray k = decide (k = 0 ∨ l.getD k 0 ≠ l.getD (k - 1) 0) := by
  unfold Lib.keeps
  have g1 : l.toArray[k]! = l.getD k 0 := by
    rw [getElem!_pos _ _ (by simp; omega), List.getD_eq_getElem?_getD, List.getElem?_eq_getElem (by omega)]
    simp
  have g2 : l.toArray[k - 1]! = l.getD (k - 1) 0 := by
    rw [getElem!_pos _ _ (by simp; omega), List.getD_eq_getElem?_getD, List.getElem?_eq_getElem (by omega)]
    simp
  rw [g1, g2]
theorem getD_of_lt {l : List Int} {k : Nat} (hk : k < l.length) : l.getD k 0 = l[k] := by
  rw [List.getD_eq_getElem?_getD, List.getElem?_eq_getElem hk]
  rfl
theorem compact_sorted {l : List Int} (h : l.Pairwise (fun a b => a ≤ b)) (k : Nat) (hk : k ≤ l.length) :
    (Lib.compactUpTo l.toArray k).Pairwise (fun a b => a < b) ∧ ∀ x, x ∈ Lib.compactUpTo l.toArray k ↔ x ∈ l.take k := by
  induction k with
  | zero => simp [Lib.compactUpTo]
  | succ k ih =>
    obtain ⟨h1, h2⟩ := ih (by omega)
    have hkl : k < l.length := by omega
    have hg : l.toArray[k]! = l[k] := by rw [getElem!_pos _ _ (by simp; omega)]; simp
    have ht : l.take (k + 1) = l.take k ++ [l[k]] := by rw [List.take_succ_eq_append_getElem hkl]
    rw [Lib.compactUpTo_succ, keeps_list l k hkl, hg, ht]
    have hle : ∀ i (hi : i < l.length), i < k → l[i] ≤ l[k] := fun i hi hik => List.pairwise_iff_getElem.1 h i k hi hkl hik
    by_cases hc : k = 0 ∨ l.getD k 0 ≠ l.getD (k - 1) 0
    · rw [if_pos (decide_eq_true hc)]
      refine ⟨List.pairwise_append.2 ⟨h1, by simp, fun a ha b hb => ?_⟩, fun x => by rw [List.mem_append, List.mem_append, h2]⟩
      rw [List.mem_singleton] at hb
      subst hb
      obtain ⟨i, hi, e⟩ := List.mem_iff_getElem.1 ((h2 a).1 ha)
      simp at hi
      rw [List.getElem_take] at e
      have h3 := hle i (by omega) (by omega)
      rcases hc with hc | hc
      · omega
      · rw [getD_of_lt hkl, getD_of_lt (by omega)] at hc
        have h4 : l[i] ≤ l[k - 1] := by
          rcases Nat.lt_or_ge i (k - 1) with h5 | h5
          · exact List.pairwise_iff_getElem.1 h i (k - 1) (by omega) (by omega) h5
          · obtain rfl : i = k - 1 := by omega
            exact Int.le_refl _
        have h6 := hle (k - 1) (by omega) (by omega)
        omega
    · rw [if_neg (by simp only [decide_eq_true_eq]; exact hc), List.append_nil]
      refine ⟨h1, fun x => ?_⟩
      rw [h2, List.mem_append, List.mem_singleton]
      refine ⟨.inl, fun hx => hx.elim id fun e => ?_⟩
      subst e
      have hk0 : ¬ k = 0 := fun h => hc (.inl h)
      have hk1 : l.getD k 0 = l.getD (k - 1) 0 := by
        by_cases he : l.getD k 0 = l.getD (k - 1) 0
        · exact he
        · exact absurd (.inr he) hc
      rw [getD_of_lt hkl, getD_of_lt (by omega)] at hk1
      rw [hk1]
      exact List.mem_iff_getElem.2 ⟨k - 1, by simp; omega, by rw [List.getElem_take]⟩
theorem compact_strict (l : List Int) (h : l.Pairwise (fun a b => a ≤ b)) : (Lib.compact l).Pairwise (fun a b => a < b) := (compact_sorted h l.length (Nat.le_refl _)).1
theorem compact_mem (l : List Int) (h : l.Pairwise (fun a b => a ≤ b)) (x : Int) : x ∈ Lib.compact l ↔ x ∈ l := by
  have := (compact_sorted h l.length (Nat.le_refl _)).2 x
  rwa [List.take_length] at this

/-! ### pieces and their ends -/
def pk (zs : List Int) : Bool := inR zs.length 1 5 && zs.all fun x => inR x 1 60
theorem pk_iff {zs : List Int} : pk zs = true ↔ (1 ≤ zs.length ∧ zs.length ≤ 5) ∧ ∀ x ∈ zs, 1 ≤ x ∧ x ≤ 60 := by
  unfold pk inR
  simp
  omega
/-- The ends of pieces, from 0 on. -/
def enF (zs : List Int) : List Int := upto (fun k => (zs.take k).sum) (zs.length + 1)
/-- The ends of pieces but the last one. -/
def enS (zs : List Int) : List Int := upto (fun k => (zs.take (k + 1)).sum) (zs.length - 1)
theorem mem_upto {α : Type} {f : Nat → α} {n : Nat} {x : α} : x ∈ upto f n ↔ ∃ k, k < n ∧ f k = x := by simp [upto]
theorem upto_get {α : Type} {f : Nat → α} {n i : Nat} (h : i < (upto f n).length) : (upto f n)[i] = f i := by simp [upto]
theorem sum_le_take {zs : List Int} (h : ∀ x ∈ zs, 1 ≤ x) : ∀ {i j : Nat}, i < j → j ≤ zs.length → (zs.take i).sum < (zs.take j).sum := by
  intro i j
  induction j with
  | zero => intro h1; omega
  | succ j ih =>
    intro h1 h2
    have e : (zs.take (j + 1)).sum = (zs.take j).sum + zs[j] := by rw [List.take_succ_eq_append_getElem (by omega), List.sum_append, List.sum_cons, List.sum_nil, Int.add_zero]
    have h3 := h zs[j] (List.getElem_mem _)
    rcases Nat.lt_or_ge i j with h4 | h4
    · have := ih h4 (by omega)
      omega
    · obtain rfl : i = j := by omega
      omega
theorem enF_strict {zs : List Int} (h : ∀ x ∈ zs, 1 ≤ x) : (enF zs).Pairwise (fun a b => a < b) := by
  rw [List.pairwise_iff_getElem]
  intro i j hi hj hij
  unfold enF at hi hj ⊢
  rw [upto_length] at hi hj
  rw [upto_get, upto_get]
  exact sum_le_take h hij (by omega)
theorem mem_enF {zs : List Int} {x : Int} : x ∈ enF zs ↔ ∃ k, k ≤ zs.length ∧ (zs.take k).sum = x := by
  unfold enF
  rw [mem_upto]
  constructor
  · rintro ⟨k, hk, e⟩; exact ⟨k, by omega, e⟩
  · rintro ⟨k, hk, e⟩; exact ⟨k, by omega, e⟩
theorem mem_enF' {zs : List Int} (h1 : 1 ≤ zs.length) {x : Int} : x ∈ enF zs ↔ x = 0 ∨ x ∈ enS zs ∨ x = zs.sum := by
  rw [mem_enF]
  unfold enS
  rw [mem_upto]
  constructor
  · rintro ⟨k, hk, e⟩
    cases k with
    | zero => exact .inl (by simpa using e.symm)
    | succ k =>
      rcases Nat.lt_or_ge k (zs.length - 1) with h2 | h2
      · exact .inr (.inl ⟨k, h2, e⟩)
      · rw [List.take_of_length_le (by omega)] at e
        exact .inr (.inr e.symm)
  · rintro (rfl | ⟨k, hk, e⟩ | rfl)
    · exact ⟨0, by omega, by simp⟩
    · exact ⟨k + 1, by omega, e⟩
    · exact ⟨zs.length, Nat.le_refl _, by rw [List.take_length]⟩
theorem enF_bounds {zs : List Int} (h : ∀ x ∈ zs, 1 ≤ x) {x : Int} (hx : x ∈ enF zs) : 0 ≤ x ∧ x ≤ zs.sum := by
  obtain ⟨k, hk, rfl⟩ := mem_enF.1 hx
  have e0 : (zs.take 0).sum = 0 := by simp
  have e1 : (zs.take zs.length).sum = zs.sum := by rw [List.take_length]
  constructor
  · rcases Nat.eq_zero_or_pos k with h0 | h0
    · subst h0; omega
    · have := sum_le_take h h0 hk; omega
  · rcases Nat.lt_or_ge k zs.length with h0 | h0
    · have := sum_le_take h h0 (Nat.le_refl _); omega
    · obtain rfl : k = zs.length := by omega
      omega
theorem enS_pos {zs : List Int} (h : ∀ x ∈ zs, 1 ≤ x) {x : Int} (hx : x ∈ enS zs) : 1 ≤ x := by
  obtain ⟨k, hk, rfl⟩ := mem_upto.1 hx
  have e0 : (zs.take 0).sum = 0 := by simp
  have := sum_le_take h (show 0 < k + 1 by omega) (by omega)
  omega
theorem sum_pos {zs : List Int} (h : ∀ x ∈ zs, 1 ≤ x) (h1 : 1 ≤ zs.length) : 1 ≤ zs.sum := by
  have e0 : (zs.take 0).sum = 0 := by simp
  have := sum_le_take h (show 0 < zs.length by omega) (Nat.le_refl _)
  rw [List.take_length] at this
  omega
theorem sum_le60 : ∀ {zs : List Int}, (∀ x ∈ zs, x ≤ 60) → zs.sum ≤ 60 * (zs.length : Int) := by
  intro zs
  induction zs with
  | nil => simp
  | cons a zs ih =>
    intro h
    have h1 := ih fun x hx => h x (by simp [hx])
    have h2 := h a (by simp)
    simp
    omega
/-- The marks of two cuts. -/
def mks (a b : List Int) : List Int := Lib.compact (srt (enF a ++ enF b))
theorem mks_strict (a b : List Int) : (mks a b).Pairwise (fun a b => a < b) := compact_strict _ (srt_sorted _)
theorem mem_mks {a b : List Int} {x : Int} : x ∈ mks a b ↔ x ∈ enF a ∨ x ∈ enF b := by
  unfold mks
  rw [compact_mem _ (srt_sorted _), (srt_perm _).mem_iff, List.mem_append]
theorem mks_comm (a b : List Int) : mks a b = mks b a := strict_eq (mks_strict _ _) (mks_strict _ _) fun x => by rw [mem_mks, mem_mks, or_comm]
/-- The marks as the reference collects them. -/
def mkS (t : Int) (L : List Int) : Nat → List Int
  | 0 => [t]
  | k + 1 => if L.getD k 0 ∈ mkS t L k then mkS t L k else mkS t L k ++ [L.getD k 0]
theorem mkS_len (t : Int) (L : List Int) (k : Nat) : (mkS t L k).length ≤ k + 1 := by
  induction k with
  | zero => simp [mkS]
  | succ k ih =>
    rw [mkS]
    split
    · omega
    · simp; omega
theorem mkS_spec (t : Int) (L : List Int) (k : Nat) (hk : k ≤ L.length) : (mkS t L k).Nodup ∧ ∀ x, x ∈ mkS t L k ↔ x = t ∨ x ∈ L.take k := by
  induction k with
  | zero => simp [mkS]
  | succ k ih =>
    obtain ⟨h1, h2⟩ := ih (by omega)
    have ht : L.take (k + 1) = L.take k ++ [L.getD k 0] := by rw [List.take_succ_eq_append_getElem (by omega), getD_of_lt (by omega)]
    rw [mkS, ht]
    split
    · next h =>
      refine ⟨h1, fun x => ?_⟩
      rw [h2, List.mem_append, List.mem_singleton]
      refine ⟨fun h => h.elim .inl fun h => .inr (.inl h), fun h3 => h3.elim .inl fun h3 => h3.elim .inr fun e => ?_⟩
      subst e
      exact (h2 _).1 h
    · next h =>
      refine ⟨?_, fun x => ?_⟩
      · rw [List.nodup_append]
        refine ⟨h1, by simp, fun a ha b hb => ?_⟩
        rw [List.mem_singleton] at hb
        subst hb
        exact fun e => h (e ▸ ha)
      · rw [List.mem_append, h2, List.mem_append, List.mem_singleton, or_assoc]
theorem mks_ref {a b : List Int} (ha : pk a = true) (hb : pk b = true) (hs : a.sum = b.sum) : 0 :: srt (mkS a.sum (enS a ++ enS b) (enS a ++ enS b).length) = mks a b := by
  obtain ⟨⟨a1, a2⟩, a3⟩ := pk_iff.1 ha
  obtain ⟨⟨b1, b2⟩, b3⟩ := pk_iff.1 hb
  have pa : ∀ x ∈ a, 1 ≤ x := fun x hx => (a3 x hx).1
  have pb : ∀ x ∈ b, 1 ≤ x := fun x hx => (b3 x hx).1
  obtain ⟨h1, h2⟩ := mkS_spec a.sum (enS a ++ enS b) (enS a ++ enS b).length (Nat.le_refl _)
  rw [List.take_length] at h2
  have hm : ∀ x, x ∈ srt (mkS a.sum (enS a ++ enS b) (enS a ++ enS b).length) ↔ x = a.sum ∨ x ∈ enS a ∨ x ∈ enS b := fun x => by rw [(srt_perm _).mem_iff, h2, List.mem_append]
  refine strict_eq (List.pairwise_cons.2 ⟨fun x hx => ?_, strict_of (srt_sorted _) ((srt_perm _).nodup_iff.2 h1)⟩) (mks_strict _ _) fun x => ?_
  · rcases (hm x).1 hx with rfl | h | h
    · have := sum_pos pa a1; omega
    · have := enS_pos pa h; omega
    · have := enS_pos pb h; omega
  · rw [List.mem_cons, hm, mem_mks, mem_enF' a1, mem_enF' b1, hs]
    constructor
    · rintro (h | h | h | h)
      · exact .inl (.inl h)
      · exact .inl (.inr (.inr h))
      · exact .inl (.inr (.inl h))
      · exact .inr (.inr (.inl h))
    · rintro ((h | h | h) | (h | h | h))
      · exact .inl h
      · exact .inr (.inr (.inl h))
      · exact .inr (.inl h)
      · exact .inl h
      · exact .inr (.inr (.inr h))
      · exact .inr (.inl h)
/-- What lies between neighbours. -/
def dfTo (L : List Int) (k : Nat) : List Int := upto (fun i => L.getD (i + 1) 0 - L.getD i 0) k
def dfs (L : List Int) : List Int := dfTo L (L.length - 1)
/-- The pieces of two cuts. -/
def CB (a b : List Int) : List Int := srt (dfs (mks a b))
def okP (a b : List Int) : Bool := pk a && pk b && decide (a.sum = b.sum)
def CO (a b : List Int) : List Int := if okP a b then CB a b else []
theorem dfTo_len (L : List Int) (k : Nat) : (dfTo L k).length = k := upto_length _ _
theorem dfTo_succ (L : List Int) (k : Nat) : dfTo L (k + 1) = dfTo L k ++ [L.getD (k + 1) 0 - L.getD k 0] := upto_succ _ _
theorem dfTo_sum (L : List Int) (k : Nat) : (dfTo L k).sum = L.getD k 0 - L.getD 0 0 := by
  induction k with
  | zero => simp [dfTo, upto]
  | succ k ih => rw [dfTo_succ, List.sum_append, ih]; simp; omega
theorem okP_iff {a b : List Int} : okP a b = true ↔ pk a = true ∧ pk b = true ∧ a.sum = b.sum := by
  unfold okP
  simp [and_assoc]
theorem perm_sum {l m : List Int} (h : l.Perm m) : l.sum = m.sum := by
  induction h with
  | nil => rfl
  | cons x _ ih => simp [ih]
  | swap x y l => simp; omega
  | trans _ _ h1 h2 => exact h1.trans h2
theorem nodup_len : ∀ {l m : List Int}, l.Nodup → (∀ x ∈ l, x ∈ m) → l.length ≤ m.length := by
  intro l
  induction l with
  | nil => intro m _ _; simp
  | cons a l ih =>
    intro m hn hs
    rw [List.nodup_cons] at hn
    have ha := hs a (by simp)
    have h1 := ih hn.2 (m := m.erase a) fun x hx => (List.mem_erase_of_ne (fun e => hn.1 (by rw [← e]; exact hx))).2 (hs x (by simp [hx]))
    rw [List.length_erase_of_mem ha] at h1
    have := List.length_pos_of_mem ha
    simp
    omega
theorem pk_bounds {zs : List Int} (h : pk zs = true) : (1 ≤ zs.length ∧ zs.length ≤ 5) ∧ (∀ x ∈ zs, 1 ≤ x) ∧ 1 ≤ zs.sum ∧ zs.sum ≤ 300 := by
  obtain ⟨⟨a1, a2⟩, a3⟩ := pk_iff.1 h
  have h1 := sum_pos (fun x hx => (a3 x hx).1) a1
  have h2 := sum_le60 (fun x hx => (a3 x hx).2)
  exact ⟨⟨a1, a2⟩, fun x hx => (a3 x hx).1, h1, by omega⟩
theorem mks_len {a b : List Int} (h : okP a b = true) : (mks a b).length ≤ a.length + b.length ∧ a.length + 1 ≤ (mks a b).length ∧ b.length + 1 ≤ (mks a b).length := by
  obtain ⟨ha, hb, hs⟩ := okP_iff.1 h
  obtain ⟨⟨a1, _⟩, pa, _, _⟩ := pk_bounds ha
  obtain ⟨⟨b1, _⟩, pb, _, _⟩ := pk_bounds hb
  have sub : ∀ {l m : List Int}, l.Pairwise (fun a b => a < b) → (∀ x ∈ l, x ∈ m) → l.length ≤ m.length := fun {l m} hl h => by
    have hn : l.Nodup := hl.imp fun h => by omega
    exact nodup_len hn h
  refine ⟨?_, ?_, ?_⟩
  · have h1 : ∀ x ∈ mks a b, x ∈ enF a ++ enS b := fun x hx => by
      rw [List.mem_append]
      rcases mem_mks.1 hx with h | h
      · exact .inl h
      · rcases (mem_enF' b1).1 h with rfl | h | rfl
        · exact .inl ((mem_enF' a1).2 (.inl rfl))
        · exact .inr h
        · exact .inl ((mem_enF' a1).2 (.inr (.inr hs.symm)))
    have := sub (mks_strict a b) h1
    rw [List.length_append] at this
    unfold enF enS at this
    rw [upto_length, upto_length] at this
    omega
  · have := sub (enF_strict pa) (m := mks a b) fun x hx => mem_mks.2 (.inl hx)
    unfold enF at this
    rwa [upto_length] at this
  · have := sub (enF_strict pb) (m := mks a b) fun x hx => mem_mks.2 (.inr hx)
    unfold enF at this
    rwa [upto_length] at this
theorem mks_ends {a b : List Int} (h : okP a b = true) : (mks a b).getD 0 0 = 0 ∧ (mks a b).getD ((mks a b).length - 1) 0 = a.sum := by
  obtain ⟨ha, hb, hs⟩ := okP_iff.1 h
  obtain ⟨⟨a1, _⟩, pa, _, _⟩ := pk_bounds ha
  obtain ⟨⟨b1, _⟩, pb, _, _⟩ := pk_bounds hb
  obtain ⟨_, hl, _⟩ := mks_len h
  have hb' : ∀ x ∈ mks a b, 0 ≤ x ∧ x ≤ a.sum := fun x hx => by
    rcases mem_mks.1 hx with h | h
    · exact enF_bounds pa h
    · rw [hs]; exact enF_bounds pb h
  have hst := List.pairwise_iff_getElem.1 (mks_strict a b)
  refine ⟨?_, ?_⟩
  · rw [getD_of_lt (by omega)]
    obtain ⟨i, hi, e⟩ := List.mem_iff_getElem.1 (mem_mks.2 (.inl ((mem_enF' a1).2 (.inl rfl))) : (0 : Int) ∈ mks a b)
    have := hb' _ (List.getElem_mem (show 0 < (mks a b).length by omega))
    rcases Nat.eq_zero_or_pos i with h0 | h0
    · subst h0; exact e
    · have := hst 0 i (by omega) hi h0
      omega
  · rw [getD_of_lt (by omega)]
    obtain ⟨i, hi, e⟩ := List.mem_iff_getElem.1 (mem_mks.2 (.inl ((mem_enF' a1).2 (.inr (.inr rfl)))) : a.sum ∈ mks a b)
    have := hb' _ (List.getElem_mem (show (mks a b).length - 1 < (mks a b).length by omega))
    rcases Nat.lt_or_ge i ((mks a b).length - 1) with h0 | h0
    · have := hst i ((mks a b).length - 1) hi (by omega) h0
      omega
    · obtain rfl : i = (mks a b).length - 1 := by omega
      exact e
theorem CB_sum {a b : List Int} (h : okP a b = true) : (CB a b).sum = a.sum := by
  unfold CB dfs
  rw [perm_sum (srt_perm _), dfTo_sum, (mks_ends h).1, (mks_ends h).2]
  omega
theorem CB_len {a b : List Int} (h : okP a b = true) : (CB a b).length + 1 ≤ a.length + b.length ∧ a.length ≤ (CB a b).length ∧ b.length ≤ (CB a b).length := by
  unfold CB dfs
  rw [srt_len, dfTo_len]
  have := mks_len h
  omega
theorem okP_comm (a b : List Int) : okP b a = okP a b := by
  unfold okP
  rw [Bool.eq_iff_iff]
  simp
  constructor
  · rintro ⟨⟨h1, h2⟩, h3⟩; exact ⟨⟨h2, h1⟩, h3.symm⟩
  · rintro ⟨⟨h1, h2⟩, h3⟩; exact ⟨⟨h2, h1⟩, h3.symm⟩
theorem CO_comm (a b : List Int) : CO b a = CO a b := by
  unfold CO CB
  rw [okP_comm, mks_comm]
theorem sum_rev (l : List Int) : l.reverse.sum = l.sum := perm_sum (List.reverse_perm _)
theorem pk_rev (a : List Int) : pk a.reverse = pk a := by
  rw [Bool.eq_iff_iff, pk_iff, pk_iff]
  simp
theorem okP_rev (a b : List Int) : okP a.reverse b.reverse = okP a b := by
  unfold okP
  rw [pk_rev, pk_rev, sum_rev, sum_rev]
theorem enF_rev {a : List Int} {x : Int} : x ∈ enF a.reverse ↔ a.sum - x ∈ enF a := by
  have hs : ∀ k, k ≤ a.length → (a.reverse.take k).sum = a.sum - (a.take (a.length - k)).sum := fun k hk => by
    rw [List.take_reverse, sum_rev]
    have := congrArg List.sum (List.take_append_drop (a.length - k) a)
    rw [List.sum_append] at this
    omega
  rw [mem_enF, mem_enF]
  constructor
  · rintro ⟨k, hk, rfl⟩
    rw [List.length_reverse] at hk
    refine ⟨a.length - k, by omega, ?_⟩
    rw [hs k hk]
    omega
  · rintro ⟨k, hk, e⟩
    refine ⟨a.length - k, by rw [List.length_reverse]; omega, ?_⟩
    rw [hs _ (by omega), show a.length - (a.length - k) = k by omega]
    omega
theorem dfTo_get (L : List Int) (k i : Nat) (h : i < (dfTo L k).length) : (dfTo L k)[i] = L.getD (i + 1) 0 - L.getD i 0 := by simp [dfTo, upto]
theorem dfs_get (L : List Int) (i : Nat) (h : i < (dfs L).length) : (dfs L)[i] = L.getD (i + 1) 0 - L.getD i 0 := dfTo_get L _ i h
theorem dfs_trn (t : Int) (L : List Int) : dfs (trn t L) = (dfs L).reverse := by
  have hl : (trn t L).length = L.length := by simp [trn]
  have hd : ∀ M : List Int, (dfs M).length = M.length - 1 := fun M => dfTo_len _ _
  refine List.ext_getElem (by rw [List.length_reverse, hd, hd, hl]) fun i h1 h2 => ?_
  have h3 := h1
  rw [hd, hl] at h3
  have hg : ∀ j, j < L.length → (trn t L).getD j 0 = t - L.getD (L.length - 1 - j) 0 := fun j hj => by
    rw [getD_of_lt (by rw [hl]; exact hj), getD_of_lt (by omega)]
    simp [trn]
  rw [List.getElem_reverse, dfs_get, dfs_get, hg _ (by omega), hg _ (by omega), hd]
  have e1 : L.length - 1 - 1 - i + 1 = L.length - 1 - i := by omega
  have e2 : L.length - 1 - (i + 1) = L.length - 1 - 1 - i := by omega
  rw [e1, e2]
  omega
theorem trn_strict {t : Int} {L : List Int} (h : L.Pairwise (fun a b => a < b)) : (trn t L).Pairwise (fun a b => a < b) := by
  unfold trn
  rw [List.pairwise_map, List.pairwise_reverse]
  exact h.imp fun h => by omega
theorem CO_rev (a b : List Int) : CO a.reverse b.reverse = CO a b := by
  unfold CO
  rw [okP_rev]
  cases h : okP a b with
  | false => rfl
  | true =>
    rw [if_pos rfl, if_pos rfl]
    have hs := (okP_iff.1 h).2.2
    have e : mks a.reverse b.reverse = trn a.sum (mks a b) := by
      refine strict_eq (mks_strict _ _) (trn_strict (mks_strict _ _)) fun x => ?_
      rw [mem_mks, enF_rev, enF_rev, ← hs, ← mem_mks]
      unfold trn
      rw [List.mem_map]
      constructor
      · intro h; exact ⟨a.sum - x, by simpa using h, by omega⟩
      · rintro ⟨y, hy, rfl⟩
        rw [show a.sum - (a.sum - y) = y by omega]
        simpa using hy
    unfold CB
    rw [e, dfs_trn]
    exact srt_of_perm (List.reverse_perm _)
end Go.Proofs.Ytopmifidhabobaa
