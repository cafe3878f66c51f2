/-
  Plain laws of points and distances.
-/
import Derived.Test.YtopmifidhabobaaText
namespace Go.Proofs.Ytopmifidhabobaa
set_option linter.unusedVariables false
set_option linter.unusedSimpArgs false

/-! ### numbers in order -/
def srt (l : List Int) : List Int := l.mergeSort
theorem srt_perm (l : List Int) : (srt l).Perm l := List.mergeSort_perm _ _
theorem srt_sorted (l : List Int) : (srt l).Pairwise (fun a b => a ≤ b) := by
  have := List.pairwise_mergeSort (le := fun a b : Int => decide (a ≤ b)) (fun a b c h1 h2 => by simp at h1 h2 ⊢; omega) (fun a b => by simp; omega) l
  exact this.imp fun h => by simpa using h
theorem sorted_eq : ∀ {l m : List Int}, l.Perm m → l.Pairwise (fun a b => a ≤ b) → m.Pairwise (fun a b => a ≤ b) → l = m := by
  intro l
  induction l with
  | nil => intro m h _ _; exact (List.nil_perm.1 h).symm
  | cons a l ih =>
    intro m h h1 h2
    cases m with
    | nil => exact absurd h.length_eq (by simp)
    | cons b m =>
      have e : a = b := by
        have hb : b ∈ a :: l := h.symm.mem_iff.1 (by simp)
        have ha : a ∈ b :: m := h.mem_iff.1 (by simp)
        rw [List.mem_cons] at ha hb
        rcases ha with ha | ha
        · exact ha
        · rcases hb with hb | hb
          · exact hb.symm
          · have g1 := (List.pairwise_cons.1 h1).1 b hb
            have g2 := (List.pairwise_cons.1 h2).1 a ha
            omega
      subst e
      rw [ih h.cons_inv (List.pairwise_cons.1 h1).2 (List.pairwise_cons.1 h2).2]
theorem srt_of_sorted {l : List Int} (h : l.Pairwise (fun a b => a ≤ b)) : srt l = l := sorted_eq (srt_perm l) (srt_sorted l) h
theorem srt_of_perm {l m : List Int} (h : l.Perm m) : srt l = srt m := sorted_eq ((srt_perm l).trans (h.trans (srt_perm m).symm)) (srt_sorted l) (srt_sorted m)
theorem srt_len (l : List Int) : (srt l).length = l.length := (srt_perm l).length_eq
/-- One number more, behind those that are no greater. -/
def insn (l : List Int) (x : Int) : List Int := l.takeWhile (fun y => decide (y ≤ x)) ++ x :: l.dropWhile (fun y => decide (y ≤ x))
theorem insn_perm (l : List Int) (x : Int) : (insn l x).Perm (x :: l) := by
  unfold insn
  refine List.perm_middle.trans (List.Perm.cons _ ?_)
  rw [List.takeWhile_append_dropWhile]
theorem insn_sorted {l : List Int} (h : l.Pairwise (fun a b => a ≤ b)) (x : Int) : (insn l x).Pairwise (fun a b => a ≤ b) := by
  induction l with
  | nil => simp [insn]
  | cons a l ih =>
    obtain ⟨h1, h2⟩ := List.pairwise_cons.1 h
    by_cases hx : a ≤ x
    · have e : insn (a :: l) x = a :: insn l x := by simp [insn, List.takeWhile_cons, List.dropWhile_cons, hx]
      rw [e, List.pairwise_cons]
      refine ⟨fun y hy => ?_, ih h2⟩
      have := (insn_perm l x).mem_iff.1 hy
      rw [List.mem_cons] at this
      rcases this with rfl | hy
      · exact hx
      · exact h1 y hy
    · have e : insn (a :: l) x = x :: a :: l := by simp [insn, List.takeWhile_cons, List.dropWhile_cons, hx]
      rw [e, List.pairwise_cons]
      refine ⟨fun y hy => ?_, h⟩
      rw [List.mem_cons] at hy
      rcases hy with rfl | hy
      · omega
      · have := h1 y hy; omega
theorem srt_snoc (l : List Int) (x : Int) : insn (srt l) x = srt (l ++ [x]) := by
  refine sorted_eq ?_ (insn_sorted (srt_sorted l) x) (srt_sorted _)
  refine (insn_perm _ _).trans (List.Perm.trans ?_ (srt_perm _).symm)
  exact (List.Perm.cons x (srt_perm l)).trans (List.perm_append_singleton x l).symm

/-! ### points -/
/-- The first k numbers are in their range, and each is greater than the one ahead. -/
def ptTo (zs : List Int) : Nat → Bool
  | 0 => true
  | k + 1 => ptTo zs k && (inR (zs.getD k 0) 0 60 && (decide (k = 0) || decide (zs.getD (k - 1) 0 < zs.getD k 0)))
/-- Valid points. -/
def vp (zs : List Int) : Bool := inR zs.length 1 6 && decide (zs.getD 0 0 = 0) && ptTo zs zs.length
theorem ptTo_le {zs : List Int} {k j : Nat} (h : ptTo zs k = true) (hj : j ≤ k) : ptTo zs j = true := by
  induction k with
  | zero => obtain rfl : j = 0 := by omega
            exact h
  | succ k ih =>
    rcases Nat.lt_or_ge j (k + 1) with h1 | h1
    · rw [ptTo, Bool.and_eq_true] at h
      exact ih h.1 (by omega)
    · obtain rfl : j = k + 1 := by omega
      exact h
theorem ptTo_no {zs : List Int} {k : Nat} (hk : k < zs.length) (h : (inR (zs.getD k 0) 0 60 && (decide (k = 0) || decide (zs.getD (k - 1) 0 < zs.getD k 0))) = false) : ptTo zs zs.length = false := by
  rw [← Bool.not_eq_true]
  intro hp
  have := ptTo_le hp (show k + 1 ≤ zs.length by omega)
  rw [ptTo, h] at this
  simp at this
theorem ptTo_iff (zs : List Int) (k : Nat) (hk : k ≤ zs.length) : ptTo zs k = true ↔ (∀ x ∈ zs.take k, 0 ≤ x ∧ x ≤ 60) ∧ (zs.take k).Pairwise (fun a b => a < b) := by
  induction k with
  | zero => simp [ptTo]
  | succ k ih =>
    have hkl : k < zs.length := by omega
    have hg : zs.getD k 0 = zs[k] := by rw [List.getD_eq_getElem?_getD, List.getElem?_eq_getElem hkl]; rfl
    rw [ptTo, Bool.and_eq_true, ih (by omega), List.take_succ_eq_append_getElem hkl, List.pairwise_append]
    constructor
    · rintro ⟨⟨h1, h2⟩, h3⟩
      rw [Bool.and_eq_true, Bool.or_eq_true, decide_eq_true_eq, decide_eq_true_eq, hg] at h3
      have h4 := inR_true h3.1
      refine ⟨fun x hx => ?_, h2, by simp, fun a ha b hb => ?_⟩
      · rw [List.mem_append, List.mem_singleton] at hx
        rcases hx with hx | rfl
        · exact h1 x hx
        · exact h4
      · rw [List.mem_singleton] at hb
        subst hb
        rcases h3.2 with h5 | h5
        · subst h5; simp at ha
        · rcases Nat.eq_zero_or_pos k with h6 | h6
          · subst h6; simp at ha
          · have hk1 : k - 1 < zs.length := by omega
            have hg1 : zs.getD (k - 1) 0 = zs[k - 1] := by rw [List.getD_eq_getElem?_getD, List.getElem?_eq_getElem hk1]; rfl
            rw [hg1] at h5
            have e : zs.take k = zs.take (k - 1) ++ [zs[k - 1]] := by
              have := List.take_succ_eq_append_getElem hk1
              rwa [show k - 1 + 1 = k by omega] at this
            rw [e, List.pairwise_append] at h2
            rw [e, List.mem_append, List.mem_singleton] at ha
            rcases ha with ha | rfl
            · have := h2.2.2 a ha zs[k - 1] (by simp); omega
            · exact h5
    · rintro ⟨h1, h2, _, h3⟩
      refine ⟨⟨fun x hx => h1 x (List.mem_append_left _ hx), h2⟩, ?_⟩
      rw [Bool.and_eq_true, Bool.or_eq_true, decide_eq_true_eq, decide_eq_true_eq, hg]
      refine ⟨inR_eq_true (h1 zs[k] (List.mem_append_right _ (List.mem_singleton.2 rfl))), ?_⟩
      rcases Nat.eq_zero_or_pos k with h6 | h6
      · exact .inl h6
      · right
        have hk1 : k - 1 < zs.length := by omega
        have hg1 : zs.getD (k - 1) 0 = zs[k - 1] := by rw [List.getD_eq_getElem?_getD, List.getElem?_eq_getElem hk1]; rfl
        rw [hg1]
        have e : zs.take k = zs.take (k - 1) ++ [zs[k - 1]] := by
          have := List.take_succ_eq_append_getElem hk1
          rwa [show k - 1 + 1 = k by omega] at this
        exact h3 zs[k - 1] (by rw [e]; exact List.mem_append_right _ (List.mem_singleton.2 rfl)) zs[k] (by simp)
/-- What points are. -/
theorem vp_iff (zs : List Int) : vp zs = true ↔ zs.length ≤ 6 ∧ (∃ r, zs = 0 :: r) ∧ (∀ x ∈ zs, 0 ≤ x ∧ x ≤ 60) ∧ zs.Pairwise (fun a b => a < b) := by
  unfold vp
  rw [Bool.and_eq_true, Bool.and_eq_true, decide_eq_true_eq, ptTo_iff zs _ (Nat.le_refl _), List.take_length]
  constructor
  · rintro ⟨⟨h1, h2⟩, h3, h4⟩
    have := inR_true h1
    refine ⟨by omega, ?_, h3, h4⟩
    cases zs with
    | nil => simp at this
    | cons a r => exact ⟨r, by simpa using h2⟩
  · rintro ⟨h1, ⟨r, rfl⟩, h3, h4⟩
    exact ⟨⟨inR_eq_true (by simp at h1 ⊢; omega), by simp⟩, h3, h4⟩

/-! ### distances -/
/-- The distances of a number to the first j ones. -/
def dRow (zs : List Int) (i j : Nat) : List Int := (zs.take j).map fun b => zs.getD i 0 - b
def dTo (zs : List Int) : Nat → List Int
  | 0 => []
  | i + 1 => dTo zs i ++ dRow zs i i
/-- All distances, as they come. -/
def dst (zs : List Int) : List Int := dTo zs zs.length
/-- The distances, the least ones first. -/
def dsr (zs : List Int) : List Int := srt (dst zs)
theorem dRow_succ (zs : List Int) (i j : Nat) (hj : j < zs.length) : dRow zs i (j + 1) = dRow zs i j ++ [zs.getD i 0 - zs[j]] := by
  unfold dRow
  rw [List.take_succ_eq_append_getElem hj, List.map_append]
  rfl
theorem dTo_len (zs : List Int) (i : Nat) (hi : i ≤ zs.length) : 2 * (dTo zs i).length + i = i * i := by
  induction i with
  | zero => rfl
  | succ i ih =>
    have := ih (by omega)
    rw [dTo, List.length_append, dRow, List.length_map, List.length_take, Nat.min_eq_left (by omega)]
    have e : (i + 1) * (i + 1) = i * i + 2 * i + 1 := by rw [Nat.add_mul, Nat.mul_add]; omega
    omega
theorem dTo_app (zs : List Int) (y : Int) (i : Nat) (hi : i ≤ zs.length) : dTo (zs ++ [y]) i = dTo zs i := by
  induction i with
  | zero => rfl
  | succ i ih =>
    rw [dTo, dTo, ih (by omega)]
    congr 1
    unfold dRow
    rw [List.take_append_of_le_length (by omega)]
    congr 1
    funext b
    rw [List.getD_eq_getElem?_getD, List.getD_eq_getElem?_getD, List.getElem?_append_left (by omega)]
theorem dst_snoc (zs : List Int) (y : Int) : dst (zs ++ [y]) = dst zs ++ zs.map (fun b => y - b) := by
  unfold dst
  rw [List.length_append, List.length_singleton, dTo, dTo_app zs y _ (Nat.le_refl _)]
  congr 1
  unfold dRow
  rw [List.take_append_of_le_length (Nat.le_refl _), List.take_length]
  congr 1
  funext b
  rw [List.getD_eq_getElem?_getD, List.getElem?_append_right (Nat.le_refl _), Nat.sub_self]
  rfl
theorem snoc_ind {α : Type} {p : List α → Prop} (h0 : p []) (h1 : ∀ l x, p l → p (l ++ [x])) (l : List α) : p l := by
  rw [← List.reverse_reverse l]
  generalize l.reverse = m
  induction m with
  | nil => exact h0
  | cons a m ih => rw [List.reverse_cons]; exact h1 _ _ ih
theorem dst_cons (zs : List Int) (x : Int) : (dst (x :: zs)).Perm (zs.map (fun b => b - x) ++ dst zs) := by
  refine snoc_ind (p := fun zs => (dst (x :: zs)).Perm (zs.map (fun b => b - x) ++ dst zs)) (List.Perm.refl _) ?_ zs
  · intro zs y ih
    have e : x :: (zs ++ [y]) = (x :: zs) ++ [y] := rfl
    rw [e, dst_snoc, dst_snoc, List.map_append, List.map_cons]
    refine (List.Perm.append_right _ ih).trans ?_
    simp only [List.append_assoc]
    refine List.Perm.append_left _ ?_
    rw [← List.append_assoc]
    have h1 : (dst zs ++ (y - x) :: zs.map fun b => y - b).Perm ((y - x) :: (dst zs ++ zs.map fun b => y - b)) := List.perm_middle
    simp only [List.map_append, List.map_cons, List.map_nil, List.append_assoc, List.singleton_append] at h1 ⊢
    exact h1
/-- Turned round, less t. -/
def trn (t : Int) (zs : List Int) : List Int := zs.reverse.map fun b => t - b
theorem dst_trn (t : Int) (zs : List Int) : (dst (trn t zs)).Perm (dst zs) := by
  induction zs with
  | nil => exact List.Perm.refl _
  | cons x zs ih =>
    have e : trn t (x :: zs) = trn t zs ++ [t - x] := by unfold trn; rw [List.reverse_cons, List.map_append]; rfl
    rw [e, dst_snoc]
    refine List.Perm.trans ?_ (dst_cons zs x).symm
    refine List.perm_append_comm.trans (List.Perm.append ?_ ih)
    unfold trn
    rw [List.map_map]
    have e2 : ((fun b => t - x - b) ∘ fun b => t - b) = fun b : Int => b - x := by funext b; simp only [Function.comp]; omega
    rw [e2]
    exact (List.reverse_perm zs).map _
/-- Points turned round. -/
def turn (zs : List Int) : List Int := trn (zs.getD (zs.length - 1) 0) zs
theorem dsr_turn (zs : List Int) : dsr (turn zs) = dsr zs := srt_of_perm (dst_trn _ zs)
theorem getD_last (zs : List Int) (x : Int) : (zs ++ [x]).getD ((zs ++ [x]).length - 1) 0 = x := by
  rw [List.getD_eq_getElem?_getD, List.length_append, List.length_singleton, Nat.add_sub_cancel, List.getElem?_append_right (Nat.le_refl _), Nat.sub_self]
  rfl
theorem vp_turn {zs : List Int} (h : vp zs = true) : vp (turn zs) = true := by
  rw [vp_iff] at h ⊢
  obtain ⟨h1, ⟨r, rfl⟩, h3, h4⟩ := h
  rcases List.eq_nil_or_concat (0 :: r) with e | ⟨l, x, e⟩
  · cases e
  · rw [List.concat_eq_append] at e
    rw [e] at h1 h3 h4 ⊢
    unfold turn
    rw [getD_last]
    have hx := h3 x (by simp)
    have hlx : ∀ a ∈ l ++ [x], 0 ≤ a ∧ a ≤ x := by
      intro a ha
      refine ⟨(h3 a ha).1, ?_⟩
      rw [List.mem_append, List.mem_singleton] at ha
      rcases ha with ha | rfl
      · have := (List.pairwise_append.1 h4).2.2 a ha x (by simp); omega
      · exact Int.le_refl _
    refine ⟨by unfold trn; simpa using h1, ⟨trn x l, ?_⟩, ?_, ?_⟩
    · unfold trn
      rw [List.reverse_append, List.reverse_singleton, List.singleton_append, List.map_cons, Int.sub_self]
    · intro a ha
      unfold trn at ha
      rw [List.mem_map] at ha
      obtain ⟨b, hb, rfl⟩ := ha
      have := hlx b (List.mem_reverse.1 hb)
      omega
    · unfold trn
      rw [List.pairwise_map, List.pairwise_reverse]
      exact h4.imp fun h => by omega
theorem turn_turn {zs : List Int} (h : vp zs = true) : turn (turn zs) = zs := by
  rw [vp_iff] at h
  obtain ⟨h1, ⟨r, rfl⟩, h3, h4⟩ := h
  have e1 : turn (0 :: r) = trn ((0 :: r).getD ((0 :: r).length - 1) 0) r ++ [(0 :: r).getD ((0 :: r).length - 1) 0] := by
    unfold turn trn
    rw [List.reverse_cons, List.map_append]
    simp
  obtain ⟨t, ht⟩ : ∃ t, t = (0 :: r).getD ((0 :: r).length - 1) 0 := ⟨_, rfl⟩
  rw [← ht] at e1
  rw [e1]
  unfold turn
  rw [getD_last]
  unfold trn
  rw [List.reverse_append, List.map_append, ← List.map_reverse, List.reverse_reverse, List.map_map]
  have e2 : ((fun b => t - b) ∘ fun b => t - b) = (id : Int → Int) := by funext b; simp only [Function.comp, id]; omega
  rw [e2]
  simp
/-- No two numbers that stand side by side are the same. -/
def apartTo (l : List Int) : Nat → Bool
  | 0 => true
  | k + 1 => apartTo l k && (decide (k = 0) || decide (l.getD k 0 ≠ l.getD (k - 1) 0))
end Go.Proofs.Ytopmifidhabobaa
