/-
  Plain laws of points with distances: the search of the program and that of the reference find the same points.
-/
import Derived.Test.YtopmifidhabobaaDst
import Derived.Test.YtopmifidhabobaaRuler
namespace Go.Proofs.Ytopmifidhabobaa
set_option linter.unusedVariables false
set_option linter.unusedSimpArgs false

/-- Numbers without some others, if all are there. -/
def wo : List Int → List Int → Option (List Int)
  | L, [] => some L
  | L, g :: gs => if g ∈ L then wo (L.erase g) gs else none
theorem wo_some : ∀ {gs L r : List Int}, wo L gs = some r → L.Perm (r ++ gs) := by
  intro gs
  induction gs with
  | nil => intro L r h; simp [wo] at h; subst h; simp
  | cons g gs ih =>
    intro L r h
    rw [wo] at h
    split at h
    · next hg =>
      have h1 := ih h
      exact (List.perm_cons_erase hg).trans ((h1.cons g).trans (List.perm_middle.symm))
    · cases h
theorem wo_len {gs L r : List Int} (h : wo L gs = some r) : L.length = r.length + gs.length := by
  have := (wo_some h).length_eq
  simpa using this
theorem wo_sub {gs L r : List Int} (h : wo L gs = some r) : ∀ x ∈ r, x ∈ L := fun x hx => (wo_some h).mem_iff.2 (by simp [hx])
theorem wo_all {gs L r : List Int} (h : wo L gs = some r) : ∀ x ∈ gs, x ∈ L := fun x hx => (wo_some h).mem_iff.2 (by simp [hx])
theorem wo_sorted : ∀ {gs L r : List Int}, wo L gs = some r → L.Pairwise (fun a b => a ≤ b) → r.Pairwise (fun a b => a ≤ b) := by
  intro gs
  induction gs with
  | nil => intro L r h hL; simp [wo] at h; subst h; exact hL
  | cons g gs ih =>
    intro L r h hL
    rw [wo] at h
    split at h
    · exact ih h (hL.sublist List.erase_sublist)
    · cases h
/-- The gaps between a point and others. -/
def gaps (x : Int) (pts : List Int) : List Int := pts.map fun p => max (x - p) (p - x)
def mxl (pts : List Int) : Int := pts.foldl max 0
/-- What the program's search finds. -/
def tryI (rec : List Int → List Int → List (List Int)) (pts left : List Int) (x : Int) : List (List Int) :=
  if x < 0 ∨ x ∈ pts then [] else match wo left (gaps x pts) with | none => [] | some r => rec (pts ++ [x]) r
def lvI : Nat → List Int → List Int → List (List Int)
  | 0, pts, left => if left = [] then [srt pts] else []
  | f + 1, pts, left => if left = [] then [srt pts] else tryI (lvI f) pts left (left.getLastD 0) ++ tryI (lvI f) pts left (mxl pts - left.getLastD 0)
/-- What the reference's search finds. -/
def tryS (rec : List Int → List Int → List (List Int)) (pts left : List Int) (x : Int) : List (List Int) :=
  match wo left (gaps x pts) with | none => [] | some r => rec (pts ++ [x]) r
def lvS : Nat → Int → List Int → List Int → List (List Int)
  | 0, _, pts, left => if left = [] then [srt pts] else []
  | f + 1, top, pts, left => if left = [] then [srt pts] else tryS (lvS f top) pts left (left.getLastD 0) ++ (if left.getLastD 0 = top - left.getLastD 0 then [] else tryS (lvS f top) pts left (top - left.getLastD 0))
/-- The points so far, and what is left. -/
structure Got (top : Int) (pts left : List Int) : Prop where
  zero : (0 : Int) ∈ pts
  top_ : top ∈ pts
  all : ∀ p ∈ pts, 0 ≤ p ∧ p ≤ top
  left_ : ∀ x ∈ left, 1 ≤ x ∧ x ≤ top
  srt_ : left.Pairwise (fun a b => a ≤ b)
theorem mxl_le (l : List Int) : ∀ (a : Int), (∀ p ∈ l, p ≤ l.foldl max a) ∧ a ≤ l.foldl max a := by
  induction l with
  | nil => intro a; simp
  | cons b l ih =>
    intro a
    obtain ⟨h1, h2⟩ := ih (max a b)
    rw [List.foldl_cons]
    refine ⟨fun p hp => ?_, by omega⟩
    rw [List.mem_cons] at hp
    rcases hp with rfl | hp
    · omega
    · exact h1 p hp
theorem mxl_mem (l : List Int) : ∀ a : Int, l.foldl max a = a ∨ l.foldl max a ∈ l := by
  induction l with
  | nil => intro a; exact .inl rfl
  | cons b l ih =>
    intro a
    rw [List.foldl_cons]
    rcases ih (max a b) with h | h
    · rw [h]
      rcases (show max a b = a ∨ max a b = b by omega) with h | h
      · exact .inl h
      · rw [h]; exact .inr (by simp)
    · exact .inr (by simp [h])
theorem Got.mx {top : Int} {pts left : List Int} (h : Got top pts left) : mxl pts = top := by
  have h1 := (mxl_le pts 0).1 top h.top_
  have h2 := (h.all top h.top_).1
  rcases mxl_mem pts 0 with h3 | h3
  · unfold mxl; omega
  · have := (h.all _ h3).2
    unfold mxl; omega
theorem last_mem {l : List Int} (h : l ≠ []) : l.getLastD 0 ∈ l := by
  rw [List.getLastD_eq_getLast?, List.getLast?_eq_some_getLast h]
  exact List.getLast_mem h
theorem Got.step {top x : Int} {pts left r : List Int} (h : Got top pts left) (hx : 0 ≤ x ∧ x ≤ top) (hw : wo left (gaps x pts) = some r) : Got top (pts ++ [x]) r :=
  ⟨by simp [h.zero], by simp [h.top_], fun p hp => by
    rw [List.mem_append, List.mem_singleton] at hp
    rcases hp with hp | rfl
    · exact h.all p hp
    · exact hx, fun y hy => h.left_ y (wo_sub hw y hy), wo_sorted hw h.srt_⟩
theorem not_old {top x : Int} {pts left r : List Int} (h : Got top pts left) (hw : wo left (gaps x pts) = some r) : x ∉ pts := by
  intro hx
  have : (0 : Int) ∈ gaps x pts := by
    unfold gaps
    rw [List.mem_map]
    exact ⟨x, hx, by omega⟩
  have := (h.left_ 0 (wo_all hw 0 this)).1
  omega
theorem tryI_mem {top x : Int} {f : Nat} {pts left : List Int} (h : Got top pts left) (hx : 0 ≤ x ∧ x ≤ top) (ih : ∀ pts left, Got top pts left → ∀ y, y ∈ lvI f pts left ↔ y ∈ lvS f top pts left) (y : List Int) : y ∈ tryI (lvI f) pts left x ↔ y ∈ tryS (lvS f top) pts left x := by
  unfold tryI tryS
  cases hw : wo left (gaps x pts) with
  | none => split <;> simp
  | some r =>
    rw [if_neg (fun hn => hn.elim (fun h1 => by omega) (not_old h hw))]
    exact ih _ _ (h.step hx hw) y
theorem lv_mem (top : Int) (f : Nat) : ∀ pts left, Got top pts left → ∀ y, y ∈ lvI f pts left ↔ y ∈ lvS f top pts left := by
  induction f with
  | zero => intro pts left _ y; rfl
  | succ f ih =>
    intro pts left h y
    rw [lvI, lvS]
    split
    · rfl
    · next hne =>
      have hl := h.left_ _ (last_mem hne)
      rw [h.mx, List.mem_append, List.mem_append, tryI_mem h (by omega) ih]
      split
      · next he =>
        rw [← he, tryI_mem h (by omega) ih]
        simp
      · rw [tryI_mem h (by omega) ih]
/-- The distances of all pairs. -/
def apd : List Int → List Int
  | [] => []
  | a :: l => gaps a l ++ apd l
theorem gaps_perm {x : Int} {l m : List Int} (h : l.Perm m) : (gaps x l).Perm (gaps x m) := h.map _
theorem apd_perm {l m : List Int} (h : l.Perm m) : (apd l).Perm (apd m) := by
  induction h with
  | nil => exact List.Perm.refl _
  | cons a h ih => exact (gaps_perm h).append ih
  | swap a b l =>
    have e : max (b - a) (a - b) = max (a - b) (b - a) := by omega
    have h1 : apd (b :: a :: l) = max (b - a) (a - b) :: (gaps b l ++ (gaps a l ++ apd l)) := rfl
    have h2 : apd (a :: b :: l) = max (a - b) (b - a) :: (gaps a l ++ (gaps b l ++ apd l)) := rfl
    rw [h1, h2, e]
    refine List.Perm.cons _ ?_
    rw [← List.append_assoc, ← List.append_assoc]
    exact List.perm_append_comm.append_right _
  | trans _ _ ih1 ih2 => exact ih1.trans ih2
theorem apd_snoc (l : List Int) (x : Int) : (apd (l ++ [x])).Perm (apd l ++ gaps x l) :=
  (apd_perm (List.perm_append_singleton x l)).trans List.perm_append_comm
theorem gaps_le {y : Int} {zs : List Int} (h : ∀ b ∈ zs, b ≤ y) : gaps y zs = zs.map fun b => y - b := by
  unfold gaps
  refine List.map_congr_left fun b hb => ?_
  have := h b hb
  omega
theorem dst_apd {l : List Int} : l.Pairwise (fun a b => a ≤ b) → (dst l).Perm (apd l) := by
  refine snoc_ind (p := fun l => l.Pairwise (fun a b => a ≤ b) → (dst l).Perm (apd l)) ?_ ?_ l
  · intro _; exact List.Perm.refl _
  · intro l x ih h
    rw [List.pairwise_append] at h
    rw [dst_snoc, ← gaps_le (fun b hb => h.2.2 b hb x (by simp))]
    exact ((ih h.1).append_right _).trans (apd_snoc l x).symm
/-- All that is found: points, in order, whose distances are those of the points so far and what was left. -/
theorem lvS_mem (top : Int) (f : Nat) : ∀ pts left, Got top pts left → left.length ≤ f → pts.Nodup → ∀ y, y ∈ lvS f top pts left → ∃ q, y = srt q ∧ Got top q [] ∧ (apd q).Perm (apd pts ++ left) ∧ q.Nodup := by
  induction f with
  | zero =>
    intro pts left h hl hn y hy
    obtain rfl := List.eq_nil_of_length_eq_zero (show left.length = 0 by omega)
    rw [lvS, if_pos rfl, List.mem_singleton] at hy
    exact ⟨pts, hy, h, by simp, hn⟩
  | succ f ih =>
    intro pts left h hl hn y hy
    rw [lvS] at hy
    split at hy
    · next he =>
      subst he
      rw [List.mem_singleton] at hy
      exact ⟨pts, hy, h, by simp, hn⟩
    · next hne =>
      have hll := h.left_ _ (last_mem hne)
      have key : ∀ x, 0 ≤ x ∧ x ≤ top → y ∈ tryS (lvS f top) pts left x → ∃ q, y = srt q ∧ Got top q [] ∧ (apd q).Perm (apd pts ++ left) ∧ q.Nodup := by
        intro x hx hy
        unfold tryS at hy
        cases hw : wo left (gaps x pts) with
        | none => rw [hw] at hy; simp at hy
        | some r =>
          rw [hw] at hy
          have hlen := wo_len hw
          have hp1 : 1 ≤ pts.length := List.length_pos_of_mem h.zero
          have hg : (gaps x pts).length = pts.length := by unfold gaps; simp
          have hn' : (pts ++ [x]).Nodup := by
            rw [List.nodup_append]
            exact ⟨hn, by simp, fun a ha b hb => by rw [List.mem_singleton] at hb; subst hb; rintro rfl; exact not_old h hw ha⟩
          obtain ⟨q, h1, h2, h3, h4⟩ := ih _ _ (h.step hx hw) (by omega) hn' y hy
          refine ⟨q, h1, h2, h3.trans ?_, h4⟩
          refine ((apd_snoc pts x).append_right r).trans ?_
          rw [List.append_assoc]
          exact List.Perm.append_left _ (List.perm_append_comm.trans (wo_some hw).symm)
      rw [List.mem_append] at hy
      rcases hy with hy | hy
      · exact key _ (by omega) hy
      · split at hy
        · cases hy
        · exact key _ (by omega) hy
theorem tryI_len {f : Nat} {pts left : List Int} (ih : ∀ pts left, (lvI f pts left).length ≤ 2 ^ f) (x : Int) : (tryI (lvI f) pts left x).length ≤ 2 ^ f := by
  unfold tryI
  split
  · simp
  · split
    · simp
    · exact ih _ _
theorem lvI_len (f : Nat) : ∀ pts left, (lvI f pts left).length ≤ 2 ^ f := by
  induction f with
  | zero => intro pts left; rw [lvI]; split <;> simp
  | succ f ih =>
    intro pts left
    have h1 : 1 ≤ 2 ^ (f + 1) := Nat.one_le_two_pow
    rw [lvI]
    split
    · simpa using h1
    · have h2 := tryI_len (pts := pts) (left := left) ih (left.getLastD 0)
      have h3 := tryI_len (pts := pts) (left := left) ih (mxl pts - left.getLastD 0)
      rw [List.length_append, Nat.pow_succ]
      omega
theorem tryS_len {f : Nat} {top : Int} {pts left : List Int} (ih : ∀ pts left, (lvS f top pts left).length ≤ 2 ^ f) (x : Int) : (tryS (lvS f top) pts left x).length ≤ 2 ^ f := by
  unfold tryS
  split
  · simp
  · exact ih _ _
theorem lvS_len (f : Nat) (top : Int) : ∀ pts left, (lvS f top pts left).length ≤ 2 ^ f := by
  induction f with
  | zero => intro pts left; rw [lvS]; split <;> simp
  | succ f ih =>
    intro pts left
    have h1 : 1 ≤ 2 ^ (f + 1) := Nat.one_le_two_pow
    rw [lvS]
    split
    · simpa using h1
    · have h2 := tryS_len (pts := pts) (left := left) ih (left.getLastD 0)
      have h3 := tryS_len (pts := pts) (left := left) ih (top - left.getLastD 0)
      rw [List.length_append, Nat.pow_succ]
      split
      · simp only [List.length_nil]; omega
      · omega
/-! ### lists of numbers in order -/
def ltL : List Int → List Int → Bool
  | _, [] => false
  | [], _ :: _ => true
  | a :: l, b :: m => if a = b then ltL l m else decide (a < b)
theorem ltL_irrefl (l : List Int) : ltL l l = false := by
  induction l with
  | nil => rfl
  | cons a l ih => rw [ltL, if_pos rfl]; exact ih
theorem ltL_trans : ∀ {a b c : List Int}, ltL a b = true → ltL b c = true → ltL a c = true := by
  intro a
  induction a with
  | nil =>
    intro b c h1 h2
    cases c with
    | nil => cases b <;> simp [ltL] at h2
    | cons z c => rfl
  | cons x a ih =>
    intro b c h1 h2
    cases b with
    | nil => simp [ltL] at h1
    | cons y b =>
      cases c with
      | nil => simp [ltL] at h2
      | cons z c =>
        rw [ltL] at h1 h2 ⊢
        split at h1
        · next e1 =>
          subst e1
          split at h2
          · next e2 => subst e2; rw [if_pos rfl]; exact ih h1 h2
          · next e2 => rw [if_neg e2]; exact h2
        · next e1 =>
          split at h2
          · next e2 => subst e2; rw [if_neg e1]; exact h1
          · next e2 =>
            simp only [decide_eq_true_eq] at h1 h2
            rw [if_neg (by omega)]
            simpa using (by omega : x < z)
theorem ltL_total : ∀ {a b : List Int}, ltL a b = false → ltL b a = false → a = b := by
  intro a
  induction a with
  | nil =>
    intro b h1 h2
    cases b with
    | nil => rfl
    | cons y b => simp [ltL] at h1
  | cons x a ih =>
    intro b h1 h2
    cases b with
    | nil => simp [ltL] at h2
    | cons y b =>
      rw [ltL] at h1 h2
      split at h1
      · next e =>
        subst e
        rw [if_pos rfl] at h2
        rw [ih h1 h2]
      · next e =>
        rw [if_neg (fun h => e h.symm)] at h2
        simp only [decide_eq_false_iff_not] at h1 h2
        omega
theorem ltL_asymm {a b : List Int} (h : ltL a b = true) : ltL b a = false := by
  cases h2 : ltL b a with
  | false => rfl
  | true => have := ltL_trans h h2; rw [ltL_irrefl] at this; cases this
/-- In strict order. -/
def Asc (L : List (List Int)) : Prop := L.Pairwise (fun a b => ltL a b = true)
theorem Asc.eq : ∀ {L M : List (List Int)}, Asc L → Asc M → (∀ x, x ∈ L ↔ x ∈ M) → L = M := by
  intro L
  induction L with
  | nil =>
    intro M _ _ h
    cases M with
    | nil => rfl
    | cons b M => have := (h b).2 (by simp); cases this
  | cons a L ih =>
    intro M hL hM h
    cases M with
    | nil => have := (h a).1 (by simp); cases this
    | cons b M =>
      obtain ⟨l1, l2⟩ := List.pairwise_cons.1 hL
      obtain ⟨m1, m2⟩ := List.pairwise_cons.1 hM
      have e : a = b := by
        have ha := (h a).1 (by simp)
        have hb := (h b).2 (by simp)
        rw [List.mem_cons] at ha hb
        rcases ha with ha | ha
        · exact ha
        · rcases hb with hb | hb
          · exact hb.symm
          · have := ltL_trans (l1 b hb) (m1 a ha)
            rw [ltL_irrefl] at this
            cases this
      subst e
      rw [ih l2 m2 fun x => ?_]
      constructor
      · intro hx
        have := (h x).1 (by simp [hx])
        rw [List.mem_cons] at this
        rcases this with rfl | h2
        · have := l1 x hx; rw [ltL_irrefl] at this; cases this
        · exact h2
      · intro hx
        have := (h x).2 (by simp [hx])
        rw [List.mem_cons] at this
        rcases this with rfl | h2
        · have := m1 x hx; rw [ltL_irrefl] at this; cases this
        · exact h2
/-- One list more in strict order, if it is not there. -/
def insU (L : List (List Int)) (x : List Int) : List (List Int) :=
  if x ∈ L then L else L.takeWhile (fun y => ltL y x) ++ x :: L.dropWhile (fun y => ltL y x)
theorem insU_mem (L : List (List Int)) (x y : List Int) : y ∈ insU L x ↔ y = x ∨ y ∈ L := by
  unfold insU
  split
  · next h =>
    constructor
    · exact .inr
    · rintro (rfl | h2)
      · exact h
      · exact h2
  · have e : y ∈ L ↔ y ∈ L.takeWhile (fun y => ltL y x) ∨ y ∈ L.dropWhile (fun y => ltL y x) := by
      conv => lhs; rw [← List.takeWhile_append_dropWhile (p := fun y => ltL y x) (l := L)]
      rw [List.mem_append]
    rw [e, List.mem_append, List.mem_cons]
    constructor
    · rintro (h | h | h)
      · exact .inr (.inl h)
      · exact .inl h
      · exact .inr (.inr h)
    · rintro (h | h | h)
      · exact .inr (.inl h)
      · exact .inl h
      · exact .inr (.inr h)
theorem asc_insU : ∀ {L : List (List Int)} {x : List Int}, Asc L → Asc (insU L x) := by
  intro L x
  induction L with
  | nil => intro _; simp [insU, Asc]
  | cons a L ih =>
    intro h
    obtain ⟨h1, h2⟩ := List.pairwise_cons.1 h
    have ih := ih h2
    by_cases hx : x ∈ a :: L
    · unfold insU; rw [if_pos hx]; exact h
    · have hxL : x ∉ L := fun hm => hx (by simp [hm])
      have hne : a ≠ x := fun e => hx (by simp [e])
      by_cases ha : ltL a x = true
      · have e : insU (a :: L) x = a :: insU L x := by
          unfold insU
          rw [if_neg hx, if_neg hxL, List.takeWhile_cons, List.dropWhile_cons, if_pos ha, if_pos ha]
          rfl
        rw [e]
        refine List.pairwise_cons.2 ⟨fun y hy => ?_, ih⟩
        rcases (insU_mem L x y).1 hy with rfl | hy
        · exact ha
        · exact h1 y hy
      · have e : insU (a :: L) x = x :: a :: L := by
          unfold insU
          rw [if_neg hx, List.takeWhile_cons, List.dropWhile_cons, if_neg ha, if_neg ha]
          rfl
        rw [e]
        have hxa : ltL x a = true := by
          cases hh : ltL x a with
          | true => rfl
          | false => exact absurd (ltL_total (by simpa using ha) hh) hne
        refine List.pairwise_cons.2 ⟨fun y hy => ?_, h⟩
        rw [List.mem_cons] at hy
        rcases hy with rfl | hy
        · exact hxa
        · exact ltL_trans hxa (h1 y hy)
theorem fold_insU (M : List (List Int)) : ∀ L, Asc L → Asc (M.foldl insU L) ∧ ∀ y, y ∈ M.foldl insU L ↔ y ∈ M ∨ y ∈ L := by
  induction M with
  | nil => intro L h; exact ⟨h, fun y => by simp⟩
  | cons x M ih =>
    intro L h
    obtain ⟨h1, h2⟩ := ih (insU L x) (asc_insU h)
    refine ⟨h1, fun y => ?_⟩
    rw [List.foldl_cons, h2, insU_mem, List.mem_cons]
    constructor
    · rintro (h | h | h)
      · exact .inl (.inr h)
      · exact .inl (.inl h)
      · exact .inr h
    · rintro ((h | h) | h)
      · exact .inr (.inl h)
      · exact .inl h
      · exact .inr (.inr h)
end Go.Proofs.Ytopmifidhabobaa
