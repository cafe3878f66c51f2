/-
  Plain laws of stretches: texts that are made of words without a choice have no word twice.
-/
import Derived.Test.YtfbmcfdmffpfmaaFac
namespace Go.Proofs.Ytfbmcfdmffpfmaa
set_option linter.unusedVariables false
set_option linter.unusedSimpArgs false

def endsN (all : List (List UInt8)) (p : List UInt8) : Nat := all.countP fun x => decide (x.drop 1 = p)
def begsN (k : Nat) (all : List (List UInt8)) (p : List UInt8) : Nat := all.countP fun x => decide (x.take (k - 1) = p)
/-- Whether letters are passed. -/
def psd (k : Nat) (all : List (List UInt8)) (p : List UInt8) : Bool := decide (endsN all p = 1) && decide (begsN k all p = 1)
def nxw (k : Nat) (all : List (List UInt8)) (p : List UInt8) : List UInt8 := (all.find? fun x => decide (x.take (k - 1) = p)).getD []
def endT (k : Nat) (s : List UInt8) : List UInt8 := s.drop (s.length - (k - 1))
def runT_ (k : Nat) (all : List (List UInt8)) : Nat → List UInt8 → List UInt8
  | 0, s => s
  | f + 1, s => if psd k all (endT k s) then runT_ k all f (s ++ (nxw k all (endT k s)).drop (k - 1)) else s
theorem run_stop {k : Nat} {all : List (List UInt8)} {s : List UInt8} (h : psd k all (endT k s) = false) : ∀ f, runT_ k all f s = s := by
  intro f
  cases f with
  | zero => rfl
  | succ f => rw [runT_, h]; rfl
/-- The text that begins with a word. -/
def strT (k : Nat) (all : List (List UInt8)) (x : List UInt8) : List UInt8 := runT_ k all all.length x
/-- The words on the way, the last one ahead, and the text. -/
inductive Pth (k : Nat) (all : List (List UInt8)) (x : List UInt8) : List (List UInt8) → List UInt8 → Prop where
  | one : Pth k all x [x] x
  | more {y : List UInt8} {vis : List (List UInt8)} {s : List UInt8} (h : Pth k all x (y :: vis) s) (hp : psd k all (y.drop 1) = true) : Pth k all x (nxw k all (y.drop 1) :: y :: vis) (s ++ (nxw k all (y.drop 1)).drop (k - 1))

/-- What words must be. -/
structure Wds (k : Nat) (all : List (List UInt8)) : Prop where
  k2 : 2 ≤ k
  len : ∀ x ∈ all, x.length = k
  nd : all.Nodup
theorem begs_one {k : Nat} {all : List (List UInt8)} {p : List UInt8} (h : psd k all p = true) : nxw k all p ∈ all ∧ (nxw k all p).take (k - 1) = p := by
  unfold psd at h
  rw [Bool.and_eq_true] at h
  have h1 := of_decide_eq_true h.2
  unfold begsN at h1
  have h2 : 0 < all.countP fun x => decide (x.take (k - 1) = p) := by omega
  rw [List.countP_pos_iff] at h2
  obtain ⟨z, hz, hz2⟩ := h2
  unfold nxw
  cases hf : all.find? fun x => decide (x.take (k - 1) = p) with
  | none => exact absurd hz2 (by simpa using List.find?_eq_none.1 hf z hz)
  | some y => exact ⟨List.mem_of_find?_eq_some hf, by simpa using List.find?_some hf⟩
theorem count_one {α : Type} {f : α → Bool} : ∀ {l : List α}, l.countP f = 1 → ∀ {x y : α}, x ∈ l → y ∈ l → f x = true → f y = true → x = y := by
  intro l
  induction l with
  | nil => intro _ x y hx; cases hx
  | cons a l ih =>
    intro h x y hx hy fx fy
    rw [List.countP_cons] at h
    by_cases fa : f a = true
    · rw [if_pos fa] at h
      have h0 : l.countP f = 0 := by omega
      rw [List.countP_eq_zero] at h0
      have ex : x = a := (List.mem_cons.1 hx).resolve_right fun hm => h0 x hm fx
      have ey : y = a := (List.mem_cons.1 hy).resolve_right fun hm => h0 y hm fy
      rw [ex, ey]
    · rw [if_neg fa] at h
      have ex : x ∈ l := (List.mem_cons.1 hx).resolve_left fun e => fa (e ▸ fx)
      have ey : y ∈ l := (List.mem_cons.1 hy).resolve_left fun e => fa (e ▸ fy)
      exact ih (by omega) ex ey fx fy
theorem ends_one {k : Nat} {all : List (List UInt8)} {p x y : List UInt8} (h : psd k all p = true) (hx : x ∈ all) (hy : y ∈ all) (ex : x.drop 1 = p) (ey : y.drop 1 = p) : x = y := by
  unfold psd at h
  rw [Bool.and_eq_true] at h
  exact count_one (of_decide_eq_true h.1) hx hy (decide_eq_true ex) (decide_eq_true ey)
theorem begs_uni {k : Nat} {all : List (List UInt8)} {p x : List UInt8} (h : psd k all p = true) (hx : x ∈ all) (ex : x.take (k - 1) = p) : nxw k all p = x := by
  have hb := begs_one h
  unfold psd at h
  rw [Bool.and_eq_true] at h
  exact count_one (of_decide_eq_true h.2) hb.1 hx (decide_eq_true hb.2) (decide_eq_true ex)

theorem end_app {k : Nat} {s y : List UInt8} (hk : 2 ≤ k) (hy : y.length = k) (hs : k ≤ s.length) (h : endT k s = y.take (k - 1)) : endT k (s ++ y.drop (k - 1)) = y.drop 1 := by
  unfold endT at h ⊢
  have hd : (y.drop (k - 1)).length = 1 := by rw [List.length_drop]; omega
  rw [List.length_append, hd, show s.length + 1 - (k - 1) = s.length - (k - 1) + 1 by omega, List.drop_append_of_le_length (by omega), ← List.drop_drop, h]
  rw [List.drop_take, show k - 1 - 1 = k - 2 by omega]
  have h2 : y.drop 1 = (y.drop 1).take (k - 2) ++ (y.drop 1).drop (k - 2) := (List.take_append_drop _ _).symm
  rw [List.drop_drop, show 1 + (k - 2) = k - 1 by omega] at h2
  exact h2.symm
theorem Pth.facts {k : Nat} {all : List (List UInt8)} {x : List UInt8} (W : Wds k all) (hx : x ∈ all) : ∀ {vis : List (List UInt8)} {s : List UInt8}, Pth k all x vis s →
    (∀ z ∈ vis, z ∈ all) ∧ s.length + 1 = k + vis.length ∧ ∃ y r, vis = y :: r ∧ endT k s = y.drop 1 := by
  have hk := W.k2
  intro vis s h
  induction h with
  | one =>
    have hl := W.len x hx
    refine ⟨fun z hz => by rw [List.mem_singleton] at hz; rw [hz]; exact hx, by simp; omega, x, [], rfl, ?_⟩
    unfold endT
    rw [show x.length - (k - 1) = 1 by omega]
  | @more y vis s h hp ih =>
    obtain ⟨h1, h2, y', r, he, h3⟩ := ih
    injection he with e1 e2
    subst e1
    have hb := begs_one hp
    have hl := W.len _ hb.1
    refine ⟨fun z hz => ?_, ?_, _, _, rfl, ?_⟩
    · rcases List.mem_cons.1 hz with rfl | hz
      · exact hb.1
      · exact h1 z hz
    · rw [List.length_append, List.length_drop, List.length_cons]
      omega
    · refine end_app hk hl ?_ (h3.trans hb.2.symm)
      rw [List.length_cons] at h2
      omega
/-- All but the first of the words on a way are behind letters that are passed. -/
theorem Pth.back {k : Nat} {all : List (List UInt8)} {x : List UInt8} (W : Wds k all) (hx : x ∈ all) : ∀ {vis : List (List UInt8)} {s : List UInt8}, Pth k all x vis s →
    ∀ (a : List (List UInt8)) (z : List UInt8) (b : List (List UInt8)), vis = a ++ z :: b → (b = [] ∧ z = x) ∨ ∃ y b', b = y :: b' ∧ psd k all (y.drop 1) = true ∧ z.take (k - 1) = y.drop 1 ∧ y ∈ all ∧ ∃ s', Pth k all x b s' := by
  intro vis s h
  induction h with
  | one =>
    intro a z b e
    cases a with
    | nil => injection e with e1 e2; exact .inl ⟨e2.symm, e1.symm⟩
    | cons c a => injection e with e1 e2; cases a <;> cases e2
  | @more y vis s h hp ih =>
    intro a z b e
    cases a with
    | nil =>
      injection e with e1 e2
      refine .inr ⟨y, vis, e2.symm, hp, ?_, (h.facts W hx).1 y (by simp), s, e2 ▸ h⟩
      rw [← e1]
      exact (begs_one hp).2
    | cons c a =>
      injection e with e1 e2
      exact ih a z b e2
/-- Two ways that meet in a word are one way up to there. -/
theorem Pth.meet {k : Nat} {all : List (List UInt8)} (W : Wds k all) {x x' : List UInt8} (hx : x ∈ all) (hx' : x' ∈ all) (n : psd k all (x.take (k - 1)) = false) (n' : psd k all (x'.take (k - 1)) = false) :
    ∀ (m : Nat) {z : List UInt8} {b b' : List (List UInt8)} {s s' : List UInt8}, b.length ≤ m → Pth k all x (z :: b) s → Pth k all x' (z :: b') s' → b = b' ∧ x = x' := by
  intro m
  induction m with
  | zero =>
    intro z b b' s s' hm h h'
    obtain rfl := List.eq_nil_of_length_eq_zero (show b.length = 0 by omega)
    rcases h.back W hx [] z [] rfl with ⟨_, e⟩ | ⟨y, r, e, _⟩
    · rcases h'.back W hx' [] z b' rfl with ⟨e2, e3⟩ | ⟨y, r, e2, hp, ht, _⟩
      · exact ⟨e2.symm, e.symm.trans e3⟩
      · rw [e] at ht
        rw [ht, hp] at n
        cases n
    · cases e
  | succ m ih =>
    intro z b b' s s' hm h h'
    rcases h.back W hx [] z b rfl with ⟨e, e1⟩ | ⟨y, r, e, hp, ht, hy, s1, hs1⟩
    · subst e
      exact ih (by simp) h h'
    · rcases h'.back W hx' [] z b' rfl with ⟨e2, e3⟩ | ⟨y', r', e2, hp', ht', hy', s2, hs2⟩
      · rw [e3] at ht
        rw [ht, hp] at n'
        cases n'
      · have hyy : y = y' := ends_one hp hy hy' rfl (ht'.symm.trans ht)
        subst hyy
        subst e e2
        have := ih (by simp at hm; omega) hs1 hs2
        exact ⟨by rw [this.1], this.2⟩
theorem Pth.nodup {k : Nat} {all : List (List UInt8)} {x : List UInt8} (W : Wds k all) (hx : x ∈ all) (n : psd k all (x.take (k - 1)) = false) : ∀ {vis : List (List UInt8)} {s : List UInt8}, Pth k all x vis s → vis.Nodup := by
  intro vis s h
  induction h with
  | one => simp
  | @more y vis s h hp ih =>
    refine List.nodup_cons.2 ⟨fun hm => ?_, ih⟩
    -- the new word stands further back: the way up to there is the whole way
    obtain ⟨a, b, e⟩ := List.append_of_mem hm
    have hsuf : ∀ (a : List (List UInt8)) {vis : List (List UInt8)} {s : List UInt8}, Pth k all x vis s → ∀ {z : List UInt8} {b : List (List UInt8)}, vis = a ++ z :: b → ∃ s', Pth k all x (z :: b) s' := by
      intro a
      induction a with
      | nil =>
        intro vis s h z b e
        rw [List.nil_append] at e
        exact ⟨s, e ▸ h⟩
      | cons c a iha =>
        intro vis s h z b e
        rcases h.back W hx [] c (a ++ z :: b) e with ⟨e1, _⟩ | ⟨y', b', e1, _, _, _, s1, hs1⟩
        · cases a <;> cases e1
        · exact iha hs1 rfl
    obtain ⟨s1, hs1⟩ := hsuf a h e
    have hnew := Pth.more h hp
    have := (Pth.meet W hx hx n n _ (Nat.le_refl _) hs1 hnew).1
    have h1 := congrArg List.length e
    have h2 := congrArg List.length this
    simp at h1 h2
    omega
theorem nodup_le {α : Type} [DecidableEq α] : ∀ {l m : List α}, l.Nodup → (∀ x ∈ l, x ∈ m) → l.length ≤ m.length := by
  intro l
  induction l with
  | nil => intro m _ _; simp
  | cons a l ih =>
    intro m h hs
    have h1 := List.nodup_cons.1 h
    have ha := hs a (by simp)
    have h2 := ih (m := m.erase a) h1.2 fun x hx => (List.mem_erase_of_ne (fun (e : x = a) => h1.1 (by rw [← e]; exact hx))).2 (hs x (by simp [hx]))
    rw [List.length_erase_of_mem ha] at h2
    have := List.length_pos_of_mem ha
    simp
    omega
theorem Pth.short {k : Nat} {all : List (List UInt8)} {x : List UInt8} (W : Wds k all) (hx : x ∈ all) (n : psd k all (x.take (k - 1)) = false) {vis : List (List UInt8)} {s : List UInt8} (h : Pth k all x vis s) : vis.length ≤ all.length :=
  nodup_le (h.nodup W hx n) (h.facts W hx).1
/-- One step more, or the end. -/
theorem Pth.step {k : Nat} {all : List (List UInt8)} {x : List UInt8} (W : Wds k all) (hx : x ∈ all) {vis : List (List UInt8)} {s : List UInt8} (h : Pth k all x vis s) (hp : psd k all (endT k s) = true) : Pth k all x (nxw k all (endT k s) :: vis) (s ++ (nxw k all (endT k s)).drop (k - 1)) := by
  obtain ⟨_, _, y, r, rfl, he⟩ := h.facts W hx
  rw [he] at hp ⊢
  exact Pth.more h hp
theorem run_step {k : Nat} {all : List (List UInt8)} {s : List UInt8} (hp : psd k all (endT k s) = true) (f : Nat) : runT_ k all (f + 1) s = runT_ k all f (s ++ (nxw k all (endT k s)).drop (k - 1)) := by rw [runT_, if_pos hp]
theorem Pth.run {k : Nat} {all : List (List UInt8)} {x : List UInt8} (W : Wds k all) (hx : x ∈ all) (n : psd k all (x.take (k - 1)) = false) : ∀ {vis : List (List UInt8)} {s : List UInt8}, Pth k all x vis s → strT k all x = runT_ k all (all.length + 1 - vis.length) s := by
  intro vis s h
  induction h with
  | one => rfl
  | @more y vis s h hp ih =>
    obtain ⟨_, _, y', r, he, h3⟩ := h.facts W hx
    injection he with e1 e2
    subst e1
    have hs := (Pth.more h hp).short W hx n
    rw [ih]
    simp only [List.length_cons] at hs ⊢
    rw [show all.length + 1 - (vis.length + 1) = (all.length + 1 - (vis.length + 1 + 1)) + 1 by omega, run_step (by rw [h3]; exact hp), h3]
theorem run_pth {k : Nat} {all : List (List UInt8)} {x : List UInt8} (W : Wds k all) (hx : x ∈ all) : ∀ (f : Nat) {vis : List (List UInt8)} {s : List UInt8}, Pth k all x vis s → ∃ vis', Pth k all x vis' (runT_ k all f s) := by
  intro f
  induction f with
  | zero => intro vis s h; exact ⟨vis, h⟩
  | succ f ih =>
    intro vis s h
    rw [runT_]
    split
    · next hp => exact ih (h.step W hx hp)
    · exact ⟨vis, h⟩
theorem str_pth {k : Nat} {all : List (List UInt8)} {x : List UInt8} (W : Wds k all) (hx : x ∈ all) : ∃ vis, Pth k all x vis (strT k all x) := run_pth W hx _ .one
theorem win_app {s y : List UInt8} {k : Nat} (hk : 2 ≤ k) (hy : y.length = k) (hs : k ≤ s.length) (h : endT k s = y.take (k - 1)) : winds (s ++ y.drop (k - 1)) k = winds s k ++ [y] := by
  have hl : (s ++ y.drop (k - 1)).length = s.length + 1 := by rw [List.length_append, List.length_drop]; omega
  unfold winds
  rw [hl, show s.length + 1 + 1 - k = s.length + 1 - k + 1 by omega, windsTo_succ]
  congr 1
  · unfold windsTo
    refine List.map_congr_left fun i hi => ?_
    rw [List.mem_range] at hi
    unfold win
    rw [List.drop_append_of_le_length (by omega), List.take_append_of_le_length (by rw [List.length_drop]; omega)]
  · unfold endT at h
    unfold win
    rw [List.drop_append_of_le_length (by omega), show s.length + 1 - k = s.length - (k - 1) by omega, h, List.take_append_drop, List.take_of_length_le (by omega)]
/-- The windows of a text are the words on its way. -/
theorem Pth.winds {k : Nat} {all : List (List UInt8)} {x : List UInt8} (W : Wds k all) (hx : x ∈ all) : ∀ {vis : List (List UInt8)} {s : List UInt8}, Pth k all x vis s → winds s k = vis.reverse := by
  intro vis s h
  induction h with
  | one =>
    have hl := W.len x hx
    unfold Go.Proofs.Ytfbmcfdmffpfmaa.winds windsTo
    rw [hl, show k + 1 - k = 1 by omega]
    simp only [List.range_one, List.map_cons, List.map_nil, List.reverse_cons, List.reverse_nil, List.nil_append]
    unfold win
    rw [List.drop_zero, List.take_of_length_le (by omega)]
  | @more y vis s h hp ih =>
    obtain ⟨_, h2, y', r, he, h3⟩ := h.facts W hx
    injection he with e1 e2
    subst e1
    have hb := begs_one hp
    rw [List.length_cons] at h2
    rw [win_app W.k2 (W.len _ hb.1) (by omega) (h3.trans hb.2.symm), ih, List.reverse_cons (a := nxw k all (y.drop 1))]
end Go.Proofs.Ytfbmcfdmffpfmaa
