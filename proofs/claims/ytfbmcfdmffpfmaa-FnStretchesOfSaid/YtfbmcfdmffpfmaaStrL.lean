/-
  Plain laws of StretchesOf.
-/
import Derived.Test.YtfbmcfdmffpfmaaTxsL
import Derived.Test.YtfbmcfdmffpfmaaStr
namespace Go.Proofs.Ytfbmcfdmffpfmaa
set_option linter.unusedVariables false
set_option linter.unusedSimpArgs false

/-- The words that stretches begin with, and the stretches. -/
def begT (k : Nat) (all : List (List UInt8)) : List (List UInt8) := all.filter fun x => !psd k all (x.take (k - 1))
def SO (ws : List (List UInt8)) : List (List UInt8) :=
  if vwd ws && decide (2 ≤ klen ws) then stT ((begT (klen ws) (dd ws)).map (strT (klen ws) (dd ws))) else []
theorem wds_dd {ws : List (List UInt8)} (h : vwd ws = true) (h2 : 2 ≤ klen ws) : Wds (klen ws) (dd ws) :=
  ⟨h2, fun x hx => ((vwd_iff.1 h).1 x ((dd_mem ws x).1 hx)).2.2.2, (dd_asc ws).nodup⟩
theorem flat_nodup {α : Type} {f : α → List (List UInt8)} : ∀ {l : List α}, l.Nodup → (∀ x ∈ l, (f x).Nodup) → (∀ x ∈ l, ∀ y ∈ l, x ≠ y → ∀ z, z ∈ f x → z ∈ f y → False) → (l.flatMap f).Nodup := by
  intro l
  induction l with
  | nil => intro _ _ _; simp
  | cons a l ih =>
    intro h1 h2 h3
    obtain ⟨h4, h5⟩ := List.nodup_cons.1 h1
    rw [List.flatMap_cons, List.nodup_append]
    refine ⟨h2 a (by simp), ih h5 (fun x hx => h2 x (by simp [hx])) (fun x hx y hy => h3 x (by simp [hx]) y (by simp [hy])), fun z hz z' hz' e => ?_⟩
    subst e
    obtain ⟨y, hy, hz2⟩ := List.mem_flatMap.1 hz'
    exact h3 a (by simp) y (by simp [hy]) (fun e => h4 (e ▸ hy)) z hz hz2
theorem Pth.tail {k : Nat} {all : List (List UInt8)} {x : List UInt8} (W : Wds k all) (hx : x ∈ all) : ∀ (a : List (List UInt8)) {vis : List (List UInt8)} {s : List UInt8}, Pth k all x vis s → ∀ {z : List UInt8} {b : List (List UInt8)}, vis = a ++ z :: b → ∃ s', Pth k all x (z :: b) s' := by
  intro a
  induction a with
  | nil =>
    intro vis s h z b e
    rw [List.nil_append] at e
    exact ⟨s, e ▸ h⟩
  | cons c a iha =>
    intro vis s h z b e
    rcases h.back W hx [] c (a ++ z :: b) e with ⟨e1, _⟩ | ⟨y', b', e1, _, _, _, s1, hs1⟩
    · cases a <;> cases e1
    · exact iha hs1 rfl
/-- No word is twice in stretches, and all are words that are there. -/
theorem str_flat {k : Nat} {all : List (List UInt8)} (W : Wds k all) : ((begT k all).flatMap fun x => winds (strT k all x) k).Nodup ∧ ∀ z ∈ (begT k all).flatMap fun x => winds (strT k all x) k, z ∈ all := by
  have hb : ∀ x ∈ begT k all, x ∈ all ∧ psd k all (x.take (k - 1)) = false := fun x hx => by
    unfold begT at hx
    rw [List.mem_filter] at hx
    exact ⟨hx.1, by simpa using hx.2⟩
  refine ⟨flat_nodup (W.nd.filter _) (fun x hx => ?_) (fun x hx y hy hne z h1 h2 => ?_), fun z hz => ?_⟩
  · obtain ⟨h1, h2⟩ := hb x hx
    obtain ⟨vis, hp⟩ := str_pth W h1
    rw [hp.winds W h1]
    exact ((List.reverse_perm vis).nodup_iff).2 (hp.nodup W h1 h2)
  · obtain ⟨x1, x2⟩ := hb x hx
    obtain ⟨y1, y2⟩ := hb y hy
    obtain ⟨vis, hp⟩ := str_pth W x1
    obtain ⟨vis', hp'⟩ := str_pth W y1
    rw [hp.winds W x1, List.mem_reverse] at h1
    rw [hp'.winds W y1, List.mem_reverse] at h2
    obtain ⟨a, b, e⟩ := List.append_of_mem h1
    obtain ⟨a', b', e'⟩ := List.append_of_mem h2
    obtain ⟨s1, q1⟩ := Pth.tail W x1 a hp e
    obtain ⟨s2, q2⟩ := Pth.tail W y1 a' hp' e'
    exact hne (Pth.meet W x1 y1 x2 y2 _ (Nat.le_refl _) q1 q2).2
  · obtain ⟨x, hx, hz⟩ := List.mem_flatMap.1 hz
    obtain ⟨h1, h2⟩ := hb x hx
    obtain ⟨vis, hp⟩ := str_pth W h1
    rw [hp.winds W h1, List.mem_reverse] at hz
    exact (hp.facts W h1).1 z hz
theorem SO_yes {ws : List (List UInt8)} (h : SO ws ≠ []) : vwd ws = true ∧ 2 ≤ klen ws ∧ SO ws = stT ((begT (klen ws) (dd ws)).map (strT (klen ws) (dd ws))) := by
  unfold SO at h ⊢
  split
  · next hc =>
    rw [Bool.and_eq_true] at hc
    exact ⟨hc.1, of_decide_eq_true hc.2, rfl⟩
  · next hc => rw [if_neg hc] at h; exact absurd rfl h
/-- The windows of stretches. -/
def allW (ws : List (List UInt8)) (k : Nat) : List (List UInt8) := ws.flatMap fun y => winds y k
theorem SO_law (ws : List (List UInt8)) : (allW (SO ws) (klen ws)).Nodup ∧ (∀ z ∈ allW (SO ws) (klen ws), z ∈ ws) ∧ (allW (SO ws) (klen ws)).length ≤ ws.length := by
  by_cases h : SO ws = []
  · rw [h]
    simp [allW]
  · obtain ⟨h1, h2, h3⟩ := SO_yes h
    have W := wds_dd h1 h2
    obtain ⟨n1, n2⟩ := str_flat W
    have hp : (allW (SO ws) (klen ws)).Perm ((begT (klen ws) (dd ws)).flatMap fun x => winds (strT (klen ws) (dd ws) x) (klen ws)) := by
      rw [h3]
      unfold allW
      refine ((stT_perm _).flatMap_right _).trans ?_
      rw [List.flatMap_map]
    have a1 := hp.nodup_iff.2 n1
    have a2 : ∀ z ∈ allW (SO ws) (klen ws), z ∈ ws := fun z hz => (dd_mem ws z).1 (n2 z (hp.mem_iff.1 hz))
    exact ⟨a1, a2, nodup_le a1 a2⟩
end Go.Proofs.Ytfbmcfdmffpfmaa
