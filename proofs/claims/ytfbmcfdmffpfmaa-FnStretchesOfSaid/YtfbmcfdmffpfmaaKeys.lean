/-
  A map of counts that the call makes; its keys, sorted; a map from which entries are struck.
-/
import Derived.Test.YtfbmcfdmffpfmaaFactS
import Derived.Test.YtfbmcfdmffpfmaaKeysL
import Derived.Test.YtfbmcfdmffpfmaaShelf
import Derived.Maps.OwnOps
import Derived.Maps.OwnSet
import Derived.Maps.Views
import Derived.StringKeys
namespace Go.Proofs.Ytfbmcfdmffpfmaa
open Go.RowKit Go.Maps Go.Sort Go.Shelf
set_option linter.unusedVariables false
set_option linter.unusedSimpArgs false

theorem Try.lawK : Keyed Try.prog 9 := string_keyed Try.underlying9
theorem Try.zeroI (w : World) : (zeroValue 3).run Try.prog w = .ok (.int .i64 0) w := by kernel_rfl
abbrev DU := DataW Unit
/-- The map of block b holds numbers and reads as D. -/
def OwnM (w : World) (b n : Nat) (D : DU) : Prop := w.ownsMap Try.prog 9 (plainElem Try.prog 3) b n D
theorem key_of (x : List UInt8) (h : x.length ≤ 1048576) : keyOf Try.prog 9 (.string ⟨x.toArray⟩) = some (.string x) := by
  have := WideMaps.keyOf_string_mk (P := Try.prog) (k := 9) Try.underlying9 (s := ⟨x.toArray⟩) (by show x.length ≤ maxLen; unfold maxLen; omega)
  simpa using this
theorem key_of2 (s : List UInt8) (j k : Nat) (hs : s.length ≤ 1048576) : keyOf Try.prog 9 (.string ⟨(List.take (j + k - j) (List.drop j s)).toArray⟩) = some (.string (List.take k (List.drop j s))) := by
  rw [show j + k - j = k by omega]
  exact key_of _ (by rw [List.length_take, List.length_drop]; omega)
theorem keyLit (x : List UInt8) : WideAt.IsKeyLit (.string x) := by trivial
/-- What a map of counts holds. -/
structure Cnt (D : DU) (f : List UInt8 → Nat) : Prop where
  map : IsMap D
  has : ∀ x, Maps.has D (.string x) = true ↔ 0 < f x
  at_ : ∀ x, D.atKey (.string x) (.lit (.int .i64 0)) = .lit (.int .i64 (f x : Nat))
theorem Cnt.start : Cnt (.map []) fun _ => 0 := ⟨⟨[], rfl⟩, fun x => by simp [has_eq], fun x => rfl⟩
theorem Cnt.step {D : DU} {f : List UInt8 → Nat} (h : Cnt D f) (x : List UInt8) : Cnt (D.put (.string x) (.lit (.int .i64 ((f x : Nat) + 1)))) fun y => f y + if x == y then 1 else 0 := by
  have hne : ∀ y, x ≠ y → (Lit.string y) ≠ .string x := fun y hy e => hy (by injection e with e; exact e.symm)
  refine ⟨?_, fun y => ?_, fun y => ?_⟩
  · obtain ⟨es, rfl⟩ := h.map
    exact ⟨_, rfl⟩
  · by_cases e : x = y
    · subst e
      rw [has_put_same h.map (keyLit x)]
      simp
    · have : (x == y) = false := by simpa using e
      rw [has_put_other (hne y e), h.has, this]
      simp
  · by_cases e : x = y
    · subst e
      rw [atKey_put_same h.map (keyLit x)]
      simp
    · have : (x == y) = false := by simpa using e
      rw [atKey_put_other (hne y e), h.at_, this]
      simp
theorem Cnt.congr {D : DU} {f g : List UInt8 → Nat} (h : Cnt D f) (e : ∀ x, f x = g x) : Cnt D g := (funext e) ▸ h
/-- A map of counts returned. -/
def RetCnt (w : World) (f : List UInt8 → Nat) (m : Nat) (e : Ending) (w' : World) : Prop := ∃ b n D, e = .returned (.map (some b)) ∧ w.heap.size ≤ b ∧ OwnM w' b n D ∧ n ≤ m ∧ Cnt D f ∧ Below w.heap.size w w'
set_option maxRecDepth 8000 in
set_option maxHeartbeats 1600000 in
theorem counted_any (s : List UInt8) (k : Nat) (w : World) (hs : s.length ≤ 1000) (hk : k ≤ 1000) :
    Calls Try.prog 61 #[.string ⟨s.toArray⟩, .int .i64 k] w (RetCnt w (fun x => (winds s k).count x) 1001) := by
  have hmm := @run_makeMap Try.prog
  go_enter Try.func61, Try.ntmps61
  go_wp2_with fail
  go_loopw [6] (fun i wr => ∃ (j : Nat) (D : DU), j ≤ s.length + 1 - k ∧ i = .int .i64 j ∧ OwnM wr w.heap.size j D ∧ Cnt D (fun x => (windsTo s k j).count x) ∧ Below w.heap.size w wr) (fun i _ => s.length + 1 - (intOf i).toNat)
  case atStart => exact ⟨0, .map [], Nat.zero_le _, rfl, World.ownsMap_made _ _ _ _, Cnt.start.congr fun x => by simp [windsTo], (Below.refl _ _).alloc (Nat.le_refl _) _⟩
  case round =>
    obtain ⟨j, D, hj, rfl, hown, hC, hbw⟩ := hrel
    by_cases hlt : j + k ≤ s.length
    · have hat := hC.at_ (List.take k (List.drop j s))
      have hcl := windsTo_count_le s k j (List.take k (List.drop j s))
      have Hst := Lib.hid ((hC.step (List.take k (List.drop j s))).congr fun x => (windsTo_count s k j x).symm)
      obtain ⟨m, hm⟩ : ∃ m, m = (windsTo s k j).count (List.take k (List.drop j s)) := ⟨_, rfl⟩
      rw [← hm] at hcl hat Hst
      unfold OwnM at hown
      have Hat := Lib.hid hat
      clear hat hm
      have hw : IntKind.i64.wrap ((m : Int) + 1) = (m : Int) + 1 := by rw [IntKind.wrap_i64]; omega
      go_wp2_with (first
        | (at_lookup; refine wpList_lookup_own_int _ rfl _ _ 45 rfl 9 3 .i64 Try.lawK Try.underlying45 Try.underlying3 (Try.zeroI _) w.heap.size j D rfl hown _ _ rfl (key_of2 s j k (by omega)) ?_; intro c0 hat0 hwc0; have e0 := Hat.out.symm.trans hat0; injection e0 with e0; injection e0 with _ e0; subst e0)
        | (at_mapUpdate; refine wpList_mapUpdate_own _ rfl _ _ _ 45 rfl 9 3 Try.lawK Try.underlying45 _ w.heap.size j D rfl hown (by unfold maxLen; omega) _ _ _ rfl rfl (key_of (List.take k (List.drop j s)) (by rw [List.length_take]; omega)) _ [] (plainElem_int Try.underlying3 (WalkArith.wf_i64 (by omega))) ?_; intro w1 hown1 hgrow1)
        | go_in)
      have hb1 := hbw.grown hgrow1 hbw.size (fun i hi => by cases hi; exact Nat.le_refl _)
      clear hown hgrow1
      go_wp2_with fail
      go_roundw
      case rel => exact ⟨j + 1, _, by omega, by go_num, hown1, Hst.out, hb1⟩
      case measure => simp [intOf]; omega
    · obtain rfl : j = s.length + 1 - k := by omega
      go_wp2_with fail
      go_ret
      exact ⟨_, _, D, rfl, Nat.le_refl _, hown, by omega, hC, hbw⟩
/-- slices.Sort's two contracts, as slices.Sorted asks them. -/
theorem sortsL (m : Nat) : AnyZ.SortsIn Try.prog Try.sortedL_ren Fence.wide m :=
  ⟨fun blk off cap ss W hH hblk hsz => callsIn_wide.2 (Try.slices_Sort_string blk off cap ss W hH hblk hsz), fun p cap W => callsIn_wide.2 (Try.slices_Sort_string_none p cap W)⟩
theorem MapsKeys_any (mb : Option Nat) (w : World) : Calls Try.prog 65 #[.map mb] w fun e w' => e = .returned (.func (.func 96) #[] #[.pointer (some ⟨w.heap.size, 0, none⟩)]) ∧ w' = w.alloc (.cells #[.map mb] 45) :=
  callsIn_wide.1 (AnyZ.keys_in Try.keysL Fence.wide 5 trivial rfl mb w)
set_option maxHeartbeats 1000000 in
theorem sortedKeys (b nn : Nat) (D : DU) (w : World) (hown : OwnM w b nn D) (hnn : nn ≤ 1000000) :
    Calls Try.prog 64 #[.func (.func 96) #[] #[.pointer (some ⟨w.heap.size, 0, none⟩)]] (w.alloc (.cells #[.map (some b)] 45)) fun e w' => ∃ (v : Value) (ss : List (List UInt8)), e = .returned v ∧ ss.Perm (strKeys D) ∧
      w'.ownsRow (w.alloc (.cells #[.map (some b)] 45)).heap.size 9 1 v ss.length ((ss.mergeSort (fun x y => decide (x ≤ y))).map encStr) ∧ (v = .slice none 0 0 ↔ ss = []) ∧ Below (w.alloc (.cells #[.map (some b)] 45)).heap.size (w.alloc (.cells #[.map (some b)] 45)) w' := by
  unfold OwnM at hown
  have hbl := hown.lt
  have hsz := hown.size_le
  have hseq : SeqGives Fence.wide 2 Try.prog 96 #[.pointer (some ⟨w.heap.size, 0, none⟩)] encStr (fun ss => ss.Perm (strKeys D)) (Maps.size D) (w.alloc (.cells #[.map (some b)] 45)) :=
    AnyZ.keys_gives (ρ := Try.keysL_ren) { Try.keysL with } Fence.wide _ trivial rfl (by omega) w.heap.size b nn D _ (by simp) (by simp) (by
      obtain ⟨es, clock, hb, Ft, hs, hD⟩ := hown
      exact ⟨es, clock, (Below.heap_alloc _ _ b hbl).trans hb, Ft, hs, hD⟩)
  exact callsIn_wide.1 (AnyZ.sorted_in Try.sortedL Fence.wide 5 trivial trivial trivial trivial rfl (by omega) (sortsL _) (enters_of Try.func91 (by kernel_rfl) rfl) 96 #[.pointer (some ⟨w.heap.size, 0, none⟩)] trivial (enters_of Try.func96 (by kernel_rfl) rfl) _ _ (by unfold maxLen; omega) (by omega) _ hseq)
theorem keys_are {w : World} {b nn : Nat} {D : DU} (h : OwnM w b nn D) : (strKeys D).Nodup ∧ ∀ x, x ∈ strKeys D ↔ Maps.has D (.string x) = true := by
  unfold OwnM at h
  obtain ⟨es, rfl, hp, _⟩ := h.entries Try.lawK
  obtain ⟨es', he, hk'⟩ := h.keysOf
  injection he with he
  subst he
  have hk : ∀ p ∈ es, ∃ x, p.1 = .string x := fun p hp => by
    obtain ⟨key, hkey⟩ := hk' p hp
    obtain ⟨x, _, e, _⟩ := Maps.keyOf_str Try.underlying9 hkey
    exact ⟨x, e⟩
  refine ⟨?_, fun x => ?_⟩
  · show (es.map fun p => strOf p.1).Nodup
    refine List.pairwise_map.2 (hp.imp_of_mem fun {p q} hp' hq' hne e => hne ?_)
    obtain ⟨a, ha⟩ := hk p hp'
    obtain ⟨b, hb⟩ := hk q hq'
    rw [ha, hb] at e ⊢
    exact congrArg _ e
  · rw [has_eq, List.any_eq_true]
    show x ∈ es.map (fun p => strOf p.1) ↔ _
    rw [List.mem_map]
    constructor
    · rintro ⟨p, hp', rfl⟩
      obtain ⟨a, ha⟩ := hk p hp'
      exact ⟨p, hp', by rw [ha]; simp [Lit.sameKey, strOf]⟩
    · rintro ⟨p, hp', hs⟩
      obtain ⟨a, ha⟩ := hk p hp'
      rw [ha] at hs
      exact ⟨p, hp', by rw [ha]; simpa [Lit.sameKey, strOf] using hs⟩
/-- The keys, sorted. -/
theorem SortedKeys_any (b nn : Nat) (D : DU) (L : List (List UInt8)) (hL : AscT L) (hm : ∀ x, x ∈ L ↔ Maps.has D (.string x) = true) (w : World) (hown : OwnM w b nn D) (hnn : nn ≤ 1000000) :
    Calls Try.prog 64 #[.func (.func 96) #[] #[.pointer (some ⟨w.heap.size, 0, none⟩)]] (w.alloc (.cells #[.map (some b)] 45)) (fun e w' => ∃ A c, e = .returned (.slice A L.length c) ∧ Row w' w.heap.size 9 A L.length c (L.map S) ∧ Below w.heap.size w w') := by
  refine (sortedKeys b nn D w hown hnn).mono ?_
  rintro e w' ⟨v, ss, rfl, hp, hrow, _, hb⟩
  obtain ⟨k1, k2⟩ := keys_are hown
  have hs : ss.mergeSort (fun x y => decide (x ≤ y)) = L := by
    have h1 : ss.mergeSort (fun x y => decide (x ≤ y)) = stT ss := rfl
    rw [h1]
    refine (ascT_of (stT_sorted ss) ((stT_perm ss).nodup_iff.2 (hp.nodup_iff.2 k1))).eq hL fun x => ?_
    rw [(stT_perm ss).mem_iff, hp.mem_iff, k2, hm]
  have hl : ss.length = L.length := by rw [← hs, List.length_mergeSort]
  rw [hs, hl] at hrow
  obtain ⟨A, c, rfl⟩ := Row.form hrow
  refine ⟨A, c, rfl, (show Row w' _ 9 A L.length c (L.map S) from hrow).more (by simp), ?_⟩
  exact ((Below.refl _ w).alloc (Nat.le_refl _) _).trans (hb.mono (by simp))
end Go.Proofs.Ytfbmcfdmffpfmaa
