/-
  Phrases: the longest row ahead of a place, of the program and of the reference.
-/
import Derived.Test.YteldklkfedeleaaDoorText
import Derived.Deep.QuietTactic
import Derived.BigQuiet
import Derived.WalkMore
import Derived.Outline
namespace Go.Proofs.YteldklkfedeleaaDoor
open Go.RowKit
set_option linter.unusedVariables false
set_option linter.unusedSimpArgs false

/-! ### plain words -/
/-- How many letters from i on and from at on are the same (at most so many). -/
def mlen (s : List UInt8) (i q : Nat) : Nat → Nat
  | 0 => 0
  | f + 1 => if q < s.length ∧ s[i]? = s[q]? then 1 + mlen s (i + 1) (q + 1) f else 0
def mat (s : List UInt8) (i q : Nat) : Nat := mlen s i q s.length
/-- The longest row that begins ahead of q, among the first so many indices: where, and its size. -/
def lng (s : List UInt8) (q : Nat) : Nat → Int × Nat
  | 0 => (-1, 0)
  | i + 1 => if (lng s q i).2 < mat s i q then ((i : Int), mat s i q) else lng s q i
theorem mlen_le (s : List UInt8) (f : Nat) : ∀ i q, q + mlen s i q f ≤ max q s.length := by
  induction f with
  | zero => intro i q; rw [mlen]; omega
  | succ f ih =>
    intro i q
    rw [mlen]
    split
    · next h => have := ih (i + 1) (q + 1); omega
    · omega
theorem mat_le (s : List UInt8) (i q : Nat) (hq : q ≤ s.length) : q + mat s i q ≤ s.length := by
  have := mlen_le s s.length i q
  unfold mat
  omega
theorem lng_le (s : List UInt8) (q : Nat) (hq : q ≤ s.length) (i : Nat) : q + (lng s q i).2 ≤ s.length := by
  induction i with
  | zero => simpa [lng] using hq
  | succ i ih =>
    rw [lng]
    split
    · exact mat_le s i q hq
    · exact ih
theorem lng_from (s : List UInt8) (q i : Nat) : (lng s q i).1 = -1 ∧ (lng s q i).2 = 0 ∨ 0 ≤ (lng s q i).1 ∧ (lng s q i).1 < i := by
  induction i with
  | zero => left; simp [lng]
  | succ i ih =>
    rw [lng]
    split
    · right; simp; omega
    · rcases ih with h | h
      · exact .inl h
      · exact .inr ⟨h.1, by omega⟩
/-- The rest of a match behind its first n letters. -/
theorem mlen_more (s : List UInt8) (i q n f : Nat) (hf : n + f = s.length) (h1 : q + n < s.length) (h2 : s[i + n]? = s[q + n]?) : n + mlen s (i + n) (q + n) f = n + 1 + mlen s (i + n + 1) (q + n + 1) (f - 1) := by
  cases f with
  | zero => omega
  | succ f => rw [mlen, if_pos ⟨h1, h2⟩]; simp; omega
theorem mlen_end (s : List UInt8) (i q n f : Nat) (h : ¬ (q + n < s.length ∧ s[i + n]? = s[q + n]?)) : n + mlen s (i + n) (q + n) f = n := by
  cases f with
  | zero => simp [mlen]
  | succ f => rw [mlen, if_neg h]; simp

set_option maxHeartbeats 800000 in
theorem longest_any (s : List UInt8) (q : Nat) (w : World) (hs : s.length ≤ 1000) (hq : q < s.length) :
    Calls Tryd.prog 21 #[.string ⟨s.toArray⟩, .int .i64 q] w fun e w' => e = .returned (.tuple #[.int .i64 (lng s q q).1, .int .i64 ((lng s q q).2 : Nat)]) ∧ Quiet w w' := by
  go_enter Tryd.func21, Tryd.ntmps21
  go_wp2
  go_loopw [6, 7, 11] (fun a b x wr => ∃ i : Nat, i ≤ q ∧ x = .int .i64 i ∧ a = .int .i64 (lng s q i).1 ∧ b = .int .i64 ((lng s q i).2 : Nat) ∧ Quiet w wr) (fun _ _ x _ => q - (intOf x).toNat)
  case atStart => exact ⟨0, Nat.zero_le _, rfl, rfl, rfl, Quiet.refl _⟩
  case round =>
    obtain ⟨i, hi, rfl, rfl, rfl, hqw⟩ := hrel
    obtain ⟨fr, hfr⟩ : ∃ fr, fr = (lng s q i).1 := ⟨_, rfl⟩
    obtain ⟨sz, hsz⟩ : ∃ sz, sz = (lng s q i).2 := ⟨_, rfl⟩
    have hszl : sz ≤ s.length := by have := lng_le s q (by omega) i; omega
    have hfb : -1 ≤ fr ∧ fr < i ∨ fr = -1 := by rcases lng_from s q i with h | h <;> omega
    rw [← hfr, ← hsz]
    have Hfr := Lib.hid hfr
    have Hsz := Lib.hid hsz
    clear hfr hsz
    by_cases hiq : i < q
    · have Hst := Lib.hid (show lng s q (i + 1) = if sz < mat s i q then ((i : Int), mat s i q) else (fr, sz) by rw [lng, Hsz.out, Hfr.out])
      go_wp2_with fail
      obtain ⟨wo, rfl⟩ : ∃ wo : World, wo = wr := ⟨_, rfl⟩
      go_loopw [9] (fun x wr => ∃ n : Nat, q + n ≤ s.length ∧ x = .int .i64 n ∧ n + mlen s (i + n) (q + n) (s.length - n) = mat s i q ∧ Quiet w wr) (fun x _ => s.length - (intOf x).toNat)
      case atStart => exact ⟨0, by omega, rfl, by simp [mat], hqw⟩
      case round =>
        obtain ⟨n, hn, rfl, hm, hqw2⟩ := hrel
        have Hm := Lib.hid hm
        clear hm
        by_cases h1 : q + n < s.length
        · have h1' : decide ((q : Int) + (n : Int) < (s.length : Int)) = true := by simp; omega
          have b1 : (i : Int) + (n : Int) < (s.length : Int) := by omega
          have b2 : (q : Int) + (n : Int) < (s.length : Int) := by omega
          have hin : i + n < s.length := by omega
          have e1 : IntKind.i64.wrap ((q : Int) + (n : Int)) = (q : Int) + (n : Int) := by rw [IntKind.wrap_i64]; omega
          have e2 : IntKind.i64.wrap ((i : Int) + (n : Int)) = (i : Int) + (n : Int) := by rw [IntKind.wrap_i64]; omega
          have e3 := run_ix s ((q : Int) + (n : Int)) (q + n) (by omega) h1
          have e4 := run_ix s ((i : Int) + (n : Int)) (i + n) (by omega) hin
          by_cases h2 : s[i + n]'hin = s[q + n]'h1
          · have h2' : (((s[i + n]'hin).toNat : Int) == ((s[q + n]'h1).toNat : Int)) = true := by rw [h2]; simp
            have Hmore := Lib.hid (mlen_more s i q n (s.length - n) (by omega) h1 (by rw [List.getElem?_eq_getElem hin, List.getElem?_eq_getElem h1, h2]))
            clear h2
            go_wp2_with fail
            go_quiet (fail)
            clear e1 e2 e3 e4
            go_wp2_with fail
            go_roundw
            case rel => exact ⟨n + 1, by omega, by go_num, by have h := Hmore.out; rw [Hm.out] at h; rw [h, show s.length - n - 1 = s.length - (n + 1) by omega]; simp [Nat.add_assoc], hqw2.drewN _⟩
            case measure => simp [intOf]; omega
          · have h2' : (((s[i + n]'hin).toNat : Int) == ((s[q + n]'h1).toNat : Int)) = false := by
              rw [beq_eq_false_iff_ne]
              intro h
              exact h2 (UInt8.toNat_inj.1 (by omega))
            have Hend := Lib.hid (mlen_end s i q n (s.length - n) (fun h => h2 (by
              have := h.2
              rw [List.getElem?_eq_getElem hin, List.getElem?_eq_getElem h1] at this
              injection this)))
            rw [Hm.out] at Hend
            have HE := Hend
            clear h2
            by_cases hgt : sz < n
            · go_wp2_with fail
              go_quiet (fail)
              clear e1 e2 e3 e4
              go_wp2_with fail
              go_roundw
              case rel => exact ⟨i + 1, by omega, by go_num, by rw [Hst.out, HE.out, if_pos hgt], by rw [Hst.out, HE.out, if_pos hgt], hqw2.drewN _⟩
              case measure => simp [intOf]; omega
            · go_wp2_with fail
              go_quiet (fail)
              clear e1 e2 e3 e4
              go_wp2_with fail
              go_roundw
              case rel => exact ⟨i + 1, by omega, by go_num, by rw [Hst.out, HE.out, if_neg hgt], by rw [Hst.out, HE.out, if_neg hgt], hqw2.drewN _⟩
              case measure => simp [intOf]; omega
        · have h1' : decide ((q : Int) + (n : Int) < (s.length : Int)) = false := by simp; omega
          have e1 : IntKind.i64.wrap ((q : Int) + (n : Int)) = (q : Int) + (n : Int) := by rw [IntKind.wrap_i64]; omega
          have Hend := Lib.hid (mlen_end s i q n (s.length - n) (fun h => h1 h.1))
          rw [Hm.out] at Hend
          have HE := Hend
          by_cases hgt : sz < n
          · go_wp2_with fail
            go_quiet (fail)
            clear e1
            go_wp2_with fail
            go_roundw
            case rel => exact ⟨i + 1, by omega, by go_num, by rw [Hst.out, HE.out, if_pos hgt], by rw [Hst.out, HE.out, if_pos hgt], hqw2.drewN _⟩
            case measure => simp [intOf]; omega
          · go_wp2_with fail
            go_quiet (fail)
            clear e1
            go_wp2_with fail
            go_roundw
            case rel => exact ⟨i + 1, by omega, by go_num, by rw [Hst.out, HE.out, if_neg hgt], by rw [Hst.out, HE.out, if_neg hgt], hqw2.drewN _⟩
            case measure => simp [intOf]; omega
    · obtain rfl : i = q := by omega
      go_wp2_with fail
      go_ret2
      exact ⟨by have h1 := Hfr.out; have h2 := Hsz.out; subst h1 h2; rfl, hqw⟩
set_option maxHeartbeats 800000 in
theorem specLongest_any (s : List UInt8) (q : Nat) (w : World) (hs : s.length ≤ 1000) (hq : q < s.length) :
    Calls Tryd.prog 27 #[.string ⟨s.toArray⟩, .int .i64 q] w fun e w' => e = .returned (.tuple #[.int .i64 (lng s q q).1, .int .i64 ((lng s q q).2 : Nat)]) ∧ Quiet w w' := by
  go_enter Tryd.func27, Tryd.ntmps27
  go_wp2
  go_loopw [6, 7, 8] (fun b a x wr => ∃ i : Nat, i ≤ q ∧ x = .int .i64 i ∧ a = .int .i64 (lng s q i).1 ∧ b = .int .i64 ((lng s q i).2 : Nat) ∧ Quiet w wr) (fun _ _ x _ => q - (intOf x).toNat)
  case atStart => exact ⟨0, Nat.zero_le _, rfl, rfl, rfl, Quiet.refl _⟩
  case round =>
    obtain ⟨i, hi, rfl, rfl, rfl, hqw⟩ := hrel
    obtain ⟨fr, hfr⟩ : ∃ fr, fr = (lng s q i).1 := ⟨_, rfl⟩
    obtain ⟨sz, hsz⟩ : ∃ sz, sz = (lng s q i).2 := ⟨_, rfl⟩
    have hszl : sz ≤ s.length := by have := lng_le s q (by omega) i; omega
    have hfb : -1 ≤ fr ∧ fr < i ∨ fr = -1 := by rcases lng_from s q i with h | h <;> omega
    rw [← hfr, ← hsz]
    have Hfr := Lib.hid hfr
    have Hsz := Lib.hid hsz
    clear hfr hsz
    by_cases hiq : i < q
    · have Hst := Lib.hid (show lng s q (i + 1) = if sz < mat s i q then ((i : Int), mat s i q) else (fr, sz) by rw [lng, Hsz.out, Hfr.out])
      go_wp2_with fail
      obtain ⟨wo, rfl⟩ : ∃ wo : World, wo = wr := ⟨_, rfl⟩
      go_loopw [9] (fun x wr => ∃ n : Nat, q + n ≤ s.length ∧ x = .int .i64 n ∧ n + mlen s (i + n) (q + n) (s.length - n) = mat s i q ∧ Quiet w wr) (fun x _ => s.length - (intOf x).toNat)
      case atStart => exact ⟨0, by omega, rfl, by simp [mat], hqw⟩
      case round =>
        obtain ⟨n, hn, rfl, hm, hqw2⟩ := hrel
        have Hm := Lib.hid hm
        clear hm
        by_cases h1 : q + n < s.length
        · have h1' : decide ((q : Int) + (n : Int) < (s.length : Int)) = true := by simp; omega
          have b1 : (i : Int) + (n : Int) < (s.length : Int) := by omega
          have b2 : (q : Int) + (n : Int) < (s.length : Int) := by omega
          have hin : i + n < s.length := by omega
          have e1 : IntKind.i64.wrap ((q : Int) + (n : Int)) = (q : Int) + (n : Int) := by rw [IntKind.wrap_i64]; omega
          have e2 : IntKind.i64.wrap ((i : Int) + (n : Int)) = (i : Int) + (n : Int) := by rw [IntKind.wrap_i64]; omega
          have e3 := run_ix s ((q : Int) + (n : Int)) (q + n) (by omega) h1
          have e4 := run_ix s ((i : Int) + (n : Int)) (i + n) (by omega) hin
          by_cases h2 : s[i + n]'hin = s[q + n]'h1
          · have h2' : (((s[i + n]'hin).toNat : Int) == ((s[q + n]'h1).toNat : Int)) = true := by rw [h2]; simp
            have Hmore := Lib.hid (mlen_more s i q n (s.length - n) (by omega) h1 (by rw [List.getElem?_eq_getElem hin, List.getElem?_eq_getElem h1, h2]))
            clear h2
            go_wp2_with fail
            go_quiet (fail)
            clear e1 e2 e3 e4
            go_wp2_with fail
            go_roundw
            case rel => exact ⟨n + 1, by omega, by go_num, by have h := Hmore.out; rw [Hm.out] at h; rw [h, show s.length - n - 1 = s.length - (n + 1) by omega]; simp [Nat.add_assoc], hqw2.drewN _⟩
            case measure => simp [intOf]; omega
          · have h2' : (((s[i + n]'hin).toNat : Int) == ((s[q + n]'h1).toNat : Int)) = false := by
              rw [beq_eq_false_iff_ne]
              intro h
              exact h2 (UInt8.toNat_inj.1 (by omega))
            have Hend := Lib.hid (mlen_end s i q n (s.length - n) (fun h => h2 (by
              have := h.2
              rw [List.getElem?_eq_getElem hin, List.getElem?_eq_getElem h1] at this
              injection this)))
            rw [Hm.out] at Hend
            have HE := Hend
            clear h2
            by_cases hgt : sz < n
            · go_wp2_with fail
              go_quiet (fail)
              clear e1 e2 e3 e4
              go_wp2_with fail
              go_roundw
              case rel => exact ⟨i + 1, by omega, by go_num, by rw [Hst.out, HE.out, if_pos hgt], by rw [Hst.out, HE.out, if_pos hgt], hqw2.drewN _⟩
              case measure => simp [intOf]; omega
            · go_wp2_with fail
              go_quiet (fail)
              clear e1 e2 e3 e4
              go_wp2_with fail
              go_roundw
              case rel => exact ⟨i + 1, by omega, by go_num, by rw [Hst.out, HE.out, if_neg hgt], by rw [Hst.out, HE.out, if_neg hgt], hqw2.drewN _⟩
              case measure => simp [intOf]; omega
        · have h1' : decide ((q : Int) + (n : Int) < (s.length : Int)) = false := by simp; omega
          have e1 : IntKind.i64.wrap ((q : Int) + (n : Int)) = (q : Int) + (n : Int) := by rw [IntKind.wrap_i64]; omega
          have Hend := Lib.hid (mlen_end s i q n (s.length - n) (fun h => h1 h.1))
          rw [Hm.out] at Hend
          have HE := Hend
          by_cases hgt : sz < n
          · go_wp2_with fail
            go_quiet (fail)
            clear e1
            go_wp2_with fail
            go_roundw
            case rel => exact ⟨i + 1, by omega, by go_num, by rw [Hst.out, HE.out, if_pos hgt], by rw [Hst.out, HE.out, if_pos hgt], hqw2.drewN _⟩
            case measure => simp [intOf]; omega
          · go_wp2_with fail
            go_quiet (fail)
            clear e1
            go_wp2_with fail
            go_roundw
            case rel => exact ⟨i + 1, by omega, by go_num, by rw [Hst.out, HE.out, if_neg hgt], by rw [Hst.out, HE.out, if_neg hgt], hqw2.drewN _⟩
            case measure => simp [intOf]; omega
    · obtain rfl : i = q := by omega
      go_wp2_with fail
      go_ret2
      exact ⟨by have h1 := Hfr.out; have h2 := Hsz.out; subst h1 h2; rfl, hqw⟩

/-! ### phrases: three cells each -/
abbrev Ph := Int × Int × List UInt8
def Ph.cells (p : Ph) : List Value := [I p.1, I p.2.1, S p.2.2]
def phc (ps : List Ph) : List Value := ps.flatMap Ph.cells
theorem phc_len (ps : List Ph) : (phc ps).length = ps.length * 3 := by
  induction ps with
  | nil => rfl
  | cons a l ih =>
    unfold phc at ih ⊢
    rw [List.flatMap_cons, List.length_append, ih, List.length_cons]
    simp [Ph.cells]
    omega
theorem phc_snoc (ps : List Ph) (p : Ph) : phc (ps ++ [p]) = phc ps ++ [I p.1, I p.2.1, S p.2.2] := by
  unfold phc
  rw [List.flatMap_append]
  simp [Ph.cells]
theorem phc_at (ps : List Ph) (k : Nat) (p : Ph) (hp : ps[k]? = some p) : (phc ps)[k * 3]? = some (I p.1) ∧ (phc ps)[k * 3 + 1]? = some (I p.2.1) ∧ (phc ps)[k * 3 + 2]? = some (S p.2.2) := by
  induction ps generalizing k with
  | nil => simp at hp
  | cons a l ih =>
    cases k with
    | zero =>
      simp at hp
      subst hp
      exact ⟨rfl, rfl, rfl⟩
    | succ k =>
      rw [List.getElem?_cons_succ] at hp
      obtain ⟨h1, h2, h3⟩ := ih k hp
      have e : phc (a :: l) = I a.1 :: I a.2.1 :: S a.2.2 :: phc l := rfl
      rw [e, show (k + 1) * 3 = k * 3 + 1 + 1 + 1 by omega]
      exact ⟨by rw [List.getElem?_cons_succ, List.getElem?_cons_succ, List.getElem?_cons_succ]; exact h1, by
        rw [show k * 3 + 1 + 1 + 1 + 1 = (k * 3 + 1) + 1 + 1 + 1 by omega, List.getElem?_cons_succ, List.getElem?_cons_succ, List.getElem?_cons_succ]; exact h2, by
        rw [show k * 3 + 1 + 1 + 1 + 2 = (k * 3 + 2) + 1 + 1 + 1 by omega, List.getElem?_cons_succ, List.getElem?_cons_succ, List.getElem?_cons_succ]; exact h3⟩
/-- A slice of phrases that is read. -/
def Rd3 (w : World) (B : Nat) (A : Option Addr) (n c : Nat) (ps : List Ph) : Prop :=
  ps.length = n ∧ n ≤ c ∧ c ≤ maxLen ∧ (0 < n → ∃ b o, A = some ⟨b, o, none⟩ ∧ b < B ∧ ∀ j u, (phc ps)[j]? = some u → w.cell? ⟨b, o + j, none⟩ = some u)
theorem Rd3.keep {w w' : World} {B : Nat} {A : Option Addr} {n c : Nat} {ps : List Ph} (h : Rd3 w B A n c ps) (hk : ∀ p : Addr, p.block < B → w'.cell? p = w.cell? p) : Rd3 w' B A n c ps :=
  ⟨h.1, h.2.1, h.2.2.1, fun hn => by
    obtain ⟨b, o, e, hb, hc⟩ := h.2.2.2 hn
    exact ⟨b, o, e, hb, fun j u hu => (hk ⟨b, o + j, none⟩ hb).trans (hc j u hu)⟩⟩
theorem Rd3.more {w : World} {B B' : Nat} {A : Option Addr} {n c : Nat} {ps : List Ph} (h : Rd3 w B A n c ps) (hB : B ≤ B') : Rd3 w B' A n c ps :=
  ⟨h.1, h.2.1, h.2.2.1, fun hn => by
    obtain ⟨b, o, e, hb, hc⟩ := h.2.2.2 hn
    exact ⟨b, o, e, Nat.lt_of_lt_of_le hb hB, hc⟩⟩
theorem Rd3.below {w w' : World} {B : Nat} {A : Option Addr} {n c : Nat} {ps : List Ph} (h : Rd3 w B A n c ps) (hb : Below B w w') : Rd3 w' B A n c ps := h.keep fun _ hp => hb.cell hp
theorem Rd3.quiet {w w' : World} {B : Nat} {A : Option Addr} {n c : Nat} {ps : List Ph} (h : Rd3 w B A n c ps) (hq : Quiet w w') : Rd3 w' B A n c ps := by
  obtain ⟨m, rfl⟩ := hq
  exact h
theorem Rd3.at_ {w : World} {B : Nat} {A : Option Addr} {n c : Nat} {ps : List Ph} (h : Rd3 w B A n c ps) {k : Nat} (hk : k < n) :
    ∃ b o f z l, A = some ⟨b, o, none⟩ ∧ b < B ∧ ps[k]? = some (f, z, l) ∧ w.cell? ⟨b, o + k * 3, none⟩ = some (.int .i64 f) ∧ w.cell? ⟨b, o + k * 3 + 1, none⟩ = some (.int .i64 z) ∧ w.cell? ⟨b, o + k * 3 + 2, none⟩ = some (.string ⟨l.toArray⟩) := by
  obtain ⟨b, o, e, hb, hc⟩ := h.2.2.2 (by omega)
  have hl : k < ps.length := by rw [h.1]; exact hk
  obtain ⟨⟨f, z, l⟩, hps'⟩ : ∃ p, p = ps[k] := ⟨_, rfl⟩
  have hps := hps'.symm
  have hp : ps[k]? = some (f, z, l) := by rw [List.getElem?_eq_getElem hl, hps]
  obtain ⟨h1, h2, h3⟩ := phc_at ps k _ hp
  exact ⟨b, o, f, z, l, e, hb, hp, hc _ _ h1, hc _ _ h2, hc _ _ h3⟩
theorem Rd3.at_at {w : World} {B b o n c : Nat} {ps : List Ph} (h : Rd3 w B (some ⟨b, o, none⟩) n c ps) {k : Nat} (hk : k < n) :
    ∃ f z l, ps[k]? = some (f, z, l) ∧ w.cell? ⟨b, o + k * 3, none⟩ = some (.int .i64 f) ∧ w.cell? ⟨b, o + k * 3 + 1, none⟩ = some (.int .i64 z) ∧ w.cell? ⟨b, o + k * 3 + 2, none⟩ = some (.string ⟨l.toArray⟩) := by
  obtain ⟨b', o', f, z, l, e, _, h1, h2⟩ := h.at_ hk
  injection e with e
  injection e with e1 e2
  subst e1 e2
  exact ⟨f, z, l, h1, h2⟩
def Row3 (w : World) (B : Nat) (A : Option Addr) (n c : Nat) (ps : List Ph) : Prop := w.ownsRow B 37 3 (.slice A n c) n (phc ps)
theorem Row3.len {w : World} {B : Nat} {A : Option Addr} {n c : Nat} {ps : List Ph} (h : Row3 w B A n c ps) : ps.length = n := by have := h.1; rw [phc_len] at this; omega
theorem Row3.rd {w : World} {B : Nat} {A : Option Addr} {n c : Nat} {ps : List Ph} (h : Row3 w B A n c ps) : Rd3 w w.heap.size A n c ps := by
  have hl := h.len
  obtain ⟨h1, h2 | ⟨g, cap, cur, hv, hg, hh, hn, hc, hs, ht⟩⟩ := h
  · obtain ⟨hv, h0⟩ := h2
    injection hv with ha hb hc
    subst ha hb hc
    exact ⟨hl, Nat.le_refl _, by unfold maxLen; omega, fun h => absurd h (by omega)⟩
  · injection hv with ha hb hcc
    subst ha hcc
    refine ⟨hl, hn, hc, fun _ => ⟨g, 0, rfl, (Array.getElem?_eq_some_iff.1 hh).1, fun j u hu => ?_⟩⟩
    rw [Nat.zero_add, cell_of_row w g j cur _ (0, 0) hh]
    rw [← ht, List.getElem?_take] at hu
    split at hu
    · simpa using hu
    · cases hu
theorem Row3.alloc {w : World} {B : Nat} {A : Option Addr} {n c : Nat} {ps : List Ph} (h : Row3 w B A n c ps) (o : Obj) : Row3 (w.alloc o) B A n c ps := World.ownsRow.alloc h o
theorem Row3.kept {w w' : World} {B : Nat} {A : Option Addr} {n c : Nat} {ps : List Ph} (h : Row3 w B A n c ps) (hb : Below w.heap.size w w') : Row3 w' B A n c ps :=
  World.ownsRow.kept (row := none) h ⟨hb.os, hb.tape, hb.output, hb.size, fun k hk _ => hb.block k hk⟩ (by cases hv : (Value.slice A n c).ownBlock <;> simp)
theorem Row3.grown {a w w' : World} {B0 B : Nat} {A : Option Addr} {n c : Nat} {ps : List Ph} (h : Row3 w B A n c ps) (hb : Below B0 a w) (hg : w.grownBy w' (Value.slice A n c).ownBlock) (h0 : B0 ≤ B) (h1 : B0 ≤ w.heap.size) : Below B0 a w' :=
  hb.grown hg h1 fun k hk => Nat.le_trans h0 (World.ownsRow.lt h k hk).1
theorem Row3.nil_ (w : World) : Row3 (w.alloc (.cells #[] 37)) w.heap.size (some ⟨w.heap.size, 0, none⟩) 0 0 [] := World.ownsRow_lit w #[] 0 (Nat.le_refl _) (by unfold maxLen; omega) rfl
theorem Tryd.infoPh : (Tryd.prog.info? 37).map (fun i => (i.zero, i.size, i.bytes)) = some (some (.agg #[.int .i64 0, .int .i64 0, .string ⟨#[]⟩]), 3, 32) := by kernel_rfl
theorem wpList_app3 (w : World) {ops : Array Oper} {rest : List Oper} {o : Oper} {a : Act} {Q : Exit → Act → World → Prop} (hgd : o.guard = none) (s x : Operand) (t : TypeId)
    (ho : o.op = .call { callee := .builtin .append, args := #[s, x], argTypes := #[t, t] }) (ht : Tryd.prog.underlying t = some (.slice 37))
    (B : Nat) (A : Option Addr) (n c : Nat) (ps : List Ph) (hs : a.eval s = .slice A n c) (hown : Row3 w B A n c ps)
    (ad : Addr) (p : Ph) (hx : a.eval x = .slice (some ad) 1 1) (xs : List Value) (hxs : Ph.cells p = xs) (hnews : ∀ j v, xs[j]? = some v → w.cell? (ad.add j) = some v)
    (hn : n ≤ 1000000) (hbase : B ≤ w.heap.size)
    (h : ∀ A' c' w', Row3 w' B A' (n + 1) c' (ps ++ [p]) → w.grownBy w' (Value.slice A n c).ownBlock → wpList Tryd.prog ops Q rest (a.put o.dst (.slice A' (n + 1) c')) w') : wpList Tryd.prog ops Q (o :: rest) a w := by
  obtain ⟨i, hi, hz, hsize, hby⟩ := info_parts Tryd.infoPh
  subst hxs
  refine wpList_append_own w hgd s x t ho B 37 i _ 3 32 ht hi hz hsize hby rfl (by omega) _ n (phc ps) hs hown ad 1 1 (Ph.cells p) hx rfl hnews (by intro v hv; simp [Ph.cells] at hv; rcases hv with rfl | rfl | rfl <;> rfl) (by unfold maxLen; omega) (by omega) hbase ?_
  intro v' w' h2 h3 _
  have h4 := h2
  obtain ⟨_, ⟨_, h5⟩ | ⟨g, cap, cur, rfl, _⟩⟩ := h4
  · omega
  · exact h _ _ _ (by unfold Row3; rw [phc_snoc]; exact h2) h3

theorem Row3.al2 {w : World} {B : Nat} {A : Option Addr} {n c : Nat} {ps : List Ph} (h : Row3 w B A n c ps) (o1 o2 : Obj) (m : Nat) : Row3 (((w.alloc o1).drewN m).alloc o2) B A n c ps := by
  have h1 : Row3 ((w.alloc o1).drewN m) B A n c ps := h.alloc o1
  exact h1.alloc o2
theorem cells_new (W : World) (t : TypeId) (xs : List Value) (g : Nat) (hg : W.heap.size = g) : ∀ j v, xs[j]? = some v → (W.alloc (.cells xs.toArray t)).cell? ((⟨g, 0, none⟩ : Addr).add j) = some v := by
  subst hg
  intro j v hj
  have h2 : (⟨W.heap.size, 0, none⟩ : Addr).add j = ⟨W.heap.size, j, none⟩ := by unfold Addr.add; split <;> simp_all
  rw [h2, cell_of_row _ W.heap.size j _ t (0, 0) (heap_alloc_new W _)]
  simpa using hj

theorem Row3.set3 {w : World} {B : Nat} {A : Option Addr} {n c : Nat} {ps : List Ph} (h : Row3 w B A n c ps) (o : Obj) (m : Nat) (u0 u1 u2 : Value) (o2 : Obj) :
    Row3 ((((((w.alloc o).drewN m).setCell ⟨w.heap.size, 0, none⟩ u0).setCell ⟨w.heap.size, 1, none⟩ u1).setCell ⟨w.heap.size, 2, none⟩ u2).alloc o2) B A n c ps := by
  have hb : Below w.heap.size w (((((w.alloc o).drewN m).setCell ⟨w.heap.size, 0, none⟩ u0).setCell ⟨w.heap.size, 1, none⟩ u1).setCell ⟨w.heap.size, 2, none⟩ u2) :=
    (((bel_drewN ((Below.refl _ w).alloc (Nat.le_refl _) o) m).setCell (p := ⟨w.heap.size, 0, none⟩) (Nat.le_refl _) u0).setCell (p := ⟨w.heap.size, 1, none⟩) (Nat.le_refl _) u1).setCell (p := ⟨w.heap.size, 2, none⟩) (Nat.le_refl _) u2
  exact (h.kept hb).alloc o2
theorem below_set3 {a w : World} {B : Nat} (h : Below B a w) (hB : B ≤ w.heap.size) (o : Obj) (m : Nat) (u0 u1 u2 : Value) (o2 : Obj) :
    Below B a ((((((w.alloc o).drewN m).setCell ⟨w.heap.size, 0, none⟩ u0).setCell ⟨w.heap.size, 1, none⟩ u1).setCell ⟨w.heap.size, 2, none⟩ u2).alloc o2) :=
  ((((bel_drewN (h.alloc hB o) m).setCell (p := ⟨w.heap.size, 0, none⟩) hB u0).setCell (p := ⟨w.heap.size, 1, none⟩) hB u1).setCell (p := ⟨w.heap.size, 2, none⟩) hB u2).alloc (by simp; omega) o2
theorem below_al2 {a w : World} {B : Nat} (h : Below B a w) (hB : B ≤ w.heap.size) (o : Obj) (m : Nat) (o2 : Obj) : Below B a (((w.alloc o).drewN m).alloc o2) :=
  (bel_drewN (h.alloc hB o) m).alloc (by simp; omega) o2

theorem set3_cell (w : World) (a0 a1 a2 : Value) (t : TypeId) (m : Nat) (u0 u1 u2 : Value) (o2 : Obj) :
    ((((((w.alloc (.cells #[a0, a1, a2] t)).drewN m).setCell ⟨w.heap.size, 0, none⟩ u0).setCell ⟨w.heap.size, 1, none⟩ u1).setCell ⟨w.heap.size, 2, none⟩ u2).alloc o2).cell? ⟨w.heap.size, 1, none⟩ = some u1 := by
  rw [World.cell?_alloc_lt _ _ _ (by simp)]
  simp [go_sem]
theorem al2_cell (w : World) (a0 a1 a2 : Value) (t : TypeId) (m : Nat) (o2 : Obj) :
    (((w.alloc (.cells #[a0, a1, a2] t)).drewN m).alloc o2).cell? ⟨w.heap.size, 1, none⟩ = some a1 := by
  rw [World.cell?_alloc_lt _ _ _ (by show w.heap.size < (w.alloc (.cells #[a0, a1, a2] t)).heap.size; simp)]
  show (w.alloc (.cells #[a0, a1, a2] t)).cell? ⟨w.heap.size, 1, none⟩ = some a1
  rw [cell_of_row _ _ 1 _ _ (0, 0) (heap_alloc_new w _)]
  rfl
theorem Row3.ne_new {w : World} {B : Nat} {A : Option Addr} {n c : Nat} {ps : List Ph} (h : Row3 w B A n c ps) : some w.heap.size ≠ (Value.slice A n c).ownBlock := by
  intro e
  have := (World.ownsRow.lt h _ e.symm).2
  omega

/-! ### the phrases of a text -/
def phr (s : List UInt8) : Nat → Nat → List Ph
  | 0, _ => []
  | f + 1, q => if q < s.length then (if 0 < (lng s q q).2 then ((lng s q q).1, ((lng s q q).2 : Int), []) :: phr s f (q + (lng s q q).2) else (-1, 1, (s.drop q).take 1) :: phr s f (q + 1)) else []
/-- The ending of a call that hands back phrases of its own. -/
def RetPh (w : World) (ps : List Ph) (e : Ending) (w' : World) : Prop :=
  ∃ A n c, e = .returned (.slice A n c) ∧ Rd3 w' w'.heap.size A n c ps ∧ Below w.heap.size w w'
theorem Rd3.clip {w : World} {B : Nat} {A : Option Addr} {n c : Nat} {ps : List Ph} (h : Rd3 w B A n c ps) : Rd3 w B A n n ps := ⟨h.1, Nat.le_refl _, Nat.le_trans h.2.1 h.2.2.1, h.2.2.2⟩
theorem ClipP_any (A : Option Addr) (n c : Nat) (hnc : n ≤ c) (w : World) :
    Calls Tryd.prog 26 #[.slice A n c] w fun e w' => e = .returned (.slice A n n) ∧ w = w' := by
  go_enter Tryd.func26, Tryd.ntmps26
  go_wp2
  go_ret
  exact ⟨rfl, rfl⟩
set_option maxHeartbeats 1000000 in
theorem phrases_any (s : List UInt8) (w : World) (hs : s.length ≤ 1000) :
    Calls Tryd.prog 16 #[.string ⟨s.toArray⟩] w (RetPh w (phr s s.length 0)) := by
  go_enter Tryd.func16, Tryd.ntmps16
  go_wp2_with fail
  go_loopw [3, 4] (fun v x wr => ∃ (A : Option Addr) (n c : Nat) (ps : List Ph) (q f : Nat), v = .slice A n c ∧ x = .int .i64 q ∧ q ≤ s.length ∧ s.length ≤ q + f ∧ n ≤ q ∧ Row3 wr w.heap.size A n c ps ∧ ps ++ phr s f q = phr s s.length 0 ∧ Below w.heap.size w wr) (fun _ x _ => s.length - (intOf x).toNat)
  case atStart => exact ⟨_, 0, 0, [], 0, s.length, rfl, rfl, Nat.zero_le _, by omega, Nat.le_refl _, Row3.nil_ w, rfl, (Below.refl _ _).alloc (Nat.le_refl _) _⟩
  case round =>
    obtain ⟨A, n, c, ps, q, f, rfl, rfl, hq, hf, hnq, hrow, hps, hbw⟩ := hrel
    have Hps := Lib.hid hps
    have hwsz := hbw.size
    clear hps
    by_cases hlt : q < s.length
    · go_wp2_with fail
      refine (longest_any s q _ hs hlt).mono ?_
      rintro e w2 ⟨rfl, m, rfl⟩
      obtain ⟨fr, hfr⟩ : ∃ fr, fr = (lng s q q).1 := ⟨_, rfl⟩
      obtain ⟨sz, hsz⟩ : ∃ sz, sz = (lng s q q).2 := ⟨_, rfl⟩
      have hszl : q + sz ≤ s.length := by have := lng_le s q (by omega) q; omega
      rw [← hfr, ← hsz]
      obtain ⟨f', rfl⟩ : ∃ f', f = f' + 1 := ⟨f - 1, by omega⟩
      have Hst := Lib.hid (show phr s (f' + 1) q = if 0 < sz then (fr, (sz : Int), []) :: phr s f' (q + sz) else (-1, 1, (s.drop q).take 1) :: phr s f' (q + 1) by rw [phr, if_pos hlt, hfr, hsz])
      clear hfr hsz
      by_cases hz : 0 < sz
      · go_wp2_with (at_builtin; refine wpList_app3 _ rfl _ _ 24 rfl Tryd.underlying24 w.heap.size _ _ _ ps rfl (hrow.set3 _ _ _ _ _ _) _ (fr, (sz : Int), []) rfl [.int .i64 fr, .int .i64 sz, .string ⟨#[]⟩] rfl (cells_new _ _ [.int .i64 fr, .int .i64 sz, .string ⟨#[]⟩] _ (by simp)) (by omega) (by simp; omega) ?_; intro A2 c2 w3 hrow3 hgrow3; have hcp := hgrow3.cell (set3_cell _ _ _ _ _ _ _ _ _ _) hrow.ne_new)
        go_roundw
        case rel => exact ⟨A2, n + 1, c2, ps ++ [(fr, (sz : Int), [])], q + sz, f', rfl, by go_num, by omega, by omega, by omega, hrow3, by rw [← Hps.out, Hst.out, if_pos hz]; simp, (hrow.set3 _ _ _ _ _ _).grown (below_set3 hbw hwsz _ _ _ _ _ _) hgrow3 (Nat.le_refl _) (by simp; omega)⟩
        case measure => simp [intOf]; omega
      · go_wp2_with (at_builtin; refine wpList_app3 _ rfl _ _ 24 rfl Tryd.underlying24 w.heap.size _ _ _ ps rfl (hrow.al2 _ _ _) _ (-1, 1, (s.drop q).take 1) rfl [.int .i64 (-1), .int .i64 1, .string ⟨(List.take 1 (List.drop q s)).toArray⟩] rfl (cells_new _ _ [.int .i64 (-1), .int .i64 1, .string ⟨(List.take 1 (List.drop q s)).toArray⟩] _ (by simp)) (by omega) (by simp; omega) ?_; intro A2 c2 w3 hrow3 hgrow3; have hcp := hgrow3.cell (al2_cell _ _ _ _ _ _ _) hrow.ne_new)
        go_roundw
        case rel => exact ⟨A2, n + 1, c2, ps ++ [(-1, 1, (s.drop q).take 1)], q + 1, f', rfl, by go_num, by omega, by omega, by omega, hrow3, by rw [← Hps.out, Hst.out, if_neg hz]; simp, (hrow.al2 _ _ _).grown (below_al2 hbw hwsz _ _ _) hgrow3 (Nat.le_refl _) (by simp; omega)⟩
        case measure => simp [intOf]; omega
    · have hnc := hrow.rd.2.1
      have hend : ps = phr s s.length 0 := by
        rw [← Hps.out]
        cases f with
        | zero => simp [phr]
        | succ f => rw [phr, if_neg hlt]; simp
      have Hend := Lib.hid hend
      clear hend
      go_wp2_with fail
      refine (ClipP_any A n c hnc wr).mono ?_
      rintro e w' ⟨rfl, rfl⟩
      go_wp2_with fail
      go_ret
      exact ⟨A, n, n, rfl, by rw [← Hend.out]; exact hrow.rd.clip, hbw⟩
def PO (s : List UInt8) : List Ph := if vt s then phr s s.length 0 else []
theorem retPh_nil {w w' : World} (hb : Below w.heap.size w w') : RetPh w [] (.returned (.slice none 0 0)) w' := ⟨none, 0, 0, rfl, ⟨rfl, Nat.le_refl _, by unfold maxLen; omega, fun h => absurd h (by omega)⟩, hb⟩
set_option maxHeartbeats 400000 in
theorem PhrasesOf_any (s : List UInt8) (w : World) (hs : s.length ≤ 1000) :
    Calls Tryd.prog 6 #[.string ⟨s.toArray⟩] w (RetPh w (PO s)) := by
  cases hv : vt s with
  | true =>
    have Hv := Lib.hid (show PO s = phr s s.length 0 by unfold PO; rw [hv]; rfl)
    have HV := Lib.hid hv
    clear hv
    go_enter Tryd.func6, Tryd.ntmps6
    go_wp2_with fail
    refine (ValidText_any _ _ (by omega)).mono ?_
    rintro e w1 ⟨rfl, hb1⟩
    rw [HV.out]
    go_wp2_with fail
    refine (phrases_any s w1 hs).mono ?_
    rintro e w2 ⟨A, n, c, rfl, hr, hb2⟩
    go_wp2_with fail
    go_ret
    exact ⟨A, n, c, rfl, by rw [Hv.out]; exact hr, hb1.trans (hb2.mono hb1.size)⟩
  | false =>
    have Hv := Lib.hid (show PO s = [] by unfold PO; rw [hv]; rfl)
    have HV := Lib.hid hv
    clear hv
    go_enter Tryd.func6, Tryd.ntmps6
    go_wp2_with fail
    refine (ValidText_any _ _ (by omega)).mono ?_
    rintro e w1 ⟨rfl, hb1⟩
    rw [HV.out]
    go_wp2_with fail
    go_ret
    rw [Hv.out]
    exact retPh_nil hb1
end Go.Proofs.YteldklkfedeleaaDoor
