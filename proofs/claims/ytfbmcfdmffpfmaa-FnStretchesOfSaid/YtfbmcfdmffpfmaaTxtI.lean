/-
  The program's texts that windows make: the walk of the search.
-/
import Derived.Test.YtfbmcfdmffpfmaaTxtO
import Derived.Test.YtfbmcfdmffpfmaaConcT
namespace Go.Proofs.Ytfbmcfdmffpfmaa
open Go.RowKit
set_option linter.unusedVariables false
set_option linter.unusedSimpArgs false

def FromOk (k f bo bf B : Nat) : Prop := ∀ (s : List UInt8) (A : Option Addr) (n c : Nat) (left : List (List UInt8)) (Ao : Option Addr) (no co : Nat) (L : List (List UInt8)) (w : World),
  OutSt w bo bf B Ao no co L → Rd w w.heap.size A n c (left.map S) → Front A n → (∀ g, 0 < n → A = some ⟨g, 0, none⟩ → g ≠ bo ∧ some g ≠ (Value.slice Ao no co).ownBlock) → B ≤ w.heap.size → left.length = f → (∀ x ∈ left, x.length = k) → (s ≠ [] → k ≤ s.length) → s.length + f ≤ 100 → L.length + (txs k f s left).length ≤ 1000000 →
  Calls Try.prog 103 #[.string ⟨s.toArray⟩, .slice A n c, .pointer (some ⟨bo, 0, none⟩), .pointer (some ⟨bf, 0, none⟩)] w (fun e w' => e = .returned (.tuple #[]) ∧ ∃ (A' : Option Addr) (n' c' : Nat), OutSt w' bo bf B A' n' c' (L ++ txs k f s left) ∧ TOut bo (Value.slice Ao no co).ownBlock w w' ∧ ∀ m, (Value.slice A' n' c').ownBlock = some m → (Value.slice Ao no co).ownBlock = some m ∨ w.heap.size ≤ m)
theorem HasSuffixT_any {s u : List UInt8} {w : World} (hs : s.length ≤ 140737488351232) {b : Bool} (hb : u.isSuffixOf s = b) :
    Calls Try.prog 104 #[.string ⟨s.toArray⟩, .string ⟨u.toArray⟩] w fun e w' => e = .returned (.bool b) ∧ w' = w := by
  refine (Try.strings_HasSuffix ⟨s.toArray⟩ ⟨u.toArray⟩ w (by show s.length ≤ _; omega)).mono fun e w' ⟨h1, h2⟩ => ⟨?_, h2⟩
  rw [h1, ← hb]
  rfl
theorem suf_drop {s x : List UInt8} {k q : Nat} (hq : q + 1 = k) (hx : x.length = k) (hs : k ≤ s.length) : (x.take q).isSuffixOf s = decide (s.drop (s.length + 1 - k) = x.take (k - 1)) := by
  have hl : (x.take q).length = q := by rw [List.length_take]; omega
  rw [Bool.eq_iff_iff, List.isSuffixOf_iff_suffix, List.suffix_iff_eq_drop, hl, decide_eq_true_iff, show s.length + 1 - k = s.length - q by omega, show k - 1 = q by omega]
  exact eq_comm
theorem tI_bound {k f : Nat} {s : List UInt8} {left L : List (List UInt8)} {i : Nat} {x : List UInt8} (hL : L.length + (txs k (f + 1) s left).length ≤ 1000000) (hi : i < left.length) (hst : txsTo k f s left (i + 1) = txsTo k f s left i ++ txs k f (nxtT k s x) (left.eraseIdx i)) : (L ++ txsTo k f s left i).length + (txs k f (nxtT k s x) (left.eraseIdx i)).length ≤ 1000000 := by
  have h2 := txsTo_mono (k := k) (f := f) (s := s) (left := left) (show i + 1 ≤ left.length by omega)
  rw [hst, List.length_append] at h2
  rw [txs_succ] at hL
  rw [List.length_append]
  omega
theorem Rd.drop_ {w : World} {B g n c r : Nat} {xs : List Value} (h : Rd w B (some ⟨g, 0, none⟩) n c xs) (hr : r ≤ n) : Rd w B (some (if c = r then (⟨g, 0, none⟩ : Addr) else ⟨g, r, none⟩)) (n - r) (c - r) (xs.drop r) := by
  have h2 := h.2.1
  have h3 := h.2.2.1
  refine ⟨by rw [List.length_drop, h.1], by omega, by omega, fun hn => ?_⟩
  obtain ⟨b, o, e, hb, hc⟩ := h.2.2.2 (by omega)
  injection e with e
  injection e with e1 e2
  refine ⟨g, r, by rw [if_neg (by omega)], by omega, fun j u hu => ?_⟩
  rw [List.getElem?_drop] at hu
  have := hc (r + j) u hu
  rw [← e1, ← e2] at this
  simpa using this
/-- The two parts of what is left, put together. -/
theorem left_any (g n c i r f : Nat) (left : List (List UInt8)) (w : World) (hr : Rd w w.heap.size (some ⟨g, 0, none⟩) n c (left.map S)) (hr1 : r = i + 1) (hi : i < n) (hn : n ≤ 8) (hf : i + (n - r) = f) :
    Calls Try.prog 105 #[.slice (some ⟨w.heap.size, 0, none⟩) 2 2] (w.alloc (.cells #[.slice (some ⟨g, 0, none⟩) i c, .slice (if c = r then some ⟨g, 0, none⟩ else some ⟨g, r, none⟩) (n - r) (c - r)] 24)).drew fun e w' => ∃ A2 c2, e = .returned (.slice A2 f c2) ∧ Row w' (w.heap.size + 1) 9 A2 f c2 ((left.eraseIdx i).map S) ∧ Below (w.heap.size + 1) (w.alloc (.cells #[.slice (some ⟨g, 0, none⟩) i c, .slice (if c = r then some ⟨g, 0, none⟩ else some ⟨g, r, none⟩) (n - r) (c - r)] 24)).drew w' := by
  obtain ⟨W, hW⟩ : ∃ W, W = (w.alloc (.cells #[.slice (some ⟨g, 0, none⟩) i c, .slice (if c = r then some ⟨g, 0, none⟩ else some ⟨g, r, none⟩) (n - r) (c - r)] 24)).drew := ⟨_, rfl⟩
  have hs : W.heap.size = w.heap.size + 1 := by rw [hW]; show (w.alloc _).heap.size = _; simp
  have hb : Below w.heap.size w W := by rw [hW]; exact Below.drew ((Below.refl _ w).alloc (Nat.le_refl _) _)
  have hrW := (hr.below hb).more (show w.heap.size ≤ W.heap.size by omega)
  have h0 : W.cell? ⟨w.heap.size, 0, none⟩ = some (.slice (some ⟨g, 0, none⟩) i c) := by
    rw [hW]
    show (w.alloc _).cell? _ = _
    rw [cell_of_row _ _ 0 _ _ (0, 0) (heap_alloc_new _ _)]; rfl
  have h1 : W.cell? ⟨w.heap.size, 1, none⟩ = some (.slice (some (if c = r then (⟨g, 0, none⟩ : Addr) else ⟨g, r, none⟩)) (n - r) (c - r)) := by
    rw [hW, ← slice_if]
    show (w.alloc _).cell? _ = _
    rw [cell_of_row _ _ 1 _ _ (0, 0) (heap_alloc_new _ _)]; rfl
  have hT := ConcatT_any w.heap.size ⟨g, 0, none⟩ i c (if c = r then (⟨g, 0, none⟩ : Addr) else ⟨g, r, none⟩) (n - r) (c - r) (left.take i) (left.drop r) W h0 h1 (by omega) (by rw [List.map_take]; exact hrW.take_ (by omega)) (by rw [List.map_drop]; exact hrW.drop_ (by omega)) (by omega) (by omega)
  rw [← hW]
  refine hT.mono ?_
  rintro e w' ⟨A2, c2, rfl, hrow, hb2⟩
  rw [hf] at hrow ⊢
  rw [hs] at hrow hb2
  exact ⟨A2, c2, rfl, by rw [List.eraseIdx_eq_take_drop_succ, ← hr1]; exact hrow, hb2⟩
theorem next_any {k f bo bf B : Nat} (Ih : FromOk k f bo bf B) {own : Option Nat} {w wr : World} {A' : Option Addr} {n' c' : Nat} {L1 left' : List (List UInt8)} {s' : List UInt8} (hO : OutSt wr bo bf B A' n' c' L1) (hT : TOut bo own w wr)
    (hown : ∀ m, (Value.slice A' n' c').ownBlock = some m → own = some m ∨ w.heap.size ≤ m) (hB : B ≤ w.heap.size) (W1 : World) (hs1 : W1.heap.size = wr.heap.size + 1) (hb1 : Below wr.heap.size wr W1) (hlen : left'.length = f) (hx : ∀ x ∈ left', x.length = k)
    (hs : k ≤ s'.length) (hsl : s'.length + f ≤ 100) (hL : L1.length + (txs k f s' left').length ≤ 1000000) (A2 : Option Addr) (c2 : Nat) (w2 : World) (hrow2 : Row w2 (wr.heap.size + 1) 9 A2 f c2 (left'.map S)) (hb2 : Below (wr.heap.size + 1) W1 w2) :
    Calls Try.prog 103 #[.string ⟨s'.toArray⟩, .slice A2 f c2, .pointer (some ⟨bo, 0, none⟩), .pointer (some ⟨bf, 0, none⟩)] w2 (fun e w' => e = .returned (.tuple #[]) ∧ ∃ (A3 : Option Addr) (n3 c3 : Nat), OutSt w' bo bf B A3 n3 c3 (L1 ++ txs k f s' left') ∧ TOut bo own w w' ∧ ∀ m, (Value.slice A3 n3 c3).ownBlock = some m → own = some m ∨ w.heap.size ≤ m) := by
  have hsz := hT.size
  have hb : Below wr.heap.size wr w2 := hb1.trans (hb2.mono (Nat.le_succ _))
  have hsz2 := hb.size
  refine (Ih s' A2 f c2 left' A' n' c' L1 w2 (hO.kept hb) hrow2.rd hrow2.front (fun g hf hg => ?_) (by omega) hlen hx (fun _ => hs) hsl hL).mono ?_
  · subst hg
    have h1 := row_ge hrow2 g rfl
    have h2 := hO.box.lt
    exact ⟨by omega, fun e => by have := hO.lt g e.symm; omega⟩
  · rintro e w3 ⟨rfl, A3, n3, c3, q1, q2, q3⟩
    refine ⟨rfl, A3, n3, c3, q1, (hT.trans (TOut.of_below (own := own) hb) fun m hm => .inl hm).trans q2 hown, fun m hm => ?_⟩
    rcases q3 m hm with h | h
    · exact hown m h
    · right
      omega
set_option maxRecDepth 100000 in
set_option maxHeartbeats 25600000 in
theorem from_any (k : Nat) (hk : 1 ≤ k) (hk6 : k ≤ 6) (bo bf B : Nat) (f : Nat) (hf : f ≤ 8) : FromOk k f bo bf B := by
  induction f with
  | zero =>
    intro s A n c left Ao no co L w hO hr hA hd hB hlen hx hs hsl hL
    obtain rfl := List.eq_nil_of_length_eq_zero hlen
    obtain rfl : n = 0 := by have := hr.slen; simpa using this.symm
    have hn := hO.row.len
    rw [List.length_map] at hn
    have hbox := hO.box.cell
    have hrow := hO.row
    have hbx : ∀ w2 : World, (w.alloc (.cells #[.string ⟨s.toArray⟩] 9)).grownBy w2 (Value.slice Ao no co).ownBlock → w2.frozen? ⟨bo, 0, none⟩ = false ∧ w2.cell? ⟨bo, 0, none⟩ = some (.slice Ao no co) := fun w2 hg => ⟨((hO.box.alloc _).kept hg hO.off_box).frozen, ((hO.box.alloc _).kept hg hO.off_box).cell⟩
    obtain ⟨i0, hi, hz0, hz1, hz2⟩ := info_parts Try.infoXs
    rw [show txs k 0 s [] = [s] from rfl] at hL ⊢
    simp at hL
    go_enter Try.func103, Try.ntmps103
    go_wp2_with (at_builtin; refine wpList_appN _ rfl _ _ 24 rfl B 9 i0 (.string ⟨#[]⟩) 16 Try.underlying24 hi hz0 hz1 hz2 rfl _ _ _ _ rfl (hrow.alloc _) _ 1 1 [.string ⟨s.toArray⟩] rfl rfl (cell_one_new _ _ _) (by simp [Value.oneCell']) (no + 1) rfl (by omega) (by omega) (by simp; omega) ?_; intro A2 c2 w2 hrow2 hgrow2 hown2; obtain ⟨hfz, hcl⟩ := hbx w2 hgrow2)
    refine bodyPost_ret (results_none rfl _ _ _) rfl ?_
    obtain ⟨q1, q2, q3⟩ := hO.put hrow2 hgrow2 hown2
    exact ⟨rfl, A2, no + 1, c2, q1, q2, q3⟩
  | succ f ih =>
    intro s A n c left Ao no co L w hO hr hA hd hB hlen hx hs hsl hL
    have Ih := Lib.hid (ih (by omega))
    clear ih
    have hnl : n = f + 1 := by have := hr.slen; omega
    obtain ⟨gl, rfl⟩ := hA (by omega)
    have Hd := Lib.hid (hd gl (by omega) rfl)
    have Hxk := Lib.hid hx
    have HL := Lib.hid hL
    have Hlen := Lib.hid hlen
    have Hnl := Lib.hid hnl
    have Hr := Lib.hid hr
    have Hs := Lib.hid hs
    have n1 : ((n : Int) == 0) = false := by simp; omega
    have hm := hr.2.2.1
    have hnc := hr.2.1
    unfold maxLen at hm
    obtain ⟨q, hq⟩ : ∃ q, q + 1 = k := ⟨k - 1, by omega⟩
    have e7 : IntKind.i64.wrap ((k : Int) - 1) = (q : Int) := by rw [IntKind.wrap_i64]; omega
    have e8 : (k : Int) - 1 = (q : Int) := by omega
    have b7 : (q : Int) ≤ (k : Int) := by omega
    have b8 : (0 : Int) ≤ (q : Int) := by omega
    have b9 : q ≤ k := by omega
    have Hq := Lib.hid hq
    have hbl : gl < w.heap.size := by
      obtain ⟨b, o, e, hb, _⟩ := hr.2.2.2 (by omega)
      injection e with e
      injection e with e1 e2
      omega
    have hn8 : n ≤ 8 := by omega
    clear hx hL hlen hr hq hs hnl hd
    have HO := Lib.hid hO
    clear hO
    go_enter Try.func103, Try.ntmps103
    go_wp2_with fail
    go_loopw [18] (fun i wr => ∃ (j : Nat) (A' : Option Addr) (n' c' : Nat), j ≤ n ∧ i = .int .i64 j ∧ OutSt wr bo bf B A' n' c' (L ++ txsTo k f s left j) ∧ TOut bo (Value.slice Ao no co).ownBlock w wr ∧ ∀ m, (Value.slice A' n' c').ownBlock = some m → (Value.slice Ao no co).ownBlock = some m ∨ w.heap.size ≤ m) (fun i _ => n - (intOf i).toNat)
    case atStart => exact ⟨0, Ao, no, co, Nat.zero_le _, rfl, by simpa [txsTo] using HO.out, TOut.refl _ _ _, fun m hm => .inl hm⟩
    case round =>
      obtain ⟨i, A', n', c', hi8, rfl, hO, hT, hown⟩ := hrel
      have HO := Lib.hid hO
      have HT := Lib.hid hT
      have Hown := Lib.hid hown
      have hsz := hT.size
      have hrr := hT |> fun h => Hr.out.tout h (Nat.le_refl _) Hd.out.1 Hd.out.2
      clear hO hT hown
      by_cases hlt : i < n
      · obtain ⟨x, hx, hcx⟩ := hrr.str_at hlt
        rw [Nat.zero_add] at hcx
        have hxk := Hxk.out x (List.mem_of_getElem? hx)
        have h0 : (i : Int) < (n : Int) := by omega
        have h00 : (0 : Int) ≤ (i : Int) := by omega
        have hi9 : i ≤ n := by omega
        by_cases hsn : s = []
        · subst hsn
          rcases Nat.eq_zero_or_pos i with hi0 | hi0
          · have hd0 : decide (0 < i) = false := by simp [hi0]
            have hd1 : decide ((0 : Int) < (i : Int)) = false := by simp [hi0]
            have hd2 : ¬ (0 < i) := by omega
            have Hg := Lib.hid (goes0 (k := k) (s := ([] : List UInt8)) hx hi0 (show (decide (([] : List UInt8) = []) || decide (([] : List UInt8).drop (([] : List UInt8).length + 1 - k) = x.take (k - 1))) = true from rfl))
            have Hx := Lib.hid hx
            clear hx hi0
            have Hst := Lib.hid (tx_go (f := f) Hx.out Hg.out)
            have Hsub := Lib.hid (tI_bound HL.out (show i < left.length by rw [Hlen.out, ← Hnl.out]; exact hlt) Hst.out)
            have Hnx := Lib.hid (nxt_len (s := ([] : List UInt8)) hk hxk Hs.out)
            go_wp2_with fail
            obtain ⟨tf, htf, hbf⟩ := HO.out.fr
            have hfr : wr.cell? ⟨bf, 0, none⟩ = some (.func (.func 103) #[] #[.pointer (some ⟨bo, 0, none⟩), .pointer (some ⟨bf, 0, none⟩)]) := hbf.cell
            have hbfl := hbf.lt
            clear hbf htf
            obtain ⟨r, hr1⟩ : ∃ r, r = i + 1 := ⟨_, rfl⟩
            have e9 : IntKind.i64.wrap ((i : Int) + 1) = (r : Int) := by rw [IntKind.wrap_i64]; omega
            have e10 : (i : Int) + 1 = (r : Int) := by omega
            have e11 : IntKind.i64.wrap (r : Int) = (r : Int) := by rw [IntKind.wrap_i64]; omega
            have hc1 : (r : Int) ≤ (n : Int) := by omega
            have hc2 : (r : Int) ≤ (c : Int) := by omega
            have hc3 : (0 : Int) ≤ (r : Int) := by omega
            have hc4 : (i : Int) ≤ (c : Int) := by omega
            have hc5 : r ≤ n := by omega
            have hrf : i + (n - r) = f := by have := Hnl.out; omega
            have hC := left_any gl n c i r f left wr (hrr.more hsz) hr1 hlt hn8 hrf
            have hI := next_any Ih.out HO.out HT.out Hown.out hB (wr.alloc (.cells #[.slice (some ⟨gl, 0, none⟩) i c, .slice (if c = r then some ⟨gl, 0, none⟩ else some ⟨gl, r, none⟩) (n - r) (c - r)] 24)).drew (by show (wr.alloc _).heap.size = _; simp) (Below.drew ((Below.refl _ wr).alloc (Nat.le_refl _) _)) (left' := left.eraseIdx i) (s' := nxtT k ([] : List UInt8) x) (by rw [List.length_eraseIdx_of_lt (by rw [Hlen.out]; omega), Hlen.out]; rfl) (fun z hz => Hxk.out z (List.mem_of_mem_eraseIdx hz)) Hnx.out.1 (by have := Hnx.out.2; (try simp only [List.length_nil] at this hsl); omega) Hsub.out
            have Hr1 := Lib.hid hr1
            have HNX := Lib.hid (show nxtT k ([] : List UInt8) x = x from rfl)
            rw [HNX.out] at hI
            clear hr1 hrr hcx
            by_cases hcr : c = r
            · subst hcr
              obtain rfl : n = c := by omega
              rw [if_pos rfl, Nat.sub_self] at hC hI
              go_region_held3 (fun w' => w'.cell? ⟨bf, 0, none⟩ = some (.func (.func 103) #[] #[.pointer (some ⟨bo, 0, none⟩), .pointer (some ⟨bf, 0, none⟩)]))
                ((first | assumption | exact (World.cell?_alloc_lt _ _ _ hbfl).trans hfr))
                (first
                | (go_at_call 105
                   with_reducible refine hC.mono ?_
                   rintro e w2 ⟨A2, c2, rfl, hrow2, hb2⟩
                   have hfr2 := (hb2.cell (p := ⟨bf, 0, none⟩) (Nat.lt_succ_of_lt hbfl)).trans ((World.cell?_alloc_lt wr (.cells #[.slice (some ⟨gl, 0, none⟩) i n, .slice (some ⟨gl, 0, none⟩) 0 0] 24) ⟨bf, 0, none⟩ hbfl).trans hfr))
                | (go_at_call 103
                   with_reducible refine (hI _ _ _ hrow2 hb2).mono ?_
                   rintro e w3 ⟨rfl, A3, n3, c3, hO3, hT3, hown3⟩
                   have hfr3 := hO3.fr_cell))
              all_goals
                clear e9 e10 e11 hfr hfr2 hfr3
                go_wp2_with fail
                go_roundw
                case rel => exact ⟨i + 1, A3, n3, c3, by omega, by go_num, by rw [Hst.out, ← List.append_assoc, HNX.out]; exact hO3, hT3, hown3⟩
                case measure => simp [intOf]; omega
            · rw [if_neg hcr] at hC hI
              go_region_held3 (fun w' => w'.cell? ⟨bf, 0, none⟩ = some (.func (.func 103) #[] #[.pointer (some ⟨bo, 0, none⟩), .pointer (some ⟨bf, 0, none⟩)]))
                ((first | assumption | exact (World.cell?_alloc_lt _ _ _ hbfl).trans hfr))
                (first
                | (go_at_call 105
                   with_reducible refine hC.mono ?_
                   rintro e w2 ⟨A2, c2, rfl, hrow2, hb2⟩
                   have hfr2 := (hb2.cell (p := ⟨bf, 0, none⟩) (Nat.lt_succ_of_lt hbfl)).trans ((World.cell?_alloc_lt wr (.cells #[.slice (some ⟨gl, 0, none⟩) i c, .slice (some ⟨gl, r, none⟩) (n - r) (c - r)] 24) ⟨bf, 0, none⟩ hbfl).trans hfr))
                | (go_at_call 103
                   with_reducible refine (hI _ _ _ hrow2 hb2).mono ?_
                   rintro e w3 ⟨rfl, A3, n3, c3, hO3, hT3, hown3⟩
                   have hfr3 := hO3.fr_cell))
              all_goals
                clear e9 e10 e11 hfr hfr2 hfr3
                go_wp2_with fail
                go_roundw
                case rel => exact ⟨i + 1, A3, n3, c3, by omega, by go_num, by rw [Hst.out, ← List.append_assoc, HNX.out]; exact hO3, hT3, hown3⟩
                case measure => simp [intOf]; omega
          · obtain ⟨m, hm1⟩ : ∃ m, m + 1 = i := ⟨i - 1, by omega⟩
            obtain ⟨y, hy, hcy⟩ := hrr.str_at (show m < n by omega)
            rw [Nat.zero_add] at hcy
            have hd0 : decide (0 < i) = true := by simp [hi0]
            have hd1 : decide ((0 : Int) < (i : Int)) = true := by simp [hi0]
            have e1 : IntKind.i64.wrap ((i : Int) - 1) = (m : Int) := by rw [IntKind.wrap_i64]; omega
            have e2 : (i : Int) - 1 = (m : Int) := by omega
            have e3 : IntKind.i64.wrap (m : Int) = (m : Int) := by rw [IntKind.wrap_i64]; omega
            have b1 : (m : Int) < (n : Int) := by omega
            have b0 : (0 : Int) ≤ (m : Int) := by omega
            by_cases hxy : x = y
            · have hee : (x == y) = true := by simp [hxy]
              have Hg := Lib.hid (goes2 (k := k) (s := ([] : List UInt8)) hx hy hm1 hxy)
              have Hx := Lib.hid hx
              clear hx hy hm1 hxy
              have Hst := Lib.hid (tx_skip (f := f) Hg.out)
              go_wp2_with fail
              go_roundw
              case rel => exact ⟨i + 1, A', n', c', by omega, by go_num, by rw [Hst.out]; exact HO.out, HT.out, Hown.out⟩
              case measure => simp [intOf]; omega
            · have hee : (x == y) = false := by simp [hxy]
              have Hg := Lib.hid (goes1 (k := k) (s := ([] : List UInt8)) hx hy hm1 hxy (show (decide (([] : List UInt8) = []) || decide (([] : List UInt8).drop (([] : List UInt8).length + 1 - k) = x.take (k - 1))) = true from rfl))
              have Hx := Lib.hid hx
              clear hx hy hm1 hxy
              have Hst := Lib.hid (tx_go (f := f) Hx.out Hg.out)
              have Hsub := Lib.hid (tI_bound HL.out (show i < left.length by rw [Hlen.out, ← Hnl.out]; exact hlt) Hst.out)
              have Hnx := Lib.hid (nxt_len (s := ([] : List UInt8)) hk hxk Hs.out)
              go_wp2_with fail
              obtain ⟨tf, htf, hbf⟩ := HO.out.fr
              have hfr : wr.cell? ⟨bf, 0, none⟩ = some (.func (.func 103) #[] #[.pointer (some ⟨bo, 0, none⟩), .pointer (some ⟨bf, 0, none⟩)]) := hbf.cell
              have hbfl := hbf.lt
              clear hbf htf
              obtain ⟨r, hr1⟩ : ∃ r, r = i + 1 := ⟨_, rfl⟩
              have e9 : IntKind.i64.wrap ((i : Int) + 1) = (r : Int) := by rw [IntKind.wrap_i64]; omega
              have e10 : (i : Int) + 1 = (r : Int) := by omega
              have e11 : IntKind.i64.wrap (r : Int) = (r : Int) := by rw [IntKind.wrap_i64]; omega
              have hc1 : (r : Int) ≤ (n : Int) := by omega
              have hc2 : (r : Int) ≤ (c : Int) := by omega
              have hc3 : (0 : Int) ≤ (r : Int) := by omega
              have hc4 : (i : Int) ≤ (c : Int) := by omega
              have hc5 : r ≤ n := by omega
              have hrf : i + (n - r) = f := by have := Hnl.out; omega
              have hC := left_any gl n c i r f left wr (hrr.more hsz) hr1 hlt hn8 hrf
              have hI := next_any Ih.out HO.out HT.out Hown.out hB (wr.alloc (.cells #[.slice (some ⟨gl, 0, none⟩) i c, .slice (if c = r then some ⟨gl, 0, none⟩ else some ⟨gl, r, none⟩) (n - r) (c - r)] 24)).drew (by show (wr.alloc _).heap.size = _; simp) (Below.drew ((Below.refl _ wr).alloc (Nat.le_refl _) _)) (left' := left.eraseIdx i) (s' := nxtT k ([] : List UInt8) x) (by rw [List.length_eraseIdx_of_lt (by rw [Hlen.out]; omega), Hlen.out]; rfl) (fun z hz => Hxk.out z (List.mem_of_mem_eraseIdx hz)) Hnx.out.1 (by have := Hnx.out.2; (try simp only [List.length_nil] at this hsl); omega) Hsub.out
              have Hr1 := Lib.hid hr1
              have HNX := Lib.hid (show nxtT k ([] : List UInt8) x = x from rfl)
              rw [HNX.out] at hI
              clear hr1 hrr hcx
              by_cases hcr : c = r
              · subst hcr
                obtain rfl : n = c := by omega
                rw [if_pos rfl, Nat.sub_self] at hC hI
                go_region_held3 (fun w' => w'.cell? ⟨bf, 0, none⟩ = some (.func (.func 103) #[] #[.pointer (some ⟨bo, 0, none⟩), .pointer (some ⟨bf, 0, none⟩)]))
                  ((first | assumption | exact (World.cell?_alloc_lt _ _ _ hbfl).trans hfr))
                  (first
                  | (go_at_call 105
                     with_reducible refine hC.mono ?_
                     rintro e w2 ⟨A2, c2, rfl, hrow2, hb2⟩
                     have hfr2 := (hb2.cell (p := ⟨bf, 0, none⟩) (Nat.lt_succ_of_lt hbfl)).trans ((World.cell?_alloc_lt wr (.cells #[.slice (some ⟨gl, 0, none⟩) i n, .slice (some ⟨gl, 0, none⟩) 0 0] 24) ⟨bf, 0, none⟩ hbfl).trans hfr))
                  | (go_at_call 103
                     with_reducible refine (hI _ _ _ hrow2 hb2).mono ?_
                     rintro e w3 ⟨rfl, A3, n3, c3, hO3, hT3, hown3⟩
                     have hfr3 := hO3.fr_cell))
                all_goals
                  clear e9 e10 e11 hfr hfr2 hfr3
                  go_wp2_with fail
                  go_roundw
                  case rel => exact ⟨i + 1, A3, n3, c3, by omega, by go_num, by rw [Hst.out, ← List.append_assoc, HNX.out]; exact hO3, hT3, hown3⟩
                  case measure => simp [intOf]; omega
              · rw [if_neg hcr] at hC hI
                go_region_held3 (fun w' => w'.cell? ⟨bf, 0, none⟩ = some (.func (.func 103) #[] #[.pointer (some ⟨bo, 0, none⟩), .pointer (some ⟨bf, 0, none⟩)]))
                  ((first | assumption | exact (World.cell?_alloc_lt _ _ _ hbfl).trans hfr))
                  (first
                  | (go_at_call 105
                     with_reducible refine hC.mono ?_
                     rintro e w2 ⟨A2, c2, rfl, hrow2, hb2⟩
                     have hfr2 := (hb2.cell (p := ⟨bf, 0, none⟩) (Nat.lt_succ_of_lt hbfl)).trans ((World.cell?_alloc_lt wr (.cells #[.slice (some ⟨gl, 0, none⟩) i c, .slice (some ⟨gl, r, none⟩) (n - r) (c - r)] 24) ⟨bf, 0, none⟩ hbfl).trans hfr))
                  | (go_at_call 103
                     with_reducible refine (hI _ _ _ hrow2 hb2).mono ?_
                     rintro e w3 ⟨rfl, A3, n3, c3, hO3, hT3, hown3⟩
                     have hfr3 := hO3.fr_cell))
                all_goals
                  clear e9 e10 e11 hfr hfr2 hfr3
                  go_wp2_with fail
                  go_roundw
                  case rel => exact ⟨i + 1, A3, n3, c3, by omega, by go_num, by rw [Hst.out, ← List.append_assoc, HNX.out]; exact hO3, hT3, hown3⟩
                  case measure => simp [intOf]; omega
        · have hsk := Hs.out hsn
          have hse : s.isEmpty = false := by cases s <;> simp_all
          have hsb : (s == []) = false := by simpa using hsn
          have hsb2 : (s != []) = true := by simp [hsn]
          have hsuf := suf_drop (s := s) (x := x) Hq.out hxk hsk
          by_cases hsf : s.drop (s.length + 1 - k) = x.take (k - 1)
          · rw [decide_eq_true hsf] at hsuf
            have Hsuf := Lib.hid hsuf
            have Hb := Lib.hid (show (decide (s = []) || decide (s.drop (s.length + 1 - k) = x.take (k - 1))) = true by rw [decide_eq_true hsf]; simp)
            have Hsn := Lib.hid hsn
            clear hsf hsn hsuf
            rcases Nat.eq_zero_or_pos i with hi0 | hi0
            · have hd0 : decide (0 < i) = false := by simp [hi0]
              have hd1 : decide ((0 : Int) < (i : Int)) = false := by simp [hi0]
              have hd2 : ¬ (0 < i) := by omega
              have Hg := Lib.hid (goes0 (k := k) (s := s) hx hi0 Hb.out)
              have Hx := Lib.hid hx
              clear hx hi0
              have Hst := Lib.hid (tx_go (f := f) Hx.out Hg.out)
              have Hsub := Lib.hid (tI_bound HL.out (show i < left.length by rw [Hlen.out, ← Hnl.out]; exact hlt) Hst.out)
              have Hnx := Lib.hid (nxt_len (s := s) hk hxk Hs.out)
              go_wp2_with fail
              refine (HasSuffixT_any (by omega) Hsuf.out).mono ?_
              rintro e wr ⟨rfl, rfl⟩
              go_wp2_with fail
              obtain ⟨tf, htf, hbf⟩ := HO.out.fr
              have hfr : wr.cell? ⟨bf, 0, none⟩ = some (.func (.func 103) #[] #[.pointer (some ⟨bo, 0, none⟩), .pointer (some ⟨bf, 0, none⟩)]) := hbf.cell
              have hbfl := hbf.lt
              clear hbf htf
              obtain ⟨r, hr1⟩ : ∃ r, r = i + 1 := ⟨_, rfl⟩
              have e9 : IntKind.i64.wrap ((i : Int) + 1) = (r : Int) := by rw [IntKind.wrap_i64]; omega
              have e10 : (i : Int) + 1 = (r : Int) := by omega
              have e11 : IntKind.i64.wrap (r : Int) = (r : Int) := by rw [IntKind.wrap_i64]; omega
              have hc1 : (r : Int) ≤ (n : Int) := by omega
              have hc2 : (r : Int) ≤ (c : Int) := by omega
              have hc3 : (0 : Int) ≤ (r : Int) := by omega
              have hc4 : (i : Int) ≤ (c : Int) := by omega
              have hc5 : r ≤ n := by omega
              have hrf : i + (n - r) = f := by have := Hnl.out; omega
              have hC := left_any gl n c i r f left wr (hrr.more hsz) hr1 hlt hn8 hrf
              have hI := next_any Ih.out HO.out HT.out Hown.out hB (wr.alloc (.cells #[.slice (some ⟨gl, 0, none⟩) i c, .slice (if c = r then some ⟨gl, 0, none⟩ else some ⟨gl, r, none⟩) (n - r) (c - r)] 24)).drew (by show (wr.alloc _).heap.size = _; simp) (Below.drew ((Below.refl _ wr).alloc (Nat.le_refl _) _)) (left' := left.eraseIdx i) (s' := nxtT k s x) (by rw [List.length_eraseIdx_of_lt (by rw [Hlen.out]; omega), Hlen.out]; rfl) (fun z hz => Hxk.out z (List.mem_of_mem_eraseIdx hz)) Hnx.out.1 (by have := Hnx.out.2; (try simp only [List.length_nil] at this hsl); omega) Hsub.out
              have Hr1 := Lib.hid hr1
              have HNX := Lib.hid (show nxtT k s x = s ++ List.take (k - q) (List.drop q x) by unfold nxtT; rw [if_neg Hsn.out, List.take_of_length_le (by rw [List.length_drop, hxk]; exact Nat.le_refl _), show k - 1 = q by have := Hq.out; omega])
              rw [HNX.out] at hI
              clear hr1 hrr hcx
              by_cases hcr : c = r
              · subst hcr
                obtain rfl : n = c := by omega
                rw [if_pos rfl, Nat.sub_self] at hC hI
                go_region_held3 (fun w' => w'.cell? ⟨bf, 0, none⟩ = some (.func (.func 103) #[] #[.pointer (some ⟨bo, 0, none⟩), .pointer (some ⟨bf, 0, none⟩)]))
                  ((first | assumption | exact (World.cell?_alloc_lt _ _ _ hbfl).trans hfr))
                  (first
                  | (go_at_call 105
                     with_reducible refine hC.mono ?_
                     rintro e w2 ⟨A2, c2, rfl, hrow2, hb2⟩
                     have hfr2 := (hb2.cell (p := ⟨bf, 0, none⟩) (Nat.lt_succ_of_lt hbfl)).trans ((World.cell?_alloc_lt wr (.cells #[.slice (some ⟨gl, 0, none⟩) i n, .slice (some ⟨gl, 0, none⟩) 0 0] 24) ⟨bf, 0, none⟩ hbfl).trans hfr))
                  | (go_at_call 103
                     with_reducible refine (hI _ _ _ hrow2 hb2).mono ?_
                     rintro e w3 ⟨rfl, A3, n3, c3, hO3, hT3, hown3⟩
                     have hfr3 := hO3.fr_cell))
                all_goals
                  clear e9 e10 e11 hfr hfr2 hfr3
                  go_wp2_with fail
                  go_roundw
                  case rel => exact ⟨i + 1, A3, n3, c3, by omega, by go_num, by rw [Hst.out, ← List.append_assoc, HNX.out]; exact hO3, hT3, hown3⟩
                  case measure => simp [intOf]; omega
              · rw [if_neg hcr] at hC hI
                go_region_held3 (fun w' => w'.cell? ⟨bf, 0, none⟩ = some (.func (.func 103) #[] #[.pointer (some ⟨bo, 0, none⟩), .pointer (some ⟨bf, 0, none⟩)]))
                  ((first | assumption | exact (World.cell?_alloc_lt _ _ _ hbfl).trans hfr))
                  (first
                  | (go_at_call 105
                     with_reducible refine hC.mono ?_
                     rintro e w2 ⟨A2, c2, rfl, hrow2, hb2⟩
                     have hfr2 := (hb2.cell (p := ⟨bf, 0, none⟩) (Nat.lt_succ_of_lt hbfl)).trans ((World.cell?_alloc_lt wr (.cells #[.slice (some ⟨gl, 0, none⟩) i c, .slice (some ⟨gl, r, none⟩) (n - r) (c - r)] 24) ⟨bf, 0, none⟩ hbfl).trans hfr))
                  | (go_at_call 103
                     with_reducible refine (hI _ _ _ hrow2 hb2).mono ?_
                     rintro e w3 ⟨rfl, A3, n3, c3, hO3, hT3, hown3⟩
                     have hfr3 := hO3.fr_cell))
                all_goals
                  clear e9 e10 e11 hfr hfr2 hfr3
                  go_wp2_with fail
                  go_roundw
                  case rel => exact ⟨i + 1, A3, n3, c3, by omega, by go_num, by rw [Hst.out, ← List.append_assoc, HNX.out]; exact hO3, hT3, hown3⟩
                  case measure => simp [intOf]; omega
            · obtain ⟨m, hm1⟩ : ∃ m, m + 1 = i := ⟨i - 1, by omega⟩
              obtain ⟨y, hy, hcy⟩ := hrr.str_at (show m < n by omega)
              rw [Nat.zero_add] at hcy
              have hd0 : decide (0 < i) = true := by simp [hi0]
              have hd1 : decide ((0 : Int) < (i : Int)) = true := by simp [hi0]
              have e1 : IntKind.i64.wrap ((i : Int) - 1) = (m : Int) := by rw [IntKind.wrap_i64]; omega
              have e2 : (i : Int) - 1 = (m : Int) := by omega
              have e3 : IntKind.i64.wrap (m : Int) = (m : Int) := by rw [IntKind.wrap_i64]; omega
              have b1 : (m : Int) < (n : Int) := by omega
              have b0 : (0 : Int) ≤ (m : Int) := by omega
              by_cases hxy : x = y
              · have hee : (x == y) = true := by simp [hxy]
                have Hg := Lib.hid (goes2 (k := k) (s := s) hx hy hm1 hxy)
                have Hx := Lib.hid hx
                clear hx hy hm1 hxy
                have Hst := Lib.hid (tx_skip (f := f) Hg.out)
                go_wp2_with fail
                go_roundw
                case rel => exact ⟨i + 1, A', n', c', by omega, by go_num, by rw [Hst.out]; exact HO.out, HT.out, Hown.out⟩
                case measure => simp [intOf]; omega
              · have hee : (x == y) = false := by simp [hxy]
                have Hg := Lib.hid (goes1 (k := k) (s := s) hx hy hm1 hxy Hb.out)
                have Hx := Lib.hid hx
                clear hx hy hm1 hxy
                have Hst := Lib.hid (tx_go (f := f) Hx.out Hg.out)
                have Hsub := Lib.hid (tI_bound HL.out (show i < left.length by rw [Hlen.out, ← Hnl.out]; exact hlt) Hst.out)
                have Hnx := Lib.hid (nxt_len (s := s) hk hxk Hs.out)
                go_wp2_with fail
                refine (HasSuffixT_any (by omega) Hsuf.out).mono ?_
                rintro e wr ⟨rfl, rfl⟩
                go_wp2_with fail
                obtain ⟨tf, htf, hbf⟩ := HO.out.fr
                have hfr : wr.cell? ⟨bf, 0, none⟩ = some (.func (.func 103) #[] #[.pointer (some ⟨bo, 0, none⟩), .pointer (some ⟨bf, 0, none⟩)]) := hbf.cell
                have hbfl := hbf.lt
                clear hbf htf
                obtain ⟨r, hr1⟩ : ∃ r, r = i + 1 := ⟨_, rfl⟩
                have e9 : IntKind.i64.wrap ((i : Int) + 1) = (r : Int) := by rw [IntKind.wrap_i64]; omega
                have e10 : (i : Int) + 1 = (r : Int) := by omega
                have e11 : IntKind.i64.wrap (r : Int) = (r : Int) := by rw [IntKind.wrap_i64]; omega
                have hc1 : (r : Int) ≤ (n : Int) := by omega
                have hc2 : (r : Int) ≤ (c : Int) := by omega
                have hc3 : (0 : Int) ≤ (r : Int) := by omega
                have hc4 : (i : Int) ≤ (c : Int) := by omega
                have hc5 : r ≤ n := by omega
                have hrf : i + (n - r) = f := by have := Hnl.out; omega
                have hC := left_any gl n c i r f left wr (hrr.more hsz) hr1 hlt hn8 hrf
                have hI := next_any Ih.out HO.out HT.out Hown.out hB (wr.alloc (.cells #[.slice (some ⟨gl, 0, none⟩) i c, .slice (if c = r then some ⟨gl, 0, none⟩ else some ⟨gl, r, none⟩) (n - r) (c - r)] 24)).drew (by show (wr.alloc _).heap.size = _; simp) (Below.drew ((Below.refl _ wr).alloc (Nat.le_refl _) _)) (left' := left.eraseIdx i) (s' := nxtT k s x) (by rw [List.length_eraseIdx_of_lt (by rw [Hlen.out]; omega), Hlen.out]; rfl) (fun z hz => Hxk.out z (List.mem_of_mem_eraseIdx hz)) Hnx.out.1 (by have := Hnx.out.2; (try simp only [List.length_nil] at this hsl); omega) Hsub.out
                have Hr1 := Lib.hid hr1
                have HNX := Lib.hid (show nxtT k s x = s ++ List.take (k - q) (List.drop q x) by unfold nxtT; rw [if_neg Hsn.out, List.take_of_length_le (by rw [List.length_drop, hxk]; exact Nat.le_refl _), show k - 1 = q by have := Hq.out; omega])
                rw [HNX.out] at hI
                clear hr1 hrr hcx
                by_cases hcr : c = r
                · subst hcr
                  obtain rfl : n = c := by omega
                  rw [if_pos rfl, Nat.sub_self] at hC hI
                  go_region_held3 (fun w' => w'.cell? ⟨bf, 0, none⟩ = some (.func (.func 103) #[] #[.pointer (some ⟨bo, 0, none⟩), .pointer (some ⟨bf, 0, none⟩)]))
                    ((first | assumption | exact (World.cell?_alloc_lt _ _ _ hbfl).trans hfr))
                    (first
                    | (go_at_call 105
                       with_reducible refine hC.mono ?_
                       rintro e w2 ⟨A2, c2, rfl, hrow2, hb2⟩
                       have hfr2 := (hb2.cell (p := ⟨bf, 0, none⟩) (Nat.lt_succ_of_lt hbfl)).trans ((World.cell?_alloc_lt wr (.cells #[.slice (some ⟨gl, 0, none⟩) i n, .slice (some ⟨gl, 0, none⟩) 0 0] 24) ⟨bf, 0, none⟩ hbfl).trans hfr))
                    | (go_at_call 103
                       with_reducible refine (hI _ _ _ hrow2 hb2).mono ?_
                       rintro e w3 ⟨rfl, A3, n3, c3, hO3, hT3, hown3⟩
                       have hfr3 := hO3.fr_cell))
                  all_goals
                    clear e9 e10 e11 hfr hfr2 hfr3
                    go_wp2_with fail
                    go_roundw
                    case rel => exact ⟨i + 1, A3, n3, c3, by omega, by go_num, by rw [Hst.out, ← List.append_assoc, HNX.out]; exact hO3, hT3, hown3⟩
                    case measure => simp [intOf]; omega
                · rw [if_neg hcr] at hC hI
                  go_region_held3 (fun w' => w'.cell? ⟨bf, 0, none⟩ = some (.func (.func 103) #[] #[.pointer (some ⟨bo, 0, none⟩), .pointer (some ⟨bf, 0, none⟩)]))
                    ((first | assumption | exact (World.cell?_alloc_lt _ _ _ hbfl).trans hfr))
                    (first
                    | (go_at_call 105
                       with_reducible refine hC.mono ?_
                       rintro e w2 ⟨A2, c2, rfl, hrow2, hb2⟩
                       have hfr2 := (hb2.cell (p := ⟨bf, 0, none⟩) (Nat.lt_succ_of_lt hbfl)).trans ((World.cell?_alloc_lt wr (.cells #[.slice (some ⟨gl, 0, none⟩) i c, .slice (some ⟨gl, r, none⟩) (n - r) (c - r)] 24) ⟨bf, 0, none⟩ hbfl).trans hfr))
                    | (go_at_call 103
                       with_reducible refine (hI _ _ _ hrow2 hb2).mono ?_
                       rintro e w3 ⟨rfl, A3, n3, c3, hO3, hT3, hown3⟩
                       have hfr3 := hO3.fr_cell))
                  all_goals
                    clear e9 e10 e11 hfr hfr2 hfr3
                    go_wp2_with fail
                    go_roundw
                    case rel => exact ⟨i + 1, A3, n3, c3, by omega, by go_num, by rw [Hst.out, ← List.append_assoc, HNX.out]; exact hO3, hT3, hown3⟩
                    case measure => simp [intOf]; omega
          · rw [decide_eq_false hsf] at hsuf
            have Hsuf := Lib.hid hsuf
            have Hb := Lib.hid (show (decide (s = []) || decide (s.drop (s.length + 1 - k) = x.take (k - 1))) = false by rw [decide_eq_false hsf, decide_eq_false hsn]; rfl)
            have Hsn := Lib.hid hsn
            clear hsf hsn hsuf
            rcases Nat.eq_zero_or_pos i with hi0 | hi0
            · have hd0 : decide (0 < i) = false := by simp [hi0]
              have hd1 : decide ((0 : Int) < (i : Int)) = false := by simp [hi0]
              have hd2 : ¬ (0 < i) := by omega
              have Hg := Lib.hid (goes0 (k := k) (s := s) hx hi0 Hb.out)
              have Hx := Lib.hid hx
              clear hx hi0
              have Hst := Lib.hid (tx_skip (f := f) Hg.out)
              go_wp2_with fail
              refine (HasSuffixT_any (by omega) Hsuf.out).mono ?_
              rintro e wr ⟨rfl, rfl⟩
              go_wp2_with fail
              go_roundw
              case rel => exact ⟨i + 1, A', n', c', by omega, by go_num, by rw [Hst.out]; exact HO.out, HT.out, Hown.out⟩
              case measure => simp [intOf]; omega
            · obtain ⟨m, hm1⟩ : ∃ m, m + 1 = i := ⟨i - 1, by omega⟩
              obtain ⟨y, hy, hcy⟩ := hrr.str_at (show m < n by omega)
              rw [Nat.zero_add] at hcy
              have hd0 : decide (0 < i) = true := by simp [hi0]
              have hd1 : decide ((0 : Int) < (i : Int)) = true := by simp [hi0]
              have e1 : IntKind.i64.wrap ((i : Int) - 1) = (m : Int) := by rw [IntKind.wrap_i64]; omega
              have e2 : (i : Int) - 1 = (m : Int) := by omega
              have e3 : IntKind.i64.wrap (m : Int) = (m : Int) := by rw [IntKind.wrap_i64]; omega
              have b1 : (m : Int) < (n : Int) := by omega
              have b0 : (0 : Int) ≤ (m : Int) := by omega
              by_cases hxy : x = y
              · have hee : (x == y) = true := by simp [hxy]
                have Hg := Lib.hid (goes2 (k := k) (s := s) hx hy hm1 hxy)
                have Hx := Lib.hid hx
                clear hx hy hm1 hxy
                have Hst := Lib.hid (tx_skip (f := f) Hg.out)
                go_wp2_with fail
                go_roundw
                case rel => exact ⟨i + 1, A', n', c', by omega, by go_num, by rw [Hst.out]; exact HO.out, HT.out, Hown.out⟩
                case measure => simp [intOf]; omega
              · have hee : (x == y) = false := by simp [hxy]
                have Hg := Lib.hid (goes1 (k := k) (s := s) hx hy hm1 hxy Hb.out)
                have Hx := Lib.hid hx
                clear hx hy hm1 hxy
                have Hst := Lib.hid (tx_skip (f := f) Hg.out)
                go_wp2_with fail
                refine (HasSuffixT_any (by omega) Hsuf.out).mono ?_
                rintro e wr ⟨rfl, rfl⟩
                go_wp2_with fail
                go_roundw
                case rel => exact ⟨i + 1, A', n', c', by omega, by go_num, by rw [Hst.out]; exact HO.out, HT.out, Hown.out⟩
                case measure => simp [intOf]; omega
      · obtain rfl : i = n := by omega
        have Hfin := Lib.hid (show txs k (f + 1) s left = txsTo k f s left i by rw [txs_succ, Hlen.out, Hnl.out])
        go_wp2_with fail
        go_end0
        exact ⟨rfl, A', n', c', by rw [Hfin.out]; exact HO.out, HT.out, Hown.out⟩
end Go.Proofs.Ytfbmcfdmffpfmaa
