/-
  The greedy way: of the reference.
-/
import Derived.Test.YtfppbfhlmbakoaaGreedy
import Derived.Test.YtfppbfhlmbakoaaShort3
import Derived.Laws.AppendOwnNone
namespace Go.Proofs.Ytfppbfhlmbakoaa
open Go.RowKit Go.Sort
set_option linter.unusedVariables false
set_option linter.unusedSimpArgs false

theorem wpList_app0 {P : Program} (w : World) {ops : Array Oper} {rest : List Oper} {o : Oper} {a : Act} {Q : Exit → Act → World → Prop} (hgd : o.guard = none) (s x : Operand) (t : TypeId)
    (ho : o.op = .call { callee := .builtin .append, args := #[s, x], argTypes := #[t, t] })
    (B : Nat) (e : TypeId) (i : TypeInfo) (z : Value) (bytes : Nat) (ht : P.underlying t = some (.slice e)) (hi : P.info? e = some i) (hz : i.zero = some z)
    (hsize : i.size = 1) (hby : i.bytes = bytes) (hzs : z.cells.size = 1)
    (A : Option Addr) (n c : Nat) (xs : List Value) (hs : a.eval s = .slice A n c) (hown : Row w B e A n c xs)
    (A2 : Option Addr) (m cm : Nat) (news : List Value) (hx : a.eval x = .slice A2 m cm) (hA : A2 = none → m = 0 ∧ cm = 0) (hl : news.length = m) (hnews : ∀ ad, A2 = some ad → ∀ j u, news[j]? = some u → w.cell? (ad.add j) = some u) (h1 : ∀ u ∈ news, u.oneCell' = true)
    (k : Nat) (hk : n + m = k) (hn : k ≤ 4398046511104) (hbytes : bytes ≤ 32) (hbase : B ≤ w.heap.size)
    (h : ∀ A' c' w', Row w' B e A' k c' (xs ++ news) → w.grownBy w' (Value.slice A n c).ownBlock → wpList P ops Q rest (a.put o.dst (.slice A' k c')) w') : wpList P ops Q (o :: rest) a w := by
  cases A2 with
  | some ad => exact wpList_appN w hgd s x t ho B e i z bytes ht hi hz hsize hby hzs A n c xs hs hown ad m cm news hx hl (hnews ad rfl) h1 k hk hn hbytes hbase (fun A' c' w' a1 a2 _ => h A' c' w' a1 a2)
  | none =>
    obtain ⟨rfl, rfl⟩ := hA rfl
    obtain rfl := List.eq_nil_of_length_eq_zero hl
    subst hk
    refine wpList_append_own_none hgd s x t ho B e i 1 ht hi _ n xs hs hown hx ?_
    exact h A c w (by simpa using hown) ⟨rfl, rfl, rfl, Nat.le_refl _, fun _ _ _ => rfl⟩
theorem oneSs (zs : List (List UInt8)) : ∀ u ∈ zs.map S, u.oneCell' = true := by
  intro u hu
  obtain ⟨z, _, rfl⟩ := List.mem_map.1 hu
  rfl
theorem rd_news0 {w : World} {B : Nat} {A : Option Addr} {m c : Nat} {xs : List Value} (h : Rd w B A m c xs) : ∀ ad, A = some ad → ∀ j u, xs[j]? = some u → w.cell? (ad.add j) = some u := by
  rintro ad rfl j u hu
  have hj : j < m := by
    have := (List.getElem?_eq_some_iff.1 hu).1
    rw [h.1] at this
    exact this
  obtain ⟨b, o, e, _, hc⟩ := h.2.2.2 (by omega)
  injection e with e
  subst e
  have := hc j u hu
  unfold Addr.add
  split
  · next h0 => have h0 : j = 0 := by simpa using h0
               subst h0; exact this
  · exact this
def RowRet (w : World) (xs : List Value) (e : Ending) (w' : World) : Prop :=
  ∃ A n c, e = .returned (.slice A n c) ∧ Row w' w.heap.size 9 A n c xs ∧ Below w.heap.size w w'
theorem row_none {w : World} {B : Nat} {e : TypeId} {A : Option Addr} {n c : Nat} {xs : List Value} (h : Row w B e A n c xs) : A = none → n = 0 ∧ c = 0 := by
  rintro rfl
  obtain ⟨_, ⟨hv, h0⟩ | ⟨g, cap, cur, hv, _⟩⟩ := h
  · injection hv with ha hb hc
    exact ⟨hb, hc⟩
  · injection hv with ha
    cases ha
set_option maxHeartbeats 800000 in
theorem reduceR_any (A : Option Addr) (n c : Nat) (ws : List (List UInt8)) (w : World) (hr : Rd w w.heap.size A n c (ws.map S)) (hl : Len47 ws) (hn6 : n ≤ 1000) :
    Calls Try.prog 35 #[.slice A n c] w (RowRet w ((red ws).map S)) := by
  have hm := hr.2.2.1
  have hnc := hr.2.1
  have hn := hr.slen
  have Hn := Lib.hid hn
  clear hn
  unfold maxLen at hm
  obtain ⟨i0, hi, hz0, hz1, hz2⟩ := info_parts Try.infoS
  go_enter Try.func35, Try.ntmps35
  go_wp2
  go_loopw [3, 4] (fun v i wr => ∃ (k : Nat) (A' : Option Addr) (n' c' : Nat), k ≤ n ∧ i = .int .i64 k ∧ v = .slice A' n' c' ∧ Row wr w.heap.size 9 A' n' c' ((redTo ws k).map S) ∧ Below w.heap.size w wr) (fun _ i _ => n - (intOf i).toNat)
  case atStart =>
    refine ⟨0, some ⟨w.heap.size, 0, none⟩, 0, 0, Nat.zero_le _, rfl, rfl, ?_, ?_⟩
    · exact Row.nil_ w 9
    · exact (Below.refl _ _).alloc (Nat.le_refl _) _
  case round =>
    obtain ⟨i, A', n', c', hk, rfl, rfl, hown, hbw⟩ := hrel
    by_cases hlt : i < n
    · obtain ⟨b, o, x, rfl, hb, hx, hc⟩ := (hr.below hbw).str hlt
      have hxl := hl.at_ hx
      have Hx := Lib.hid hx
      clear hx
      go_wp2
      obtain ⟨wo, rfl⟩ : ∃ wo : World, wo = wr := ⟨_, rfl⟩
      go_loopw [5, 6] (fun v k wr => ∃ (j : Nat), j ≤ n ∧ k = .int .i64 j ∧ v = .bool (!dropTo ws i x j) ∧ Quiet wo wr) (fun _ i _ => n - (intOf i).toNat)
      case atStart => exact ⟨0, Nat.zero_le _, rfl, rfl, Quiet.refl _⟩
      case round =>
        obtain ⟨j, hj, rfl, rfl, hqw⟩ := hrel
        by_cases hjn : j < n
        · obtain ⟨v, hv, hcv⟩ := (hqw.rd (hr.below hbw)).str_at hjn
          obtain ⟨x', hx', hcx⟩ := (hqw.rd (hr.below hbw)).str_at hlt
          rw [Hx.out] at hx'
          injection hx' with hx'
          subst hx'
          clear hc
          have hvl := hl.at_ hv
          have Hd := Lib.hid (dropTo_succ (i := i) (x := x) hv)
          have Hv := Lib.hid hv
          clear hv
          have hjn' : (j : Int) < (n : Int) := by omega
          have hin' : (i : Int) < (n : Int) := by omega
          by_cases h1 : j = i
          · have h1' : ((j : Int) != (i : Int)) = false := by simp [h1]
            have HH := Lib.hid (show hit i x j v = false by unfold hit; simp [h1])
            clear h1
            go_wp2_with fail
            go_quiet (fail)
            go_wp2
            go_roundw
            case rel => exact ⟨j + 1, by omega, by go_num, by rw [Hd.out, HH.out, Bool.or_false], hqw.drewN _⟩
            case measure => simp [intOf]; omega
          · have h1' : ((j : Int) != (i : Int)) = true := by simp; omega
            cases h2 : hasL v x with
            | false =>
              have HH := Lib.hid (show hit i x j v = false by unfold hit; rw [h2]; simp)
              have H2 := Lib.hid h2
              clear h2 h1
              go_wp2_with fail
              go_quiet ((go_at_call 64; exact Calls.quiet_of_same (has_q hvl hxl H2.out)))
              go_wp2
              go_roundw
              case rel => exact ⟨j + 1, by omega, by go_num, by rw [Hd.out, HH.out, Bool.or_false], hqw.drewN _⟩
              case measure => simp [intOf]; omega
            | true =>
              have H2 := Lib.hid h2
              clear h2
              by_cases h3 : v = x
              · have h3' : (v == x) = true := by simp [h3]
                by_cases h4 : j < i
                · have h4' : decide ((j : Int) < (i : Int)) = true := by simp; omega
                  have HH := Lib.hid (show hit i x j v = true by unfold hit; rw [H2.out]; simp; omega)
                  clear h3 h1
                  go_wp2_with fail
                  go_quiet ((go_at_call 64; exact Calls.quiet_of_same (has_q hvl hxl H2.out)))
                  go_wp2
                  go_roundw
                  case rel => exact ⟨j + 1, by omega, by go_num, by rw [Hd.out, HH.out, Bool.or_true]; rfl, hqw.drewN _⟩
                  case measure => simp [intOf]; omega
                · have h4' : decide ((j : Int) < (i : Int)) = false := by simp; omega
                  have HH := Lib.hid (show hit i x j v = false by unfold hit; rw [H2.out]; simp [h3]; omega)
                  clear h3 h1
                  go_wp2_with fail
                  go_quiet ((go_at_call 64; exact Calls.quiet_of_same (has_q hvl hxl H2.out)))
                  go_wp2
                  go_roundw
                  case rel => exact ⟨j + 1, by omega, by go_num, by rw [Hd.out, HH.out, Bool.or_false], hqw.drewN _⟩
                  case measure => simp [intOf]; omega
              · have h3' : (v == x) = false := by simp [h3]
                have HH := Lib.hid (show hit i x j v = true by unfold hit; rw [H2.out]; simp [h3]; omega)
                clear h3 h1
                go_wp2_with fail
                go_quiet ((go_at_call 64; exact Calls.quiet_of_same (has_q hvl hxl H2.out)))
                go_wp2
                go_roundw
                case rel => exact ⟨j + 1, by omega, by go_num, by rw [Hd.out, HH.out, Bool.or_true]; rfl, hqw.drewN _⟩
                case measure => simp [intOf]; omega
        · obtain rfl : j = n := by omega
          have Hr := Lib.hid (redTo_succ Hx.out)
          have hown' := hown.quiet hqw
          have hbw' : Below w.heap.size w wr := hbw.trans (hqw.bel _)
          have hsz := hbw'.size
          have hle := redTo_le ws i
          have hlen := hown.len
          simp at hlen
          have hn' : n' ≤ 4398046511104 := by omega
          have Hl := Lib.hid hlen
          clear hlen
          obtain ⟨x', hx', hcx⟩ := (hqw.rd (hr.below hbw)).str_at hlt
          rw [Hx.out] at hx'
          injection hx' with hx'
          subst hx'
          clear hc
          cases hd : dropTo ws i x j with
          | true =>
            have Hd := Lib.hid hd
            clear hd
            go_wp2
            go_roundw
            case rel => exact ⟨i + 1, A', n', c', by omega, by go_num, rfl, by rw [Hr.out, Hn.out, Hd.out]; exact hown', hbw'⟩
            case measure => simp [intOf]; omega
          | false =>
            have Hd := Lib.hid hd
            clear hd
            go_wp2_with (at_builtin; refine wpList_app1 _ rfl _ _ 22 rfl w.heap.size 9 i0 (.string ⟨#[]⟩) 16 Try.underlying22 hi hz0 hz1 hz2 rfl _ _ _ _ rfl (hown'.alloc _) _ (.string ⟨x.toArray⟩) rfl (cell_one_new _ _ _) rfl (by omega) (by omega) (by simp; omega) ?_; intro A2 c2 w2 hown2 hgrow2)
            go_roundw
            case rel => exact ⟨i + 1, A2, n' + 1, c2, by omega, by go_num, rfl, by rw [Hr.out, Hn.out, Hd.out]; simpa [S] using hown2, (hown'.alloc _).grown (hbw'.alloc hsz _) hgrow2 (Nat.le_refl _) (by simp; omega)⟩
            case measure => simp [intOf]; omega
    · obtain rfl : i = n := by omega
      go_wp2
      go_ret
      exact ⟨A', n', c', rfl, by unfold red; rw [Hn.out]; exact hown, hbw⟩
/-- Of V what stands ahead of t, without the one at hi. -/
def ers (V : List (List UInt8)) (hi t : Nat) : List (List UInt8) := (V.take t).eraseIdx hi
theorem ers_skip {V : List (List UInt8)} {hi : Nat} (h : hi < V.length) : ers V hi (hi + 1) = ers V hi hi := by
  unfold ers
  have e : (V.take hi).length = hi := by rw [List.length_take]; omega
  rw [List.take_succ_eq_append_getElem h, List.eraseIdx_append_of_length_le (by omega), List.eraseIdx_of_length_le (l := V.take hi) (by omega), e, Nat.sub_self]
  simp
theorem ers_step {V : List (List UInt8)} {hi t : Nat} {x : List UInt8} (hx : V[t]? = some x) (hne : t ≠ hi) : ers V hi (t + 1) = ers V hi t ++ [x] := by
  obtain ⟨ht, rfl⟩ := List.getElem?_eq_some_iff.1 hx
  unfold ers
  rw [List.take_succ_eq_append_getElem ht]
  rcases Nat.lt_or_gt_of_ne hne with h | h
  · rw [List.eraseIdx_of_length_le (by simp; omega), List.eraseIdx_of_length_le (by simp; omega)]
  · rw [List.eraseIdx_append_of_lt_length (by simp; omega)]
theorem ers_all (V : List (List UInt8)) (hi : Nat) : ers V hi V.length = V.eraseIdx hi := by
  unfold ers
  rw [List.take_length]
theorem ers_len (V : List (List UInt8)) (hi t : Nat) : (ers V hi t).length ≤ t := by
  unfold ers
  have := List.length_eraseIdx_le (V.take t) hi
  rw [List.length_take] at this
  omega
set_option maxRecDepth 100000 in
set_option maxHeartbeats 3200000 in
theorem specGreedy_any (A : Option Addr) (m c : Nat) (R : List (List UInt8)) (w : World) (hr : Rd w w.heap.size A m c (R.map S)) (hA : A = none → m = 0 ∧ c = 0) (hm6 : m ≤ 6) (hlt : ltr R ≤ 36) :
    Calls Try.prog 47 #[.slice A m c] w (RetVal w (.string ⟨(gTxt R).toArray⟩)) := by
  have hm := hr.slen
  have Hm := Lib.hid hm
  clear hm
  obtain ⟨i0, hi, hz0, hz1, hz2⟩ := info_parts Try.infoS
  go_enter Try.func47, Try.ntmps47
  go_wp2_with (at_builtin; refine wpList_app0 _ rfl _ _ 22 rfl w.heap.size 9 i0 (.string ⟨#[]⟩) 16 Try.underlying22 hi hz0 hz1 hz2 rfl _ 0 0 [] rfl (Row.nil_ w 9) A m c (R.map S) rfl hA hr.len (rd_news0 (hr.alloc (Nat.le_refl _) _)) (oneSs _) m (by omega) (by omega) (by omega) (by simp) ?_; intro A1 c1 w1 hrow1 hgrow1)
  have hbw1 : Below w.heap.size w w1 := kp_grown ((Below.refl _ w).alloc (Nat.le_refl _) _) (Nat.le_refl _) hgrow1 (own_ge (Nat.le_refl _))
  clear hgrow1
  go_wp2_with fail
  go_loopw [3] (fun v wr => ∃ (j k : Nat) (A' : Option Addr) (c' : Nat), j + k = m ∧ (j = 0 ∨ 1 ≤ k) ∧ v = .slice A' k c' ∧ Row wr w.heap.size 9 A' k c' ((gIt R j).map S) ∧ Below w.heap.size w wr) (fun v _ => match v with | .slice _ k _ => k | _ => 0)
  case atStart => exact ⟨0, m, A1, c1, by omega, .inl rfl, rfl, by simpa [gIt] using hrow1, hbw1⟩
  case round =>
    obtain ⟨j, k, A', c', hjk, hj1, rfl, hrow, hbw⟩ := hrel
    have hgl : (gIt R j).length = k := by have := hrow.own.1; simpa using this
    have hk6 : k ≤ 6 := by omega
    by_cases hk1 : k ≤ 1
    · have hk1' : ¬ ((k : Int) > 1) := by omega
      obtain ⟨hd, hhd⟩ : ∃ hd, hd = (gIt R j).headD [] := ⟨_, rfl⟩
      have Hg := Lib.hid (show gTxt R = hd by rw [hhd]; unfold gTxt; rw [Hm.out, show m - 1 = j by omega])
      rcases (show k = 0 ∨ k = 1 by omega) with rfl | rfl
      · have hd0 : hd = [] := by rw [hhd, List.eq_nil_of_length_eq_zero hgl]; rfl
        have Hd := Lib.hid hd0
        clear hrow hgl hhd hd0
        go_wp2_with fail
        go_ret
        exact ⟨by rw [Hg.out, Hd.out]; rfl, hbw⟩
      · obtain ⟨b, o, x, rfl, _, hx, hc⟩ := hrow.rd.str (show 0 < 1 by omega)
        have Hd := Lib.hid (show hd = x by
          rw [hhd]
          obtain ⟨y, hy⟩ := List.length_eq_one_iff.1 hgl
          rw [hy] at hx ⊢
          simp at hx
          exact hx)
        rw [Nat.add_zero] at hc
        clear hrow hgl hhd hx
        go_wp2_with fail
        go_ret
        exact ⟨by rw [Hg.out, Hd.out]; rfl, hbw⟩
    · have hk1' : (k : Int) > 1 := by omega
      have hUl : ∀ x ∈ gIt R j, x.length ≤ 36 := fun x hx => by
        have h1 := ltr_mem hx
        have h2 := gIt_ltr R j (by rw [Hm.out]; omega)
        omega
      obtain ⟨U, hU⟩ : ∃ U, U = gIt R j := ⟨_, rfl⟩
      rw [← hU] at hrow hgl hUl
      have HU := Lib.hid hU
      have Hgl := Lib.hid hgl
      obtain ⟨g, cur, rfl, hgB, hgh, hgt⟩ := hrow.own.2.2.2 (by omega)
      have hrd := hrow.rd
      have hm0 := hrow.own.2.2.1
      have hkc := hrow.own.2.1
      unfold maxLen at hm0
      clear hrow hgh hgt hU hgl
      obtain ⟨w2, rfl⟩ : ∃ w2 : World, w2 = wr := ⟨_, rfl⟩
      go_wp2_with fail
      go_loopw [4, 5, 6, 7] (fun p q r i wz => ∃ i' : Nat, i' ≤ k ∧ i = .int .i64 i' ∧ p = .int .i64 (gAll U i').1 ∧ q = .int .i64 (gAll U i').2.1 ∧ r = .int .i64 (gAll U i').2.2 ∧ Quiet w2 wz) (fun _ _ _ i _ => k - (intOf i).toNat)
      case atStart => exact ⟨0, Nat.zero_le _, rfl, rfl, rfl, rfl, Quiet.refl _⟩
      case round =>
        obtain ⟨i, hi', rfl, rfl, rfl, rfl, hq⟩ := hrel
        by_cases hin : i < k
        · have hin' : (i : Int) < (k : Int) := by omega
          have i0' : (0 : Int) ≤ (i : Int) := by omega
          obtain ⟨x, hx, hcx⟩ := hrd.str_at hin
          rw [Nat.zero_add] at hcx
          have hxl := hUl x (List.mem_of_getElem? hx)
          have Hx := Lib.hid hx
          clear hx
          go_wp2_with fail
          go_loopw [4, 5, 6, 8] (fun p q r i2 wz => ∃ i' : Nat, i' ≤ k ∧ i2 = .int .i64 i' ∧ p = .int .i64 (gRow U i (gAll U i) i').1 ∧ q = .int .i64 (gRow U i (gAll U i) i').2.1 ∧ r = .int .i64 (gRow U i (gAll U i) i').2.2 ∧ Quiet w2 wz) (fun _ _ _ i _ => k - (intOf i).toNat)
          case atStart => exact ⟨0, Nat.zero_le _, rfl, rfl, rfl, rfl, hq⟩
          case round =>
            clear hq
            obtain ⟨t, ht, rfl, rfl, rfl, rfl, hq⟩ := hrel
            by_cases htn : t < k
            · have htn' : (t : Int) < (k : Int) := by omega
              have t0' : (0 : Int) ≤ (t : Int) := by omega
              obtain ⟨y, hy, hcy⟩ := hrd.str_at htn
              rw [Nat.zero_add] at hcy
              have hcx' : wr.cell? ⟨g, i, none⟩ = some (.string ⟨x.toArray⟩) := by obtain ⟨qm, rfl⟩ := hq; exact hcx
              have hcy' : wr.cell? ⟨g, t, none⟩ = some (.string ⟨y.toArray⟩) := by obtain ⟨qm, rfl⟩ := hq; exact hcy
              have hyl := hUl y (List.mem_of_getElem? hy)
              have Hst := Lib.hid (gRow_at U i (gAll U i) Hx.out hy)
              obtain ⟨p, q, r, hpqr⟩ : ∃ p q r, gRow U i (gAll U i) t = (p, q, r) := ⟨_, _, _, rfl⟩
              rw [hpqr]
              have Hp := Lib.hid hpqr
              have hO : ∀ w, Calls Try.prog 62 #[.string ⟨x.toArray⟩, .string ⟨y.toArray⟩] w fun e w' => e = .returned (.int .i64 (ovl x y : Nat)) ∧ Quiet w w' := fun w => specOverlap_any x y w (by omega) (by omega)
              obtain ⟨o, ho⟩ : ∃ o, o = ovl x y := ⟨_, rfl⟩
              rw [← ho] at hO
              have Ho := Lib.hid ho
              clear hy hpqr ho
              by_cases hit : i = t
              · subst hit
                have Hs := Lib.hid (show gRow U i (gAll U i) (i + 1) = (p, q, r) by have := Hst.out; rw [if_neg (by simp), Hp.out] at this; exact this)
                go_wp2_with fail
                go_quiet ((go_at_call 62; exact Calls.quiet_of (hO _)))
                go_wp2_with fail
                go_roundw
                case rel => exact ⟨i + 1, by omega, by go_num, by rw [Hs.out], by rw [Hs.out], by rw [Hs.out], by repeat (first | exact hq | apply Quiet.drewN)⟩
                case measure => simp [intOf]; omega
              · have hit' : ((i : Int) != (t : Int)) = true := by simp; omega
                by_cases hor : (o : Int) > r
                · have Hs := Lib.hid (show gRow U i (gAll U i) (t + 1) = ((i : Int), (t : Int), (o : Int)) by have := Hst.out; rw [Hp.out, ← Ho.out, if_pos ⟨hit, hor⟩] at this; exact this)
                  go_wp2_with fail
                  go_quiet ((go_at_call 62; exact Calls.quiet_of (hO _)))
                  have hq3 : Quiet w2 (wr.drewN nq) := hq.drewN _
                  have hcx3 : (wr.drewN nq).cell? ⟨g, i, none⟩ = some (.string ⟨x.toArray⟩) := hcx'
                  have hcy3 : (wr.drewN nq).cell? ⟨g, t, none⟩ = some (.string ⟨y.toArray⟩) := hcy'
                  generalize wr.drewN nq = w3 at hq3 hcx3 hcy3 ⊢
                  clear hq
                  have hq := hq3
                  clear hq3
                  go_wp2_with fail
                  go_quiet ((go_at_call 62; exact Calls.quiet_of (hO _)))
                  go_wp2_with fail
                  go_roundw
                  case rel => exact ⟨t + 1, by omega, by go_num, by rw [Hs.out], by rw [Hs.out], by rw [Hs.out], by repeat (first | exact hq | apply Quiet.drewN)⟩
                  case measure => simp [intOf]; omega
                · have Hs := Lib.hid (show gRow U i (gAll U i) (t + 1) = (p, q, r) by have := Hst.out; rw [Hp.out, ← Ho.out, if_neg (fun h => hor h.2)] at this; exact this)
                  go_wp2_with fail
                  go_quiet ((go_at_call 62; exact Calls.quiet_of (hO _)))
                  go_wp2_with fail
                  go_roundw
                  case rel => exact ⟨t + 1, by omega, by go_num, by rw [Hs.out], by rw [Hs.out], by rw [Hs.out], by repeat (first | exact hq | apply Quiet.drewN)⟩
                  case measure => simp [intOf]; omega
            · have htn' : ¬ (t : Int) < (k : Int) := by omega
              obtain rfl : t = k := by omega
              have Hs := Lib.hid (show gAll U (i + 1) = gRow U i (gAll U i) t by rw [gAll, Hgl.out])
              go_wp2_with fail
              go_roundw
              case rel => exact ⟨i + 1, by omega, by go_num, by rw [Hs.out], by rw [Hs.out], by rw [Hs.out], by repeat (first | exact hq | apply Quiet.drewN)⟩
              case measure => simp [intOf]; omega
        · have hin' : ¬ (i : Int) < (k : Int) := by omega
          obtain rfl : i = k := by omega
          obtain ⟨hall, ha, hb, hne, _⟩ := gAll_two (ws := U) (by rw [Hgl.out]; omega)
          rw [Hgl.out] at hall ha hb
          rw [hall]
          have Hstep := Lib.hid (show gStep U = (U.set (min (gA U) (gB U)) (gMid U)).eraseIdx (max (gA U) (gB U)) from rfl)
          have Hslen := Lib.hid (gStep_len (ws := U) (by rw [Hgl.out]; omega))
          obtain ⟨x, hx, hcx⟩ := hrd.str_at ha
          obtain ⟨y, hy, hcy⟩ := hrd.str_at hb
          rw [Nat.zero_add] at hcx hcy
          have hox : ovl (wd U (gA U)) (wd U (gB U)) = ovl x y := by rw [wd_at hx, wd_at hy]
          have Hmid := Lib.hid (show gMid U = x ++ y.drop (ovl x y) by unfold gMid mrg; rw [wd_at hx, wd_at hy])
          have hxl := hUl x (List.mem_of_getElem? hx)
          have hyl := hUl y (List.mem_of_getElem? hy)
          have hoy := ovl_le_right x y
          rw [hox]
          obtain ⟨a, hA'⟩ : ∃ a, a = gA U := ⟨_, rfl⟩
          obtain ⟨b, hB⟩ : ∃ b, b = gB U := ⟨_, rfl⟩
          obtain ⟨o, hO⟩ : ∃ o, o = ovl x y := ⟨_, rfl⟩
          obtain ⟨M, hM⟩ : ∃ M, M = gMid U := ⟨_, rfl⟩
          rw [← hA', ← hB, ← hM] at Hstep
          rw [← hA', ← hB] at hne
          rw [← hO] at hoy Hmid ⊢
          rw [← hM] at Hmid
          rw [← hA'] at ha hx hcx ⊢
          rw [← hB] at hb hy hcy ⊢
          have hcx' : wr.cell? ⟨g, a, none⟩ = some (.string ⟨x.toArray⟩) := by obtain ⟨qm, rfl⟩ := hq; exact hcx
          have hcy' : wr.cell? ⟨g, b, none⟩ = some (.string ⟨y.toArray⟩) := by obtain ⟨qm, rfl⟩ := hq; exact hcy
          have hMl : M.length ≤ 72 := by rw [Hmid.out, List.length_append, List.length_drop]; omega
          have hadd : ∀ W : World, (Op.stringOp .add ⟨x.toArray⟩ ⟨(List.take (y.length - o) (List.drop o y)).toArray⟩).run Try.prog W = .ok (.string ⟨M.toArray⟩) W := fun W => by
            have h := run_string_add_sum (P := Try.prog) W ⟨x.toArray⟩ ⟨(List.take (y.length - o) (List.drop o y)).toArray⟩ (by show x.length + (List.take (y.length - o) (List.drop o y)).length ≤ _; rw [List.length_take, List.length_drop]; omega)
            rw [ba_append, take_rest, ← Hmid.out] at h
            rw [take_rest]
            exact h
          have a1 : (a : Int) < (i : Int) := by omega
          have a0 : (0 : Int) ≤ (a : Int) := by omega
          have b1 : (b : Int) < (i : Int) := by omega
          have b0 : (0 : Int) ≤ (b : Int) := by omega
          have o0 : (0 : Int) ≤ (o : Int) := by omega
          have o1 : (o : Int) ≤ (y.length : Int) := by omega
          obtain ⟨lo, hlo⟩ : ∃ lo, lo = min a b := ⟨_, rfl⟩
          obtain ⟨hi2, hhi⟩ : ∃ hi2, hi2 = max a b := ⟨_, rfl⟩
          rw [← hlo, ← hhi] at Hstep
          obtain ⟨V, hV⟩ : ∃ V, V = U.set lo M := ⟨_, rfl⟩
          rw [← hV] at Hstep
          have hVl : V.length = i := by rw [hV, List.length_set]; exact Hgl.out
          have hVlo : V[lo]? = some M := by rw [hV, List.getElem?_set_self (by rw [Hgl.out]; omega)]
          have hVne : ∀ q z, q ≠ lo → U[q]? = some z → V[q]? = some z := fun q z h1 h2 => by rw [hV, List.getElem?_set_ne (fun e => h1 e.symm)]; exact h2
          have HVl := Lib.hid hVl
          have HVlo := Lib.hid hVlo
          have HVne := Lib.hid hVne
          have Hlo := Lib.hid hlo
          have Hhi := Lib.hid hhi
          have e1 : min (a : Int) (b : Int) = (lo : Int) := by omega
          clear hx hy hO hA' hB hM hall hVl hVlo hVne hV hox hlo hhi hcx hcy
          go_wp2_with fail
          go_quiet (fail)
          have hq3 : Quiet w2 (wr.drewN nq) := hq.drewN _
          generalize wr.drewN nq = w5 at hq3 ⊢
          have hrd5 : Rd w5 w5.heap.size (some ⟨g, 0, none⟩) i c' (U.map S) := by obtain ⟨qm, rfl⟩ := hq3; exact hrd
          have hbw5 : Below w.heap.size w w5 := by obtain ⟨qm, rfl⟩ := hq3; exact bel_drewN hbw _
          clear hadd hcx' hcy' hq hq3 a0 a1 b0 b1 o0 o1 hrd hbw
          go_wp2_with fail
          go_loopw [10, 11] (fun v t wz => ∃ (t' n4 : Nat) (A4 : Option Addr) (c4 : Nat), t' ≤ i ∧ t = .int .i64 t' ∧ v = .slice A4 n4 c4 ∧ Row wz w5.heap.size 9 A4 n4 c4 ((ers V hi2 t').map S) ∧ Below w5.heap.size w5 wz) (fun _ t _ => i - (intOf t).toNat)
          case atStart => exact ⟨0, 0, some ⟨w5.heap.size, 0, none⟩, 0, Nat.zero_le _, rfl, rfl, Row.nil_ w5 9, (Below.refl _ _).alloc (Nat.le_refl _) _⟩
          case round =>
            obtain ⟨t, n4, A4, c4, ht, rfl, rfl, hrow4, hbw4⟩ := hrel
            have hn4 : n4 ≤ t := by
              have h1 := hrow4.len
              have h2 := ers_len V hi2 t
              simp at h1
              omega
            have hsz := hbw4.size
            by_cases htn : t < i
            · have htn' : (t : Int) < (i : Int) := by omega
              have t0' : (0 : Int) ≤ (t : Int) := by omega
              by_cases htl : t = lo
              · have Hs := Lib.hid (show ers V hi2 (t + 1) = ers V hi2 t ++ [M] from ers_step (by rw [htl]; exact HVlo.out) (by have := Hlo.out; have := Hhi.out; omega))
                have e2 : ((t : Int) == (lo : Int)) = true := by simp; omega
                go_wp2_with (at_builtin; refine wpList_app1 _ rfl _ _ 22 rfl w5.heap.size 9 i0 (.string ⟨#[]⟩) 16 Try.underlying22 hi hz0 hz1 hz2 rfl _ _ _ _ rfl (hrow4.alloc _) _ (.string ⟨M.toArray⟩) rfl (cell_one_new _ _ _) rfl (by omega) (by omega) (by simp; omega) ?_; intro A5 c5 w6 hrow6 hgrow6)
                have hbw6 : Below w5.heap.size w5 w6 := kp_grown (kp_alloc _ hbw4 (Nat.le_refl _)) (Nat.le_refl _) hgrow6 (row_ge hrow4)
                clear hgrow6
                go_wp2_with fail
                go_roundw
                case rel => exact ⟨t + 1, n4 + 1, A5, c5, by omega, by go_num, rfl, by rw [Hs.out, List.map_append]; exact hrow6, hbw6⟩
                case measure => simp [intOf]; omega
              · have e2 : ((t : Int) == (lo : Int)) = false := by simp; omega
                by_cases hta : t = a
                · have Hs := Lib.hid (show ers V hi2 (t + 1) = ers V hi2 t by
                    have h1 : t = hi2 := by have := Hlo.out; have := Hhi.out; omega
                    rw [h1]
                    exact ers_skip (by rw [HVl.out]; omega))
                  have e3 : ((t : Int) != (a : Int)) = false := by simp; omega
                  go_wp2_with fail
                  go_roundw
                  case rel => exact ⟨t + 1, n4, A4, c4, by omega, by go_num, rfl, by rw [Hs.out]; exact hrow4, hbw4⟩
                  case measure => simp [intOf]; omega
                · have e3 : ((t : Int) != (a : Int)) = true := by simp; omega
                  by_cases htb : t = b
                  · have Hs := Lib.hid (show ers V hi2 (t + 1) = ers V hi2 t by
                      have h1 : t = hi2 := by have := Hlo.out; have := Hhi.out; omega
                      rw [h1]
                      exact ers_skip (by rw [HVl.out]; omega))
                    have e4 : ((t : Int) != (b : Int)) = false := by simp; omega
                    go_wp2_with fail
                    go_roundw
                    case rel => exact ⟨t + 1, n4, A4, c4, by omega, by go_num, rfl, by rw [Hs.out]; exact hrow4, hbw4⟩
                    case measure => simp [intOf]; omega
                  · have e4 : ((t : Int) != (b : Int)) = true := by simp; omega
                    obtain ⟨z, hz, hcz⟩ := (hrd5.below hbw4).str_at htn
                    rw [Nat.zero_add] at hcz
                    have Hs := Lib.hid (show ers V hi2 (t + 1) = ers V hi2 t ++ [z] from ers_step (HVne.out t z htl hz) (by have := Hlo.out; have := Hhi.out; omega))
                    clear hz
                    go_wp2_with (at_builtin; refine wpList_app1 _ rfl _ _ 22 rfl w5.heap.size 9 i0 (.string ⟨#[]⟩) 16 Try.underlying22 hi hz0 hz1 hz2 rfl _ _ _ _ rfl (hrow4.alloc _) _ (.string ⟨z.toArray⟩) rfl (cell_one_new _ _ _) rfl (by omega) (by omega) (by simp; omega) ?_; intro A5 c5 w6 hrow6 hgrow6)
                    have hbw6 : Below w5.heap.size w5 w6 := kp_grown (kp_alloc _ hbw4 (Nat.le_refl _)) (Nat.le_refl _) hgrow6 (row_ge hrow4)
                    clear hgrow6
                    go_wp2_with fail
                    go_roundw
                    case rel => exact ⟨t + 1, n4 + 1, A5, c5, by omega, by go_num, rfl, by rw [Hs.out, List.map_append]; exact hrow6, hbw6⟩
                    case measure => simp [intOf]; omega
            · have htn' : ¬ (t : Int) < (i : Int) := by omega
              obtain rfl : t = i := by omega
              have Hs := Lib.hid (show ers V hi2 t = gIt R (j + 1) by
                have h1 := ers_all V hi2
                rw [HVl.out] at h1
                rw [h1, gIt, ← HU.out, Hstep.out])
              have hn5 : n4 + 1 = t := by
                have h1 := hrow4.len
                have h2 := Hslen.out
                rw [HU.out] at h2
                rw [Hs.out, gIt] at h1
                rw [List.length_map] at h1
                rw [Hgl.out.symm, HU.out]
                omega
              have hbw6 : Below w.heap.size w _ := hbw5.trans (hbw4.mono hbw5.size)
              go_wp2_with fail
              go_roundw
              case rel => exact ⟨j + 1, n4, A4, c4, by omega, .inr (by omega), rfl, by rw [← Hs.out]; exact hrow4.more hbw5.size, hbw6⟩
              case measure => simp; omega
theorem ltr_le6 {l : List (List UInt8)} (h : ∀ x ∈ l, x.length ≤ 6) : ltr l ≤ 6 * l.length := by
  induction l with
  | nil => simp [ltr]
  | cons a l ih =>
    have h1 := ih (fun x hx => h x (by simp [hx]))
    have := h a (by simp)
    rw [ltr_cons, List.length_cons]
    omega
set_option maxHeartbeats 1600000 in
theorem specGreedySuper_any (A : Option Addr) (n c : Nat) (ws : List (List UInt8)) (w : World) (hr : Rd w w.heap.size A n c (ws.map S)) (hl : Len47 ws) :
    Calls Try.prog 21 #[.slice A n c] w (RetTwo w (GST ws) (vw ws)) := by
  have Hn := Lib.hid hr.slen
  cases hv : vw ws with
  | false =>
    have Hv := Lib.hid (show GST ws = [] by unfold GST; rw [hv]; rfl)
    have HV := Lib.hid hv
    clear hv
    go_enter Try.func21, Try.ntmps21
    go_wp2_with fail
    refine (validWords_any A n c ws w _ hr hl).mono ?_
    rintro e w1 ⟨rfl, rfl⟩
    rw [HV.out]
    go_wp2_with fail
    go_ret2
    rw [Hv.out]
    exact ⟨rfl, Below.refl _ _⟩
  | true =>
    have h6 := vw_len hv
    rw [Hn.out] at h6
    have Hv := Lib.hid (show GST ws = gTxt (red ws) by unfold GST; rw [hv]; rfl)
    have h36 : ltr (red ws) ≤ 36 := by
      have h1 := ltr_le6 (l := red ws) (fun x hx => (wOk_len (vw_all' hv x (red_mem hx))).2)
      have h2 := redTo_le ws ws.length
      have h3 := Hn.out
      unfold red at h1 ⊢
      omega
    have HV := Lib.hid hv
    clear hv
    go_enter Try.func21, Try.ntmps21
    go_wp2_with fail
    refine (validWords_any A n c ws w _ hr hl).mono ?_
    rintro e w1 ⟨rfl, rfl⟩
    rw [HV.out]
    go_wp2_with fail
    refine (reduceR_any A n c ws _ hr hl (by omega)).mono ?_
    rintro e w2 ⟨A2, m, c2, rfl, hrow, hb⟩
    have hm6 : m ≤ 6 := by
      have h1 := hrow.len
      rw [List.length_map] at h1
      rw [← h1]
      have := redTo_le ws ws.length
      unfold red
      have := Hn.out
      omega
    go_wp2_with fail
    refine (specGreedy_any A2 m c2 (red ws) _ hrow.rd (row_none hrow) hm6 h36).mono ?_
    rintro e w3 ⟨rfl, hb3⟩
    go_wp2_with fail
    go_ret2
    rw [Hv.out]
    exact ⟨rfl, hb.trans (hb3.mono hb.size)⟩
end Go.Proofs.Ytfppbfhlmbakoaa
