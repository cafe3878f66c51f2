/-
  A region that draws its order in a round of a range over a function: what is shown of it in the plain calculus holds there, too.
-/
import Derived.Test.YtfbmcfdmffpfmaaRegn
import Derived.RangeFuncNested
import Derived.RangeFuncBound
import Derived.RangeFuncCalls
import Derived.RangeFuncLeaves
import Derived.Shelf.Abstract
import Derived.Shelf.RegionOpen
import Derived.OwnWalkIn
import Derived.TacticsInMore
import Derived.LoopNIn
import Derived.LoopIn
namespace Go.Proofs.Ytfbmcfdmffpfmaa
open Go.RowKit
set_option linter.unusedVariables false
set_option linter.unusedSimpArgs false

section
variable {n : Nat} {P : Program} {ops : Array Oper} {Q : Exit → Act → World → Prop} {md : Region.Mode} {l : Nat}
theorem rows_wide {row : String} {args : Array Value} {w : World} {R : Value → World → Prop} (h : Rows P row args w R) : RowsIn (Fence.wide.inRound l) n P row args w R := by
  intro c cs _
  obtain ⟨v, w', hr, hs⟩ := h c cs
  exact ⟨v, w', hr, stepsIn_wide.2 hs⟩
theorem oper_round {o : Oper} {a : Act} {w : World} {K : Act → World → Prop} (hd : ∀ c, o.op ≠ .defer c) (hL : ¬ LetsOut Q) (h : o.wp P a w K Q) : o.wpIn (Fence.wide.inRound l) n P a w K Q := by
  refine ⟨fun _ _ => trivial, ?_⟩
  unfold Oper.wp at h
  rw [show (Fence.wide.inRound l).round = some l from rfl, Oper.semAt_some l _ _ hd]
  generalize (execOp a.eval o).run P w = r at *
  cases r with
  | ok x w' =>
    cases x <;> simp only [Oper.upon, Oper.uponIn] at h ⊢
    case value v => exact h
    case skip => exact h
    case defer d => exact h
    case enter f args => exact ⟨fun e => (by cases e), CallsIn.inRound l (callsIn_wide.2 h)⟩
    case row row args => exact ⟨fun e => (by cases e), rows_wide h⟩
  | halt x w' => cases x <;> simp only [Oper.upon, Oper.uponIn] at h ⊢ <;> exact h
theorem op_round {i : Nat} {a : Act} {w : World} {K : Act → World → Prop} (hd : ∀ (j : Nat) (o : Oper) c, ops[j]? = some o → o.op ≠ .defer c) (hL : ¬ LetsOut Q) (h : wpOp P ops Q i K a w) : wpOpIn (Fence.wide.inRound l) n P ops Q i K a w := by
  unfold wpOp at h
  unfold wpOpIn
  cases ho : ops[i]? with
  | none => simpa [ho] using h
  | some o =>
    simp only [ho] at h ⊢
    split
    · next hw =>
      simp only [hw, if_true] at h
      rcases h with h | ⟨_, h⟩
      · exact oper_round (fun c => hd i o c ho) hL h
      · exact absurd h hL
    · next hw =>
      simp only [hw] at h
      exact ⟨fun _ _ => trivial, h⟩
theorem any_round (hd : ∀ (j : Nat) (o : Oper) c, ops[j]? = some o → o.op ≠ .defer c) (hL : ¬ LetsOut Q) : ∀ (fuel : Nat) (listed : Array Bool) (a : Act) (w : World), wpAny P md ops Q fuel listed a w → wpAnyIn (Fence.wide.inRound l) n P md ops Q fuel listed a w := by
  intro fuel
  induction fuel with
  | zero => exact fun _ _ _ h => h
  | succ fuel ih =>
    intro listed a w h
    exact ⟨h.1, fun i hi => op_round hd hL (wpOp_mono (fun a' w' h' => ih _ a' w' h') (h.2 i hi))⟩
/-- No operation is a 'defer' statement. -/
def noDefer (ops : Array Oper) : Bool := ops.all fun o => match o.op with | .defer _ => false | _ => true
theorem noDefer_spec (h : noDefer ops = true) : ∀ (j : Nat) (o : Oper) c, ops[j]? = some o → o.op ≠ .defer c := by
  intro j o c ho he
  unfold noDefer at h
  rw [Array.all_eq_true] at h
  obtain ⟨hj, rfl⟩ := Array.getElem?_eq_some_iff.1 ho
  have := h j hj
  rw [he] at this
  cases this
/-- Whatever order comes: S holds behind each operation that is carried out, but for the one numbered fin. -/
def anyT (P : Program) (md : Region.Mode) (ops : Array Oper) (Q : Exit → Act → World → Prop) (S : World → Prop) (fin : Nat) : Nat → Array Bool → Act → World → Prop
  | 0, listed, a, w => Region.ready md ops listed = [] ∧ Q .normal a w
  | fuel + 1, listed, a, w => (Region.ready md ops listed = [] → Q .normal a w) ∧
    ∀ i ∈ Region.ready md ops listed, wpOp P ops Q i (fun a' w' => (i ≠ fin → S w') ∧ anyT P md ops Q S fin fuel (listed.setIfInBounds i true) a' w') a w
theorem any_of_T {S : World → Prop} {fin : Nat} : ∀ (fuel : Nat) (listed : Array Bool) (a : Act) (w : World), anyT P md ops Q S fin fuel listed a w → wpAny P md ops Q fuel listed a w := by
  intro fuel
  induction fuel with
  | zero => exact fun _ _ _ h => h
  | succ fuel ih => exact fun listed a w h => ⟨h.1, fun i hi => wpOp_mono (fun a' w' h' => ih _ a' w' h'.2) (h.2 i hi)⟩
/-- fin waits for i. -/
def waits (md : Region.Mode) (ops : Array Oper) (fin i : Nat) : Bool := match ops[fin]? with
  | none => false
  | some o => o.after.any fun e => Region.binds md e && e.on == i
theorem waits_spec {fin i : Nat} {listed : Array Bool} (h : waits md ops fin i = true) (hr : fin ∈ Region.ready md ops listed) : listed.getD i false = true := by
  obtain ⟨_, oj, hoj, hall⟩ := mem_ready.1 hr
  unfold waits at h
  rw [hoj] at h
  simp only [Array.any_eq_true, Bool.and_eq_true, beq_iff_eq] at h
  obtain ⟨j, hj, hb, he⟩ := h
  have := hall _ (Array.getElem_mem hj) hb
  rwa [he] at this
theorem anyT_first {S : World → Prop} {fin i : Nat} {oi : Oper} {v : Value} (hi : ops[i]? = some oi) (hsel : ∀ (j : Nat) (o : Oper) cs b, ops[j]? = some o → o.op ≠ .select cs b)
    (hQ : ∀ c a w, Q (.panic c) (a.put oi.dst v) w → Q (.panic c) a w) (hw : waits md ops fin i = true) :
    ∀ (fuel : Nat) (listed : Array Bool) (a : Act) (w : World),
      (∀ j oj, ops[j]? = some oj → j ≠ i → listed.getD j true = false → (∀ e ∈ oj.after, Region.binds md e = true → e.on ≠ i) → oi.apart ops oj = true) →
      i ∈ Region.ready md ops listed → YieldsIf P ops S oi v a → S w →
      anyT P md ops Q S fin fuel (listed.setIfInBounds i true) (a.put oi.dst v) w → anyT P md ops Q S fin (fuel + 1) listed a w := by
  intro fuel
  induction fuel with
  | zero =>
    intro listed a w _ hr hy hS H
    refine ⟨fun h => (by rw [h] at hr; cases hr), fun j hj => ?_⟩
    by_cases hji : j = i
    · subst hji
      exact hy.wpOp hi hS ⟨fun _ => hS, H⟩
    · have := ready_mono hj hji
      rw [H.1] at this
      cases this
  | succ fuel ih =>
    intro listed a w hfree hr hy hS H
    refine ⟨fun h => (by rw [h] at hr; cases hr), fun j hj => ?_⟩
    by_cases hji : j = i
    · subst hji
      exact hy.wpOp hi hS ⟨fun _ => hS, H⟩
    · have h1 := H.2 j (ready_mono hj hji)
      obtain ⟨hjun, oj, hoj, hall⟩ := mem_ready.1 hj
      have hun := (mem_ready.1 hr).1
      have hlt : i < listed.size := by
        rcases Nat.lt_or_ge i listed.size with h' | h'
        · exact h'
        · simp [Array.getElem?_eq_none h'] at hun
      have hgi : listed.getD i false = false := by
        simp [hlt] at hun ⊢
        exact hun
      have hnot : ∀ e ∈ oj.after, Region.binds md e = true → e.on ≠ i := fun e he hb heq => by
        have h2 := hall e he hb
        rw [heq, hgi] at h2
        cases h2
      have hjf : j ≠ fin := fun he => by
        subst he
        have := waits_spec hw hj
        rw [hgi] at this
        cases this
      have h2 := wpOp_putIf hoj (hfree j oj hoj hji hjun hnot) (fun cs b => hsel i oi cs b hi) (fun cs b => hsel j oj cs b hoj) hQ hy h1
      have hfree' : ∀ k ok, ops[k]? = some ok → k ≠ i → (listed.setIfInBounds j true).getD k true = false →
          (∀ e ∈ ok.after, Region.binds md e = true → e.on ≠ i) → oi.apart ops ok = true := fun k ok hk hki hun hno => by
        refine hfree k ok hk hki ?_ hno
        by_cases hjk : j = k
        · subst hjk
          exact hjun
        · rw [getD_set_ne true hjk] at hun
          exact hun
      refine wpOp_mono (fun a' w' h3 => ⟨fun _ => h3.2.1 hjf, ih (listed.setIfInBounds j true) a' w' hfree' (ready_mono hr (Ne.symm hji)) h3.1 (h3.2.1 hjf) ?_⟩) h2
      rw [Array.setIfInBounds_comm _ _ hji]
      exact h3.2.2
/-- The region, in a round. -/
theorem region_round {id : Nat} {a : Act} {w : World} {ls : List Oper} (S : World → Prop) (fin : Nat) (hm : P.follows .mixedOrders = true) (hd : noDefer ls.toArray = true) (hL : ¬ LetsOut Q)
    (h : anyT P .any ls.toArray Q S fin ls.length (Array.replicate ls.length false) a w.drew) : (Code.region id ls.toArray true).wpIn (Fence.wide.inRound l) n P Q a w := by
  refine wpIn_region_any hm (any_round (noDefer_spec hd) hL _ _ _ _ (any_of_T (S := S) (fin := fin) _ _ _ _ ?_))
  simpa using h
/-- The same outside of a round. -/
theorem region_plain {id : Nat} {a : Act} {w : World} {ls : List Oper} (S : World → Prop) (fin : Nat) (hm : P.follows .mixedOrders = true)
    (h : anyT P .any ls.toArray Q S fin ls.length (Array.replicate ls.length false) a w.drew) : (Code.region id ls.toArray true).wp P Q a w := by
  refine wp_region_any hm (any_of_T (S := S) (fin := fin) _ _ _ _ ?_)
  simpa using h
/-- An operation that yields its value in every world that meets S, taken first. -/
theorem take_T {S : World → Prop} {fin : Nat} (i : Nat) {oi : Oper} (v : Value) {fuel : Nat} {listed : Array Bool} (listed' : Array Bool) {a : Act} {w : World} (hi : ops[i]? = some oi)
    (hb : (Region.noSelect ops && Region.free md ops listed i && (Region.ready md ops listed).contains i && waits md ops fin i && decide (listed.setIfInBounds i true = listed')) = true)
    (hQ : ∀ c a w, ¬ Q (.panic c) a w) (hw : Region.wanted oi (yielded ops a.tmps) = true) (hy : ∀ w, S w → (execOp a.eval oi).run P w = .ok (.value v) w) (hS : S w)
    (h : anyT P md ops Q S fin fuel listed' (a.put oi.dst v) w) : anyT P md ops Q S fin (fuel + 1) listed a w := by
  simp only [Bool.and_eq_true, decide_eq_true_eq] at hb
  obtain ⟨⟨⟨⟨h1, h2⟩, h3⟩, h4⟩, h5⟩ := hb
  subst h5
  exact anyT_first hi (Region.noSelect_spec h1) (fun c a w h => absurd h (hQ _ _ _)) h4 fuel listed a w (Region.free_spec hi h2) (by simpa using h3) (.inl ⟨hw, hy⟩) hS h
/-- The one operation that may come up. -/
theorem only_T {S : World → Prop} {fin : Nat} (i : Nat) {oi : Oper} {fuel : Nat} {listed : Array Bool} (listed' : Array Bool) {a : Act} {w : World} (hi : ops[i]? = some oi)
    (hb : (decide (Region.ready md ops listed = [i]) && decide (listed.setIfInBounds i true = listed')) = true) (hw : Region.wanted oi (yielded ops a.tmps) = true)
    (h : oi.wp P a w (fun a' w' => (i ≠ fin → S w') ∧ anyT P md ops Q S fin fuel listed' a' w') Q) : anyT P md ops Q S fin (fuel + 1) listed a w := by
  simp only [Bool.and_eq_true, decide_eq_true_eq] at hb
  obtain ⟨hr, h5⟩ := hb
  subst h5
  refine ⟨fun h0 => (by rw [hr] at h0; cases h0), fun j hj => ?_⟩
  rw [hr, List.mem_singleton] at hj
  subst hj
  unfold wpOp
  simp only [hi, hw, if_true]
  exact .inl h
theorem done_T {S : World → Prop} {fin : Nat} {listed : Array Bool} {a : Act} {w : World} (hr : (Region.ready md ops listed).isEmpty = true) (h : Q .normal a w) : anyT P md ops Q S fin 0 listed a w :=
  ⟨by simpa using hr, h⟩
theorem wp_app (w : World) {o : Oper} {a : Act} {K : Act → World → Prop} (hgd : o.guard = none) (s x : Operand) (t : TypeId)
    (ho : o.op = .call { callee := .builtin .append, args := #[s, x], argTypes := #[t, t] })
    (B : Nat) (e : TypeId) (i : TypeInfo) (z : Value) (bytes : Nat) (ht : P.underlying t = some (.slice e)) (hi : P.info? e = some i) (hz : i.zero = some z)
    (hsize : i.size = 1) (hby : i.bytes = bytes) (hzs : z.cells.size = 1)
    (A : Option Addr) (m c : Nat) (xs : List Value) (hs : a.eval s = .slice A m c) (hown : Row w B e A m c xs)
    (ad : Addr) (j cm : Nat) (news : List Value) (hx : a.eval x = .slice (some ad) j cm) (hl : news.length = j) (hnews : ∀ j u, news[j]? = some u → w.cell? (ad.add j) = some u) (h1 : ∀ u ∈ news, u.oneCell' = true)
    (k : Nat) (hk : m + j = k) (hn : k ≤ 4398046511104) (hbytes : bytes ≤ 32) (hbase : B ≤ w.heap.size)
    (h : ∀ A' c' w', Row w' B e A' k c' (xs ++ news) → w.grownBy w' (Value.slice A m c).ownBlock → K (a.put o.dst (.slice A' k c')) w') : o.wp P a w K Q := by
  have := step_app (P := P) (ops := #[]) (K := K) (Q := Q) (E := False) w hgd s x t ho B e i z bytes ht hi hz hsize hby hzs A m c xs hs hown ad j cm news hx hl hnews h1 k hk hn hbytes hbase h
  rwa [if_pos (by simp [Region.wanted, hgd])] at this
end
end Go.Proofs.Ytfbmcfdmffpfmaa
