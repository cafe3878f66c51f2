/-
  Code that sends or receives, in the frame of a call: what it asks of the frames that run it, and the rules to put its pieces together.
-/
import Derived.Test.YtfbmcfdmffpfmaaBase
import Derived.Conc.LoneCalls
namespace Go.Proofs.Ytfbmcfdmffpfmaa
open Go.RowKit Go.Conc
set_option linter.unusedVariables false
set_option linter.unusedSimpArgs false

/-- As the kit's triple, but for frames of a call alone (no early ones). -/
def CodeN (P : Program) (c : Code) (Q : Exit → Act → World → Prop) (a : Act) (w : World) : Prop :=
  ∀ (b : Frame) (k : List Item) (cs : List Frame), b.kind ≠ .early → ∃ e a' w', Q e a' w' ∧ Arrives P (lone (b.at a (.code c :: k)) cs w) b k cs e a' w'
section
variable {P : Program} {Q : Exit → Act → World → Prop} {a : Act} {w : World}
theorem codeN_of {c : Code} (h : c.wp P Q a w) : CodeN P c Q a w := fun b k cs _ => h b k cs
theorem codeN_mono {c : Code} {Q' : Exit → Act → World → Prop} (h : CodeN P c Q a w) (hq : ∀ e a w, Q e a w → Q' e a w) : CodeN P c Q' a w :=
  fun b k cs hk => by
    obtain ⟨e, a', w', q, r⟩ := h b k cs hk
    exact ⟨e, a', w', hq _ _ _ q, r⟩
theorem codeN_seq {x y : Code} (h : CodeN P x (Exit.then (CodeN P y Q) Q) a w) : CodeN P (Code.seq x y) Q a w := by
  intro b k cs hk
  obtain ⟨e, a₁, w₁, q, r⟩ := h b (.code y :: k) cs hk
  have hp : e ≠ .normal → Q e a₁ w₁ → ∃ e a' w', Q e a' w' ∧ Arrives P (lone (b.at a (.code (x.seq y) :: k)) cs w) b k cs e a' w' := fun hne hq =>
    ⟨e, a₁, w₁, hq, .of_steps (.one step_seq) (.pass (x := .code y) rfl (fun _ _ => .inl hne) r)⟩
  cases e with
  | normal =>
    obtain ⟨e₂, a₂, w₂, q₂, r₂⟩ := q b k cs hk
    exact ⟨e₂, a₂, w₂, q₂, .of_steps (.head step_seq r) r₂⟩
  | _ => exact hp (by intro h; cases h) q
theorem codeN_seq_k {x y : Code} (h : ∀ K : Act → World → Prop, (∀ a w, CodeN P y Q a w → K a w) → CodeN P x (Exit.then K Q) a w) : CodeN P (Code.seq x y) Q a w := codeN_seq (h _ fun _ _ h => h)
theorem codeN_cond {c : Operand} {x y : Code} {t : Bool} (hc : a.eval c = .bool t) (ht : t = true → CodeN P x Q a w) (hf : t = false → CodeN P y Q a w) : CodeN P (Code.cond c x y) Q a w := by
  intro b k cs hk
  have h : CodeN P (if t then x else y) Q a w := by
    cases t
    · exact hf rfl
    · exact ht rfl
  obtain ⟨e, a', w', q, r⟩ := h b k cs hk
  exact ⟨e, a', w', q, .of_steps (.one (step_cond hc)) r⟩
theorem codeN_block {id : Nat} {c : Code} (h : CodeN P c (Exit.inBlock id Q) a w) : CodeN P (Code.block id c) Q a w := by
  intro b k cs hk
  obtain ⟨e, a₁, w₁, q, r⟩ := h b (.inBlock id :: k) cs hk
  cases e with
  | normal => exact ⟨.normal, a₁, w₁, q, .head step_block (Steps.trans r (.one step_inBlock))⟩
  | exit j =>
    rcases Nat.decEq j id with hid | hid
    · rw [Exit.inBlock, if_neg hid] at q
      have hne : (id == j) = false := by simpa using fun h : id = j => hid h.symm
      exact ⟨.exit j, a₁, w₁, q, fun k' hk' => .head step_block (r k' (by simp [exitTo, hne, hk']))⟩
    · rw [Exit.inBlock, if_pos hid] at q
      exact ⟨.normal, a₁, w₁, q, .head step_block (r k (by simp [exitTo, hid]))⟩
  | goto l => exact ⟨_, a₁, w₁, q, fun k' hk' => .head step_block (r k' (by simp [gotoIn, hk']))⟩
  | ret => exact ⟨_, a₁, w₁, q, .of_steps (.one step_block) r⟩
  | panic ch => exact ⟨_, a₁, w₁, q, .of_steps (.one step_block) r⟩
  | outgrown => exact ⟨_, a₁, w₁, q, .of_steps (.one step_block) r⟩
theorem codeN_loop {c : Code} (J : Act → World → Prop) (μ : Act → World → Nat) (h₀ : J a w)
    (round : ∀ a w, J a w → CodeN P c (Exit.then (fun a' w' => J a' w' ∧ μ a' w' < μ a w) Q) a w) : CodeN P (Code.loop c) Q a w := by
  intro b k cs hk
  have key : ∀ n a w, μ a w < n → J a w → ∃ e a' w', Q e a' w' ∧ Arrives P (lone (b.at a (.code c :: .inLoop c :: k)) cs w) b k cs e a' w' := by
    intro n
    induction n with
    | zero => intro a w hn; omega
    | succ n ih =>
      intro a w hn hJ
      obtain ⟨e, a₁, w₁, q, r⟩ := round a w hJ b (.inLoop c :: k) cs hk
      have hp : e ≠ .normal → Q e a₁ w₁ → ∃ e a' w', Q e a' w' ∧ Arrives P (lone (b.at a (.code c :: .inLoop c :: k)) cs w) b k cs e a' w' := fun hne hq =>
        ⟨e, a₁, w₁, hq, .pass (x := .inLoop c) rfl (fun _ _ => .inl hne) r⟩
      cases e with
      | normal =>
        obtain ⟨hJ₁, hlt⟩ := q
        obtain ⟨e₂, a₂, w₂, q₂, r₂⟩ := ih a₁ w₁ (by omega) hJ₁
        exact ⟨e₂, a₂, w₂, q₂, .of_steps (Steps.trans r (.one step_inLoop)) r₂⟩
      | _ => exact hp (by intro h; cases h) q
  obtain ⟨e, a', w', q, r⟩ := key _ a w (Nat.lt_succ_self _) h₀
  exact ⟨e, a', w', q, .of_steps (.one step_loop) r⟩
theorem calls_of_codeN {f : FuncId} {fn : Func} {c : Code} {args : Array Value} {R : Ending → World → Prop} (hf : P.funcs[f]? = some fn) (hb : fn.body = some c)
    (h : CodeN P c (bodyPost P fn R) { tmps := args ++ Array.replicate (fn.ntmps - args.size) undef, defers := [] } w) : Calls P f args w R := by
  intro cs
  obtain ⟨b, hbk, hbf, henter⟩ : ∃ b : Frame, b.kind = .normal ∧ b.fn = f ∧ Frame.enter P f args .normal = b.at { tmps := args ++ Array.replicate (fn.ntmps - args.size) undef, defers := [] } [.code c] :=
    ⟨{ (default : Frame) with fn := f, kind := .normal }, rfl, rfl, by simp [Frame.enter, Frame.at, hf, hb]⟩
  obtain ⟨e, a', w', q, r⟩ := h b [] cs (by rw [hbk]; decide)
  rw [← henter] at r
  subst hbf
  cases e with
  | normal =>
    obtain ⟨hd, v, hr, hR⟩ := q
    exact ⟨.returned v, w', _, hR, Steps.trans r (.one step_end), rfl, rfl, hd, hbk, fn, hf, hr⟩
  | ret =>
    obtain ⟨hd, v, hr, hR⟩ := q
    obtain ⟨todo, hs⟩ := r
    exact ⟨.returned v, w', _, hR, hs, rfl, rfl, hd, hbk, fn, hf, hr⟩
  | panic chain =>
    obtain ⟨hd, hR⟩ := q
    obtain ⟨todo, hs⟩ := r
    exact ⟨.panicked chain, w', _, hR, hs, rfl, rfl, hd, fn, hf⟩
  | exit id => exact q.elim
  | goto l => exact q.elim
  | outgrown => exact ⟨.outgrown, w', b, q, r.resolve_left (by rw [hbk]; simp), rfl, trivial⟩
/-- What is left of a region, in a frame of a call. -/
def OpsN (P : Program) (ops : Array Oper) (rest : List Nat) (Q : Exit → Act → World → Prop) (a : Act) (w : World) : Prop :=
  ∀ (b : Frame) (k : List Item) (cs : List Frame), b.kind ≠ .early → ∃ e a' w', Q e a' w' ∧ Arrives P (lone (b.at a (.inRegion ops rest :: k)) cs w) b k cs e a' w'
theorem codeN_region {id : Nat} {ops : Array Oper} (h : OpsN P ops (List.range ops.size) Q a w) : CodeN P (Code.region id ops false) Q a w := fun b k cs hk => by
  obtain ⟨e, a', w', q, r⟩ := h b k cs hk
  exact ⟨e, a', w', q, .of_steps (.one step_region) r⟩
theorem opsN_nil {ops : Array Oper} (h : Q .normal a w) : OpsN P ops [] Q a w := fun b k cs hk => ⟨.normal, a, w, h, .one step_region_end⟩
theorem opsN_of {ops : Array Oper} {rest : List Nat} (h : wpOps P ops Q rest a w) : OpsN P ops rest Q a w := fun b k cs _ => wp_ops _ _ _ h b k cs
theorem opsN_next {ops : Array Oper} {i : Nat} {rest : List Nat} {o : Oper} {v : Value} {w₁ : World} (ho : ops[i]? = some o)
    (hs : ∀ (b : Frame) (k : List Item) (cs : List Frame), b.kind ≠ .early → step P (lone (b.at a (.inRegion ops (i :: rest) :: k)) cs w) = .next (lone ((b.at a (.inRegion ops (i :: rest) :: k)).finish v) cs w₁))
    (h : OpsN P ops rest Q (a.put o.dst v) w₁) : OpsN P ops (i :: rest) Q a w := fun b k cs hk => by
  obtain ⟨e, a', w', q, r⟩ := h b k cs hk
  refine ⟨e, a', w', q, .of_steps (.one ?_) r⟩
  have h1 := hs b k cs hk
  rw [Frame.finish_at, ho] at h1
  exact h1
theorem opsN_value {ops : Array Oper} {i : Nat} {rest : List Nat} {o : Oper} {v : Value} {w₁ : World} (ho : ops[i]? = some o) (hw : Region.wanted o (yielded ops a.tmps) = true)
    (hr : (execOp a.eval o).run P w = .ok (.value v) w₁) (h : OpsN P ops rest Q (a.put o.dst v) w₁) : OpsN P ops (i :: rest) Q a w :=
  opsN_next ho (fun b k cs hk => step_lone_go (by rw [stepG_op ho hw]; simp [stepG.apply, hr])) h
theorem opsN_send {ops : Array Oper} {i : Nat} {rest : List Nat} {o : Oper} {v z' : Value} {w₁ : World} {c cap s r : Nat} {buf : Array Value} {tm : Bool} (ho : ops[i]? = some o) (hw : Region.wanted o (yielded ops a.tmps) = true)
    (hr : (execOp a.eval o).run P w = .ok (.comm #[scase c v z'] true .send) w₁) (hc : w₁.heap[c]? = some (.chan cap buf false s r tm)) (hroom : buf.size < cap)
    (h : OpsN P ops rest Q (a.put o.dst undef) (w₁.setChan c cap (buf.push v) false (s + 1) r tm)) : OpsN P ops (i :: rest) Q a w :=
  opsN_next ho (fun b k cs hk => step_lone_send_room (stepG_comm ho hw hk hr) hc hroom) h
theorem opsN_recv {ops : Array Oper} {i : Nat} {rest : List Nat} {o : Oper} {z : Value} {w₁ : World} {c cap s r : Nat} {buf : Array Value} {tm closed ok : Bool} (ho : ops[i]? = some o) (hw : Region.wanted o (yielded ops a.tmps) = true)
    (hr : (execOp a.eval o).run P w = .ok (.comm #[rcase c z] true (.recv ok)) w₁) (hc : w₁.heap[c]? = some (.chan cap buf closed s r tm)) (hsome : 0 < buf.size)
    (h : OpsN P ops rest Q (a.put o.dst (got ok (buf.getD 0 undef) true)) (w₁.setChan c cap (buf.extract 1 buf.size) closed s (r + 1) tm)) : OpsN P ops (i :: rest) Q a w :=
  opsN_next ho (fun b k cs hk => step_lone_recv_buf ok (stepG_comm ho hw hk hr) hc hsome) h
theorem opsN_shut {ops : Array Oper} {i : Nat} {rest : List Nat} {o : Oper} {z : Value} {w₁ : World} {c cap s r : Nat} {tm ok : Bool} (ho : ops[i]? = some o) (hw : Region.wanted o (yielded ops a.tmps) = true)
    (hr : (execOp a.eval o).run P w = .ok (.comm #[rcase c z] true (.recv ok)) w₁) (hc : w₁.heap[c]? = some (.chan cap #[] true s r tm))
    (h : OpsN P ops rest Q (a.put o.dst (got ok z false)) w₁) : OpsN P ops (i :: rest) Q a w :=
  opsN_next ho (fun b k cs hk => step_lone_recv_shut ok (stepG_comm ho hw hk hr) hc) h
end
end Go.Proofs.Ytfbmcfdmffpfmaa
