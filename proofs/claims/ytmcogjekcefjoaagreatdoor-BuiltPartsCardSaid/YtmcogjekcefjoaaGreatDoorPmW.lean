/- PmW: code in a frame of a real function, in a round of a range over a function (some l) or not (none). -/
import Derived.RangeFuncOwn
import Derived.TacticsIn
import Derived.OrdersIn
import Derived.Scope
import Derived.Test.YtmcogjekcefjoaaGreatDoorPmLb
namespace Go.Pm
open Go
def fenceR (r : Option Nat) : Fence := { Fence.wide with round := r }
theorem fenceR_steps {r : Option Nat} {P : Program} {m m' : Machine} : StepsIn (Machine.fenced P (fenceR r)) P m m' ↔ Steps P m m' := stepsIn_wide
theorem fenceR_room {r : Option Nat} (n : Nat) : (fenceR r).room n := fun _ h => by simp [fenceR, Fence.wide] at h
theorem fenceR_calls {r : Option Nat} {n : Nat} {P : Program} {f : FuncId} {args : Array Value} {w : World} {R : Ending → World → Prop} (h : Calls P f args w R) : CallsIn (fenceR r) n P f args w R :=
  callsIn_wide.2 h
theorem wpIn_of {r : Option Nat} {n : Nat} {P : Program} {o : Oper} {a : Act} {w : World} {next : Act → World → Prop} {Q : Exit → Act → World → Prop} (hnd : ∀ c, o.op ≠ .defer c)
    (h : o.uponIn (fenceR r) n P a next Q ((execOp a.eval o).run P w)) : o.wpIn (fenceR r) n P a w next Q := ⟨fun _ _ => trivial, by rw [Oper.semAt_eq _ _ _ hnd]; exact h⟩
def YCalls (P : Prg) (_pos gen : Nat) (xs : List AV) (m : Mem) (R : AOut → Mem → Prop) : Prop :=
  ∀ (β : Base) (K : Bool → Nat → Prop) (σ : Sig) (w : World) (vals : List Value) (b c : Nat), Rel β K σ m w → VRs σ K w xs vals → σ[gen]? = some (some b, c) → β.fits P →
    ∃ f tmps assign body, (Instr.yield b vals.toArray).run P w = .ok (.round b f tmps assign body) w ∧ ∀ r n, RoundIn (fenceR r) n P b f tmps assign body w fun e w' =>
      ∃ K' σ' m' out, R out m' ∧ Rel β K' σ' m' w' ∧ σ <+: σ' ∧ (∀ p b, K p b → K' p b) ∧ (∀ p b, K p b → w'.heap[b]? = w.heap[b]?) ∧ OutR σ' K' w' out e
abbrev Ends (P : Program) := ArrivesIn (fun _ => True) P
def real (P : Program) (f : FuncId) : Prop := ∃ fn, P.funcs[f]? = some fn
def wpR (r : Option Nat) (G : FuncId → Prop) (P : Program) (c : Code) (Q : Exit → Act → World → Prop) (a : Act) (w : World) : Prop :=
  ∀ (b : Frame) (k : List Item) (cs : List Frame), b.roundOf = r → G b.fn →
    ∃ e a' w', Q e a' w' ∧ Ends P (lone (b.atR a (.code c :: k)) cs w) b k cs e a' w'
section
variable {r : Option Nat} {G : FuncId → Prop} {P : Program} {Q Q' : Exit → Act → World → Prop} {a : Act} {w : World}
theorem ends_mono {I I' : Machine → Prop} (hI : ∀ m, I m → I' m) {m : Machine} {b : Frame} {k : List Item} {cs : List Frame} {e : Exit} (h : ArrivesIn I P m b k cs e a w) : ArrivesIn I' P m b k cs e a w := by
  cases e with
  | normal => exact StepsIn.mono hI h
  | exit id => exact ⟨fun k' hk => StepsIn.mono hI (h.1 k' hk), fun hr hk => let ⟨k₁, h1, h2⟩ := h.2 hr hk; ⟨k₁, h1, StepsIn.mono hI h2⟩⟩
  | goto l => exact ⟨fun k' hk => StepsIn.mono hI (h.1 k' hk), fun hr hk => let ⟨k₁, h1, h2⟩ := h.2 hr hk; ⟨k₁, h1, StepsIn.mono hI h2⟩⟩
  | ret => exact ⟨fun hr => let ⟨todo, hs⟩ := h.1 hr; ⟨todo, StepsIn.mono hI hs⟩, fun hr => let ⟨k₁, hs⟩ := h.2 hr; ⟨k₁, StepsIn.mono hI hs⟩⟩
  | panic chain => obtain ⟨todo, hs⟩ := h; exact ⟨todo, StepsIn.mono hI hs⟩
  | outgrown => exact h
theorem wpR_of {n : Nat} {c : Code} (h : c.wpIn (fenceR r) n P Q a w) : wpR r G P c Q a w := fun b k cs hb _ =>
  let ⟨e, a', w', hq, harr⟩ := h b k cs hb trivial (fenceR_room _)
  ⟨e, a', w', hq, ends_mono (fun _ _ => trivial) harr⟩
theorem wpR_wp {c : Code} (h : wpR none (fun _ => True) P c Q a w) : c.wp P Q a w := by
  intro b k cs
  obtain ⟨e, a', w', q, harr⟩ := h { b with roundOf := none } k cs rfl trivial
  exact ⟨e, a', w', q, (arrivesIn_iff (b := { b with roundOf := none }) (fun _ _ => steps_iff.symm) rfl).1 harr⟩
theorem wpR_mono {c : Code} (h : wpR r G P c Q a w) (hq : ∀ e a w, Q e a w → Q' e a w) : wpR r G P c Q' a w := fun b k cs hb hf =>
  let ⟨e, a', w', q, harr⟩ := h b k cs hb hf
  ⟨e, a', w', hq _ _ _ q, harr⟩
theorem wpR_skip (h : Q .normal a w) : wpR r G P .skip Q a w := wpR_of (n := 0) (wpIn_skip h)
theorem wpR_label {l : Nat} (h : Q .normal a w) : wpR r G P (.label l) Q a w := wpR_of (n := 0) (wpIn_label h)
theorem wpR_exit {id : Nat} (h : Q (.exit id) a w) : wpR r G P (.exit id) Q a w := wpR_of (n := 0) (wpIn_exit h)
theorem wpR_ret (h : Q .ret a w) : wpR r G P .ret Q a w := wpR_of (n := 0) (wpIn_ret h)
theorem wpR_seq {x y : Code} (h : wpR r G P x (Exit.then (wpR r G P y Q) Q) a w) : wpR r G P (.seq x y) Q a w := by
  intro b k cs hb hf
  obtain ⟨e, a1, w1, hq, harr⟩ := h b (.code y :: k) cs hb hf
  by_cases he : e = .normal
  · subst he
    obtain ⟨e2, a2, w2, hq2, h2⟩ := hq b k cs hb hf
    exact ⟨e2, a2, w2, hq2, .of_steps (.head trivial stepR_seq harr) h2⟩
  · refine ⟨e, a1, w1, ?_, .of_steps (.one trivial stepR_seq) (.pass (x := .code y) rfl (fun _ _ => .inl he) harr)⟩
    cases e <;> first | exact absurd rfl he | exact hq
theorem wpR_cond {c : Operand} {x y : Code} {t : Bool} (hc : a.eval c = .bool t) (h : wpR r G P (if t then x else y) Q a w) : wpR r G P (.cond c x y) Q a w := fun b k cs hb hf =>
  let ⟨e, a', w', q, harr⟩ := h b k cs hb hf
  ⟨e, a', w', q, .of_steps (.one trivial (stepR_cond hc)) harr⟩
theorem wpR_block {id : Nat} {c : Code} (h : wpR r G P c (Exit.inBlock id Q) a w) : wpR r G P (.block id c) Q a w := by
  intro b k cs hb hf
  obtain ⟨e, a1, w1, hq, harr⟩ := h b (.inBlock id :: k) cs hb hf
  have harr := ArrivesIn.of_steps (StepsIn.one (I := fun _ => True) trivial (stepR_block (P := P) (b := b) (a := a) (k := k) (cs := cs) (w := w) (id := id) (c := c))) harr
  cases e with
  | normal => exact ⟨.normal, a1, w1, hq, StepsIn.trans harr (.one trivial stepR_inBlock)⟩
  | exit id' =>
    by_cases hid : id' = id
    · simp only [Exit.inBlock, hid, if_true] at hq
      exact ⟨.normal, a1, w1, hq, harr.1 k (by simp [exitTo, hid])⟩
    · simp only [Exit.inBlock, hid, if_false] at hq
      have hx : exitTo id' (.inBlock id :: k) = exitTo id' k := by
        have : (id == id') = false := beq_eq_false_iff_ne.2 (Ne.symm hid)
        simp [exitTo, this]
      exact ⟨.exit id', a1, w1, hq, fun k' hk => harr.1 k' (hx.trans hk), fun hr hk => harr.2 hr (hx.trans hk)⟩
  | goto l => exact ⟨_, a1, w1, hq, fun k' hk => harr.1 k' (by simpa [gotoIn] using hk), fun hr hk => harr.2 hr (by simpa [gotoIn] using hk)⟩
  | ret => exact ⟨_, a1, w1, hq, harr⟩
  | panic ch => exact ⟨_, a1, w1, hq, harr⟩
  | outgrown => exact ⟨_, a1, w1, hq, harr⟩
theorem wpR_loop {c : Code} (I : Nat → Act → World → Prop) (round : ∀ n a w, I n a w → wpR r G P c (Exit.then (fun a' w' => ∃ n', n' < n ∧ I n' a' w') Q) a w) (n : Nat) (a : Act) (w : World) (h : I n a w) :
    wpR r G P (.loop c) Q a w := by
  intro b k cs hb hf
  have key : ∀ n a w, I n a w → ∃ e a' w', Q e a' w' ∧ Ends P (lone (b.atR a (.code c :: .inLoop c :: k)) cs w) b k cs e a' w' := by
    intro n
    induction n using Nat.strongRecOn with
    | _ n ih =>
      intro a w hI
      obtain ⟨e, a1, w1, hq, harr⟩ := round n a w hI b (.inLoop c :: k) cs hb hf
      by_cases he : e = .normal
      · subst he
        obtain ⟨n', hlt, hI1⟩ := hq
        obtain ⟨e2, a2, w2, hq2, h2⟩ := ih n' hlt a1 w1 hI1
        exact ⟨e2, a2, w2, hq2, .of_steps (StepsIn.trans harr (.one trivial stepR_inLoop)) h2⟩
      · refine ⟨e, a1, w1, ?_, .pass (x := .inLoop c) rfl (fun _ _ => .inl he) harr⟩
        cases e <;> first | exact absurd rfl he | exact hq
  obtain ⟨e, a', w', hq, harr⟩ := key n a w h
  exact ⟨e, a', w', hq, .of_steps (.one trivial stepR_loop) harr⟩
theorem wpR_scope {c : Code} (h : wpR r G P c (Exit.noGoto Q) a w) : wpR r G P (.scope c) Q a w := by
  intro b k cs hb hf
  obtain ⟨e, a1, w1, hq, harr⟩ := h b (.inScope c :: k) cs hb hf
  have s0 : step P (lone (b.atR a (.code (.scope c) :: k)) cs w) = .next (lone (b.atR a (.code c :: .inScope c :: k)) cs w) := step_lone_go (by simp [stepG, stepG.exec, Frame.atR])
  have harr := ArrivesIn.of_steps (StepsIn.one (I := fun _ => True) trivial s0) harr
  cases e with
  | normal => exact ⟨.normal, a1, w1, hq, StepsIn.trans harr (.one trivial (step_lone_go (by simp [stepG, stepG.exec, Frame.atR])))⟩
  | exit id => exact ⟨.exit id, a1, w1, hq, fun k' hk => harr.1 k' (by simpa [exitTo] using hk), fun hr hk => harr.2 hr (by simpa [exitTo] using hk)⟩
  | goto l => exact hq.elim
  | ret => exact ⟨_, a1, w1, hq, harr⟩
  | panic ch => exact ⟨_, a1, w1, hq, harr⟩
  | outgrown => exact ⟨_, a1, w1, hq, harr⟩
theorem calls_of_wpR {f : FuncId} {fn : Func} {c : Code} {args : Array Value} {R : Ending → World → Prop} (hf : P.funcs[f]? = some fn) (hb : fn.body = some c)
    (h : wpR none (real P) P c (bodyPostM Fence.wide 0 P fn R) { tmps := args ++ Array.replicate (fn.ntmps - args.size) undef, defers := [] } w) : Calls P f args w R := by
  intro cs
  obtain ⟨b, hbd⟩ : ∃ b : Frame, b = { (default : Frame) with fn := f, kind := .normal, roundOf := none } := ⟨_, rfl⟩
  have hbr : b.roundOf = none := by rw [hbd]
  have hbf : b.fn = f := by rw [hbd]
  have hbk : b.kind = .normal := by rw [hbd]
  have henter : Frame.enter P f args .normal = b.atR { tmps := args ++ Array.replicate (fn.ntmps - args.size) undef, defers := [] } [.code c] := by
    simp [Frame.enter, Frame.atR, hf, hb, hbd]
  obtain ⟨e, a', w', hq, harr⟩ := h b [] cs hbr ⟨fn, hbf ▸ hf⟩
  rw [← henter] at harr
  have fin : ∀ (m : FrameMode) (todo : List Item), Steps P (lone (Frame.enter P f args .normal) cs w) (lone { b.atR a' todo with mode := m } cs w') → LeavesInM Fence.wide 0 P fn a'.tmps R a'.defers m w' →
      ∃ e w'' fr, R e w'' ∧ Comes P (lone (Frame.enter P f args .normal) cs w) (lone fr cs w'') e ∧ fr.fn = f ∧ fr.leaving P w'' e := by
    intro m todo hs hl
    obtain ⟨e', w'', fr', hR, hs', hfn, hlv⟩ := leaves_stepsInM a'.defers m w' { b.atR a' todo with mode := m } cs rfl rfl rfl (by rw [← hf, ← hbf]; rfl) (by rw [← hbk]; rfl) trivial (room_wide _) hl
    exact ⟨e', w'', fr', hR, Comes.of_steps hs (comesIn_wide.1 hs'), by rw [hfn, ← hbf]; rfl, hlv⟩
  cases e with
  | normal => exact fin .returning [] ((StepsIn.steps harr).trans (.one (stepR_end hbr))) hq
  | ret => obtain ⟨todo, hs⟩ := harr.1 hbr; exact fin .returning todo hs.steps hq
  | panic chain => obtain ⟨todo, hs⟩ := harr; exact fin (.panicking chain) todo hs.steps hq
  | exit id => exact hq.elim
  | goto l => exact hq.elim
  | outgrown => exact ⟨.outgrown, w', b, hq, harr.resolve_left (by rw [hbk]; simp), hbf, trivial⟩
def roundEnd (P : Program) (l : Nat) (R : Ending → World → Prop) : Exit → Act → World → Prop
  | .normal, _, w => ∃ v w', (Instr.endRound l none).run P w = .ok v w' ∧ R (.returned v) w'
  | .ret, _, w => ∃ v w', (Instr.endRound l (some .ret)).run P w = .ok v w' ∧ R (.returned v) w'
  | .exit id, _, w => ∃ v w', (Instr.endRound l (some (.exit id))).run P w = .ok v w' ∧ R (.returned v) w'
  | .panic chain, a, w => a.defers = [] ∧ R (.panicked chain) w
  | _, _, _ => False
theorem roundIn_of {l : Nat} {f : FuncId} {tmps : Array Value} {assign body : Code} {R : Ending → World → Prop} {n : Nat} (hf : ∃ fn, P.funcs[f]? = some fn)
    (h : wpR (some l) (real P) P assign (fun e a1 w1 => e = .normal ∧ ∃ w2, (Instr.beginRound l).run P w1 = .ok () w2 ∧ wpR (some l) (real P) P body (roundEnd P l R) a1 w2) { tmps := tmps, defers := [] } w) :
    RoundIn (fenceR r) n P l f tmps assign body w R := by
  refine ⟨trivial, fun c cs _ => ?_⟩
  obtain ⟨b, hbd⟩ : ∃ b : Frame, b = { (default : Frame) with fn := f, kind := .normal, roundOf := some l } := ⟨_, rfl⟩
  have hbr : b.roundOf = some l := by rw [hbd]
  have hbf : b.fn = f := by rw [hbd]
  have hbk : b.kind = .normal := by rw [hbd]
  have hbs : b.roundOf.isSome = true := by rw [hbr]; rfl
  have h0 : Frame.round l f tmps assign body .normal = b.atR { tmps := tmps, defers := [] } [.code assign, .beginRound, .code body] := by
    simp [Frame.round, Frame.atR, hbd]
  obtain ⟨e, a1, w1, ⟨rfl, w2, hbeg, hbody⟩, harr⟩ := h b [.beginRound, .code body] (c :: cs) hbr (hbf ▸ hf)
  obtain ⟨e2, a2, w3, hq, harr2⟩ := hbody b [] (c :: cs) hbr (hbf ▸ hf)
  have harr2 := ArrivesIn.of_steps (StepsIn.trans harr (.one trivial (stepR_beginRound hbr hbeg))) harr2
  rw [← h0] at harr2
  have ret : ∀ {v : Value} {m : Machine} {w' : World}, StepsIn (fun _ => True) P (lone (Frame.round l f tmps assign body .normal) (c :: cs) w) m → step P m = .next (lone (c.finish v) cs w') → R (.returned v) w' →
      ∃ e w', R e w' ∧ ComesIn (Machine.fenced P (fenceR r)) P (lone (Frame.round l f tmps assign body .normal) (c :: cs) w)
        (match e with | .returned v => lone (c.finish v) cs w' | .panicked chain => lone (c.raise chain) cs w' | .outgrown => lone c cs w') e :=
    fun {v m w'} h1 h2 h3 => ⟨.returned v, w', h3, fenceR_steps.2 (h1.steps.trans (.one h2))⟩
  cases e2 with
  | normal =>
    obtain ⟨v, w4, hend, hR⟩ := hq
    exact ret harr2 (stepR_round_end hbr hbk hend) hR
  | ret =>
    obtain ⟨v, w4, hend, hR⟩ := hq
    obtain ⟨k1, hs⟩ := harr2.2 hbs
    exact ret hs (stepR_round_ret hbr hbk hend) hR
  | exit id =>
    obtain ⟨v, w4, hend, hR⟩ := hq
    obtain ⟨k1, hk, hs⟩ := harr2.2 hbs rfl
    exact ret hs (stepR_round_exit hbr hbk hk hend) hR
  | panic chain =>
    obtain ⟨hd, hR⟩ := hq
    obtain ⟨todo, hs⟩ := harr2
    refine ⟨.panicked chain, w3, hR, fenceR_steps.2 (hs.steps.trans (.one (step_leave_panicked ?_)))⟩
    obtain ⟨fn, hfn⟩ := hf
    exact ⟨rfl, hd, fn, by rw [← hfn, ← hbf]; rfl⟩
  | goto t => exact hq.elim
  | outgrown => exact hq.elim
theorem wpR_range {g : Operand} {ps : Array Tmp} {assign body : Code} (hG : ∀ f, G f → real P f)
    (h : ∀ fn, real P fn → ∃ (l : Nat) (mark : List Deferred) (w1 : World) (d : Deferred) (f : FuncId) (args : Array Value),
      (Instr.enterLoop fn a.tmps ps assign body r).run P w = .ok (l, mark) w1 ∧
      (resolve a.eval (rangeCall g l) 0).run P w1 = .ok d w1 ∧ (invoke d.target d.args).run P w1 = .ok (.enter f args) w1 ∧
      Calls P f args w1 fun e w3 => match e with
        | .returned _ => ∃ jump w4, (Instr.endLoop l).run P w3 = .ok jump w4 ∧ (match jump with
          | none => Q .normal { a with defers := mark ++ a.defers } w4
          | some c => wpR r G P c Q { a with defers := mark ++ a.defers } w4)
        | .panicked chain => Q (.panic chain) { a with defers := mark ++ a.defers } w3
        | .outgrown => False) : wpR r G P (.rangeFunc g ps assign body) Q a w := by
  intro b k cs hb hf
  obtain ⟨l, mark, w1, d, f, args, he, hres, hinv, hcall⟩ := h b.fn (hG _ hf)
  rw [← hb] at he
  have s1 := stepR_rangeFunc (P := P) (b := b) (a := a) (k := k) (cs := cs) (w := w) he hres hinv
  obtain ⟨e, w3, fr, hR, hs, hfn, hlv⟩ := hcall (b.atR { a with defers := mark ++ a.defers } (.inRangeFunc l :: k) :: cs)
  cases e with
  | outgrown => exact hR.elim
  | returned v =>
    obtain ⟨jump, w4, hend, hj⟩ := hR
    have s2 := step_leave_returned (c := b.atR { a with defers := mark ++ a.defers } (.inRangeFunc l :: k)) (cs := cs) hlv
    rw [finish_atR_inRangeFunc] at s2
    have s3 := stepR_endRangeFunc (P := P) (b := b) (a := { a with defers := mark ++ a.defers }) (k := k) (cs := cs) hend
    have all : StepsIn (fun _ => True) P (lone (b.atR a (.code (.rangeFunc g ps assign body) :: k)) cs w) (lone (b.atR { a with defers := mark ++ a.defers } ((jump.map Item.code).toList ++ k)) cs w4) :=
      .head trivial s1 (StepsIn.trans (StepsIn.of_steps hs) (.head trivial s2 (.one trivial s3)))
    cases jump with
    | none => exact ⟨.normal, _, w4, hj, all⟩
    | some c =>
      obtain ⟨e', a'', w5, hq, harr⟩ := hj b k cs hb hf
      exact ⟨e', a'', w5, hq, .of_steps all harr⟩
  | panicked chain =>
    have s2 := step_leave_panicked (c := b.atR { a with defers := mark ++ a.defers } (.inRangeFunc l :: k)) (cs := cs) hlv
    rw [Frame.raise_atR] at s2
    exact ⟨.panic chain, _, w3, hR, _, .head trivial s1 (StepsIn.trans (StepsIn.of_steps hs) (.one trivial s2))⟩
end
end Go.Pm
