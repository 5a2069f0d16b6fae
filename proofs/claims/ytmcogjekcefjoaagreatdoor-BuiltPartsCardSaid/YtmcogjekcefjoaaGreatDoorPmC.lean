/- PmC: what an abstract state says of Go's; how it goes on when memory changes. -/
import Derived.Test.YtmcogjekcefjoaaGreatDoorPmB
namespace Go.Pm
open Go
structure Prg extends Program where
  ok : World → Prop
  blocks : Nat → Prop
  stable : ∀ w w' : World, ok w → (∀ b, blocks b → w'.heap[b]? = w.heap[b]?) → ok w'
instance : CoeOut Prg Program := ⟨Prg.toProgram⟩
def Prg.of (P : Program) : Prg := { toProgram := P, ok := fun _ => True, blocks := fun _ => False, stable := fun _ _ _ _ => trivial }
structure Base where
  w0 : World
  own0 : Nat → Prop
  K0 : Bool → Nat → Prop
  σ0 : Sig
  D : List Deferred := []
  frz : List Nat := []
  gok : World → Prop
  gbl : Nat → Prop
  gst : ∀ w w' : World, gok w → (∀ b, gbl b → w'.heap[b]? = w.heap[b]?) → gok w'
def Base.fits (β : Base) (P : Prg) : Prop := β.gok = P.ok ∧ β.gbl = P.blocks
def MR (σ : Sig) (K : Bool → Nat → Prop) (w : World) : List (AV × AV) → List MapEntry → Prop
  | [], es => es = []
  | (k, v) :: kv, es => ∃ e es', es = e :: es' ∧ VR σ K w k e.key ∧ VR σ K w v e.val ∧ MR σ K w kv es'
def LoopSt.state : LoopSt → LoopState
  | .ready => .ready
  | .busy => .busy
  | _ => .done
def LoopSt.jump : LoopSt → Option Code
  | .ret => some .ret
  | .exit id => some (.exit id)
  | _ => none
def ObjR (σ : Sig) (K : Bool → Nat → Prop) (w : World) : AObj → Option Nat × Nat → Prop
  | .cells vs, (some b, _) => ∃ cur e, w.heap[b]? = some (.cells cur e (0, 0)) ∧ cur.size = vs.length ∧ CR σ K w b 0 vs
  | .row e sz els, (some b, cap) => ∃ cur, w.heap[b]? = some (.cells cur e (0, 0)) ∧ cur.size = cap * sz ∧ els.length ≤ cap ∧ cap ≤ maxLen ∧ 0 < sz ∧ LR σ K w b 0 sz els
  | .row _ sz els, (none, c) => els = [] ∧ c = 0 ∧ 0 < sz
  | .map kv, (some b, _) => ∃ es clock, w.heap[b]? = some (.map es clock) ∧ MR σ K w kv es.toList ∧ BornOk (es.toList.map (·.born)) clock
  | .emap eb clock, (some b, _) => ∃ es, w.heap[b]? = some (.map es clock) ∧ MR σ K w (eb.map fun e => (e.1, e.2.1)) es.toList ∧ es.toList.map (·.born) = eb.map (·.2.2) ∧ BornOk (es.toList.map (·.born)) clock
  | .iter _ gen since seen last, (some b, _) => ∃ mb c, σ[gen]? = some (some mb, c) ∧ w.heap[b]? = some (.mapIter (some mb) since seen.toArray last)
  | .loop st e ok, (some b, _) => ∃ r : Loop, w.heap[b]? = some (.loop r) ∧ r.state = st.state ∧ r.pending = st.jump ∧ ok r ∧ ∀ t, VR σ K w (Env.get e t) (r.tmps.getD t undef)
  | .hole, _ => True
  | _, _ => False
def Owned (σ : Sig) (m : Mem) (b : Nat) : Prop := ∃ (pos g : Nat) (o : AObj) (c : Nat), m.store[pos]? = some (g, o) ∧ σ[g]? = some (some b, c)
structure Rel (β : Base) (K : Bool → Nat → Prop) (σ : Sig) (m : Mem) (w : World) : Prop where
  next : σ.length = m.next
  objs : ∀ (pos g : Nat) (o : AObj), m.store[pos]? = some (g, o) → ∃ s, σ[g]? = some s ∧ ObjR σ K w o s
  inj : ∀ (pos pos' g g' : Nat) (o o' : AObj) (b c c' : Nat), m.store[pos]? = some (g, o) → m.store[pos']? = some (g', o') → σ[g]? = some (some b, c) → σ[g']? = some (some b, c') → pos = pos'
  own : ∀ b, Owned σ m b → (β.own0 b ∨ β.w0.heap.size ≤ b) ∧ b < w.heap.size ∧ ∀ p, ¬ K p b
  kept : ∀ p b, K p b → (β.K0 p b ∨ β.own0 b ∨ β.w0.heap.size ≤ b) ∧ b < w.heap.size
  kept0 : ∀ p b, β.K0 p b → K p b
  sig : β.σ0 <+: σ
  size : β.w0.heap.size ≤ w.heap.size
  frame : ∀ b, b < β.w0.heap.size → ¬ β.own0 b → w.heap[b]? = β.w0.heap[b]?
  os : w.os = β.w0.os
  tape : w.tape = β.w0.tape
  output : w.output = β.w0.output
  nd : β.frz.Nodup
  frz : ∀ D ∈ β.frz, w.heap[D]? = some (.deferred (some [])) ∧ β.w0.heap.size ≤ D ∧ ¬ Owned σ m D ∧ (∀ p, ¬ K p D) ∧ ¬ β.gbl D
  gl : β.gok w ∧ ∀ b, β.gbl b → b < w.heap.size ∧ ¬ Owned σ m b
theorem MR.mono {σ σ' : Sig} {K K' : Bool → Nat → Prop} {w w' : World} (hσ : σ <+: σ') (hK : ∀ p b, K p b → K' p b) (hw : ∀ p b, K p b → w'.heap[b]? = w.heap[b]?) :
    ∀ (kv : List (AV × AV)) (es : List MapEntry), MR σ K w kv es → MR σ' K' w' kv es
  | [], es, h => h
  | (k, v) :: kv, es, h => by
    obtain ⟨e, es', he, hk, hv, h⟩ := h
    exact ⟨e, es', he, VR.mono hσ hK hw _ _ hk, VR.mono hσ hK hw _ _ hv, MR.mono hσ hK hw kv es' h⟩
theorem MR.length {σ : Sig} {K : Bool → Nat → Prop} {w : World} : ∀ {kv : List (AV × AV)} {es : List MapEntry}, MR σ K w kv es → es.length = kv.length
  | [], es, h => by rw [MR] at h; simp [h]
  | (k, v) :: kv, es, h => by obtain ⟨e, es', rfl, _, _, h⟩ := h; simp [MR.length h]
theorem ObjR.mono {σ σ' : Sig} {K K' : Bool → Nat → Prop} {w w' : World} (hσ : σ <+: σ') (hK : ∀ p b, K p b → K' p b) (hw : ∀ p b, K p b → w'.heap[b]? = w.heap[b]?)
    {o : AObj} {s : Option Nat × Nat} (hb : ∀ b c, s = (some b, c) → w'.heap[b]? = w.heap[b]?) (h : ObjR σ K w o s) : ObjR σ' K' w' o s := by
  obtain ⟨b, c⟩ := s
  cases o with
  | cells vs =>
    cases b with
    | none => exact h
    | some b =>
      obtain ⟨cur, e, h1, h2, h3⟩ := h
      have hb := hb b c rfl
      exact ⟨cur, e, hb.trans h1, h2, CR.mono hσ hK hw b hb _ _ h3⟩
  | row e sz els =>
    cases b with
    | none => exact h
    | some b =>
      obtain ⟨cur, h1, h2, h3, h4, h5, h6⟩ := h
      have hb := hb b c rfl
      exact ⟨cur, hb.trans h1, h2, h3, h4, h5, LR.mono hσ hK hw b hb _ _ _ h6⟩
  | map kv =>
    cases b with
    | none => exact h
    | some b =>
      obtain ⟨es, clock, h1, h2, h3⟩ := h
      have hb := hb b c rfl
      exact ⟨es, clock, hb.trans h1, MR.mono hσ hK hw _ _ h2, h3⟩
  | emap eb clock =>
    cases b with
    | none => exact h
    | some b =>
      obtain ⟨es, h1, h2, h3⟩ := h
      exact ⟨es, (hb b c rfl).trans h1, MR.mono hσ hK hw _ _ h2, h3⟩
  | iter pos gen since seen last =>
    cases b with
    | none => exact h
    | some b =>
      obtain ⟨mb, c1, h1, h2⟩ := h
      exact ⟨mb, c1, pre_get hσ h1, (hb b c rfl).trans h2⟩
  | loop st e ok =>
    cases b with
    | none => exact h
    | some b =>
      obtain ⟨r, h1, h2, h3, h4, h5⟩ := h
      exact ⟨r, (hb b c rfl).trans h1, h2, h3, h4, fun t => VR.mono hσ hK hw _ _ (h5 t)⟩
  | hole => trivial
section
variable {β : Base} {σ σ' : Sig} {K K' : Bool → Nat → Prop} {w w' : World} {m m' : Mem}
theorem Rel.kept_same (h : Rel β K σ m w) {b : Nat} (hg : w.grownBy w' (some b)) (hb : ∀ p, ¬ K p b) : ∀ p b', K p b' → w'.heap[b']? = w.heap[b']? := fun p b' hk =>
  hg.block b' (h.kept p b' hk).2 (fun e => by injection e with e; subst e; exact hb p hk)
theorem grownBy.weaken {row : Option Nat} (hg : w.grownBy w' none) : w.grownBy w' row := ⟨hg.os, hg.tape, hg.output, hg.size, fun k hk _ => hg.block k hk (by simp)⟩
theorem frz_lt {w : World} {D : Nat} {o : Obj} (h : w.heap[D]? = some o) : D < w.heap.size := by
  obtain ⟨h1, _⟩ := Array.getElem?_eq_some_iff.1 h; exact h1
theorem Rel.grow (h : Rel β K σ m w) (hg : w.grownBy w' none) (hK : ∀ p b, K p b → K' p b) (hK' : ∀ p b, K' p b → K p b ∨ w.heap.size ≤ b ∧ b < w'.heap.size) : Rel β K' σ m w' := by
  have hw : ∀ p b, K p b → w'.heap[b]? = w.heap[b]? := fun p b hb => hg.block b (h.kept p b hb).2 (by simp)
  refine ⟨h.next, fun pos g o ho => ?_, h.inj, fun b hb => ?_, fun p b hb => ?_, fun p b hb => hK p b (h.kept0 p b hb), h.sig, Nat.le_trans h.size hg.size, fun b hb hn => ?_, ?_, ?_, ?_, h.nd, fun D hD => ?_, β.gst w w' h.gl.1 fun b hb => hg.block b (h.gl.2 b hb).1 (by simp), fun b hb => ⟨Nat.lt_of_lt_of_le (h.gl.2 b hb).1 hg.size, (h.gl.2 b hb).2⟩⟩
  · obtain ⟨s, hs, hr⟩ := h.objs pos g o ho
    refine ⟨s, hs, hr.mono (List.prefix_refl _) hK hw fun b c e => ?_⟩
    subst e
    exact hg.block b (h.own b ⟨pos, g, o, c, ho, hs⟩).2.1 (by simp)
  · obtain ⟨h1, h2, h3⟩ := h.own b hb
    exact ⟨h1, Nat.lt_of_lt_of_le h2 hg.size, fun p hk => (hK' p b hk).elim (h3 p) fun e => by omega⟩
  · rcases hK' p b hb with hk | ⟨h1, h2⟩
    · exact ⟨(h.kept p b hk).1, Nat.lt_of_lt_of_le (h.kept p b hk).2 hg.size⟩
    · exact ⟨.inr (.inr (Nat.le_trans h.size h1)), h2⟩
  · exact (hg.block b (Nat.lt_of_lt_of_le hb h.size) (by simp)).trans (h.frame b hb hn)
  · exact hg.os.trans h.os
  · exact hg.tape.trans h.tape
  · exact hg.output.trans h.output
  · obtain ⟨f1, f2, f3, f4, f5⟩ := h.frz D hD
    have hlt := frz_lt f1
    exact ⟨(hg.block D hlt (by simp)).trans f1, f2, f3, fun p hk => (hK' p D hk).elim (f4 p) fun e => by omega, f5⟩
theorem get_append_one {α : Type} {l : List α} {x y : α} {i : Nat} (h : (l ++ [x])[i]? = some y) : l[i]? = some y ∨ i = l.length ∧ x = y := by
  rcases Nat.lt_or_ge i l.length with hi | hi
  · rw [List.getElem?_append_left hi] at h; exact .inl h
  · rw [List.getElem?_append_right hi] at h
    have : i - l.length = 0 := by
      rcases Nat.lt_or_ge (i - l.length) 1 with h1 | h1
      · omega
      · rw [List.getElem?_eq_none (by simpa using h1)] at h; cases h
    rw [this] at h
    simp at h
    exact .inr ⟨by omega, h⟩
theorem Rel.new (h : Rel β K σ m w) (hg : w.grownBy w' none) {o : AObj} {s : Option Nat × Nat} (hs : ∀ b c, s = (some b, c) → w.heap.size ≤ b ∧ b < w'.heap.size)
    (ho : ObjR (σ ++ [s]) K w' o s) : Rel β K (σ ++ [s]) (m.new o) w' := by
  have hgr := h.grow hg (fun _ _ hb => hb) (fun _ _ hb => .inl hb)
  have hpre : σ <+: σ ++ [s] := List.prefix_append _ _
  have hnew : (σ ++ [s])[σ.length]? = some s := by simp
  have hw : ∀ p b, K p b → w'.heap[b]? = w'.heap[b]? := fun _ _ _ => rfl
  have hlt : ∀ (pos g : Nat) (o : AObj), m.store[pos]? = some (g, o) → ∃ s', σ[g]? = some s' := fun pos g o ho => let ⟨s, hs, _⟩ := h.objs pos g o ho; ⟨s, hs⟩
  refine ⟨by simp [Mem.new, h.next], fun pos g o' ho' => ?_, ?_, ?_, hgr.kept, hgr.kept0, List.IsPrefix.trans h.sig hpre, hgr.size, hgr.frame, hgr.os, hgr.tape, hgr.output, h.nd, fun D hD => ?_, hgr.gl.1, fun b hb => ⟨(hgr.gl.2 b hb).1, ?_⟩⟩
  · rcases get_append_one ho' with ho' | ⟨_, he⟩
    · obtain ⟨s', hs', hr⟩ := hgr.objs pos g o' ho'
      exact ⟨s', pre_get hpre hs', hr.mono hpre (fun _ _ h => h) hw fun _ _ _ => rfl⟩
    · injection he with h1 h2
      subst h1; subst h2
      exact ⟨s, by rw [← h.next]; exact hnew, ho⟩
  · intro pos pos' g g' o1 o2 b c c' h1 h2 h3 h4
    rcases get_append_one h1 with h1 | ⟨hp, he⟩ <;> rcases get_append_one h2 with h2 | ⟨hp', he'⟩
    · obtain ⟨s1, hs1⟩ := hlt _ _ _ h1
      obtain ⟨s2, hs2⟩ := hlt _ _ _ h2
      rw [pre_get hpre hs1] at h3
      rw [pre_get hpre hs2] at h4
      injection h3 with h3; injection h4 with h4
      subst h3; subst h4
      exact h.inj pos pos' g g' o1 o2 b c c' h1 h2 hs1 hs2
    · injection he' with e1 e2; subst e1
      rw [← h.next, hnew] at h4; injection h4 with h4
      obtain ⟨s1, hs1⟩ := hlt _ _ _ h1
      rw [pre_get hpre hs1] at h3; injection h3 with h3; subst h3
      have := (h.own b ⟨pos, g, o1, c, h1, hs1⟩).2.1
      have := (hs b c' h4).1
      omega
    · injection he with e1 e2; subst e1
      rw [← h.next, hnew] at h3; injection h3 with h3
      obtain ⟨s2, hs2⟩ := hlt _ _ _ h2
      rw [pre_get hpre hs2] at h4; injection h4 with h4; subst h4
      have := (h.own b ⟨pos', g', o2, c', h2, hs2⟩).2.1
      have := (hs b c h3).1
      omega
    · omega
  · rintro b ⟨pos, g, o', c, ho', hc⟩
    rcases get_append_one ho' with ho' | ⟨_, he⟩
    · obtain ⟨s', hs'⟩ := hlt _ _ _ ho'
      rw [pre_get hpre hs'] at hc; injection hc with hc; subst hc
      exact hgr.own b ⟨pos, g, o', c, ho', hs'⟩
    · injection he with e1 e2; subst e1
      rw [← h.next, hnew] at hc; injection hc with hc
      obtain ⟨h1, h2⟩ := hs b c hc
      exact ⟨.inr (Nat.le_trans h.size h1), h2, fun p hk => by have := (h.kept p b hk).2; omega⟩
  · obtain ⟨f1, f2, f3, f4, f5⟩ := hgr.frz D hD
    refine ⟨f1, f2, ?_, f4, f5⟩
    rintro ⟨pos, g, o', c, ho', hc⟩
    rcases get_append_one ho' with ho' | ⟨_, he⟩
    · obtain ⟨s', hs'⟩ := hlt _ _ _ ho'
      rw [pre_get hpre hs'] at hc; injection hc with hc; subst hc
      exact f3 ⟨pos, g, o', c, ho', hs'⟩
    · injection he with e1 e2; subst e1
      rw [← h.next, hnew] at hc; injection hc with hc
      have := (hs D c hc).1
      have := frz_lt (h.frz D hD).1
      omega
  · rintro ⟨pos, g, o', c, ho', hc⟩
    rcases get_append_one ho' with ho' | ⟨_, he⟩
    · obtain ⟨s', hs'⟩ := hlt _ _ _ ho'
      rw [pre_get hpre hs'] at hc; injection hc with hc; subst hc
      exact (hgr.gl.2 b hb).2 ⟨pos, g, o', c, ho', hs'⟩
    · injection he with e1 e2; subst e1
      rw [← h.next, hnew] at hc; injection hc with hc
      have := (hs b c hc).1
      have := (h.gl.2 b hb).1
      omega
theorem set_get {α : Type} {l : List α} {p i : Nat} {x y : α} (h : (l.set p x)[i]? = some y) : (i = p ∧ x = y) ∨ (i ≠ p ∧ l[i]? = some y) := by
  by_cases e : i = p
  · subst e
    rw [List.getElem?_set_self'] at h
    cases hl : l[i]? with
    | none => rw [hl] at h; simp at h
    | some z => rw [hl] at h; simp at h; exact .inl ⟨rfl, h⟩
  · rw [List.getElem?_set_ne (fun e' => e e'.symm)] at h; exact .inr ⟨e, h⟩
theorem Rel.turn (h : Rel β K σ m w) {pos g : Nat} {o o' : AObj} {s s' : Option Nat × Nat} (hp : m.store[pos]? = some (g, o)) (hs : σ[g]? = some s)
    (hg : w.grownBy w' s.1) (hs' : ∀ b c, s' = (some b, c) → (∃ c, s = (some b, c)) ∨ w.heap.size ≤ b ∧ b < w'.heap.size)
    (ho : ObjR (σ ++ [s']) K w' o' s') : Rel β K (σ ++ [s']) (m.turn pos o') w' := by
  have hpre : σ <+: σ ++ [s'] := List.prefix_append _ _
  have hnew : (σ ++ [s'])[σ.length]? = some s' := by simp
  have hsK : ∀ b c, s = (some b, c) → ∀ p, ¬ K p b := fun b c e => (h.own b ⟨pos, g, o, c, hp, e ▸ hs⟩).2.2
  have hw : ∀ p b, K p b → w'.heap[b]? = w.heap[b]? := fun p b hk => hg.block b (h.kept p b hk).2 (fun e => by
    obtain ⟨b1, c⟩ := s; simp at e; subst e; exact hsK b c rfl p hk)
  have hlt : ∀ (pos g : Nat) (o : AObj), m.store[pos]? = some (g, o) → ∃ s', σ[g]? = some s' := fun pos g o ho => let ⟨s, hs, _⟩ := h.objs pos g o ho; ⟨s, hs⟩
  have hother : ∀ (i g1 : Nat) (o1 : AObj) (b c : Nat), i ≠ pos → m.store[i]? = some (g1, o1) → σ[g1]? = some (some b, c) → some b ≠ s.1 := by
    intro i g1 o1 b c hi h1 h2 e
    obtain ⟨b1, c1⟩ := s
    simp at e; subst e
    exact hi (h.inj i pos g1 g o1 o b c c1 h1 hp h2 hs)
  refine ⟨by simp [Mem.turn, h.next], fun i g1 o1 ho1 => ?_, ?_, ?_, fun p b hb => ⟨(h.kept p b hb).1, Nat.lt_of_lt_of_le (h.kept p b hb).2 hg.size⟩, h.kept0, List.IsPrefix.trans h.sig hpre, Nat.le_trans h.size hg.size, fun b hb hn => ?_, hg.os.trans h.os, hg.tape.trans h.tape, hg.output.trans h.output, h.nd, fun D hD => ?_, β.gst w w' h.gl.1 fun b hb => hg.block b (h.gl.2 b hb).1 (fun e => (h.gl.2 b hb).2 ?_), fun b hb => ⟨Nat.lt_of_lt_of_le (h.gl.2 b hb).1 hg.size, ?_⟩⟩
  · rcases set_get ho1 with ⟨_, he⟩ | ⟨hi, ho1⟩
    · injection he with e1 e2; subst e1; subst e2
      exact ⟨s', by rw [← h.next]; exact hnew, ho⟩
    · obtain ⟨s1, hs1, hr⟩ := h.objs i g1 o1 ho1
      refine ⟨s1, pre_get hpre hs1, hr.mono hpre (fun _ _ h => h) hw fun b c e => ?_⟩
      subst e
      exact hg.block b (h.own b ⟨i, g1, o1, c, ho1, hs1⟩).2.1 (hother i g1 o1 b c hi ho1 hs1)
  · intro i i' g1 g2 o1 o2 b c c' h1 h2 h3 h4
    rcases set_get h1 with ⟨hp1, he1⟩ | ⟨hi1, h1⟩ <;> rcases set_get h2 with ⟨hp2, he2⟩ | ⟨hi2, h2⟩
    · omega
    · exfalso
      injection he1 with e1 e2; subst e1
      rw [← h.next, hnew] at h3; injection h3 with h3
      obtain ⟨s2, hs2⟩ := hlt _ _ _ h2
      rw [pre_get hpre hs2] at h4; injection h4 with h4; subst h4
      rcases hs' b c h3 with ⟨c2, hc2⟩ | ⟨hge, _⟩
      · exact hother i' g2 o2 b c' hi2 h2 hs2 (by rw [hc2])
      · have := (h.own b ⟨i', g2, o2, c', h2, hs2⟩).2.1
        omega
    · exfalso
      injection he2 with e1 e2; subst e1
      rw [← h.next, hnew] at h4; injection h4 with h4
      obtain ⟨s1, hs1⟩ := hlt _ _ _ h1
      rw [pre_get hpre hs1] at h3; injection h3 with h3; subst h3
      rcases hs' b c' h4 with ⟨c2, hc2⟩ | ⟨hge, _⟩
      · exact hother i g1 o1 b c hi1 h1 hs1 (by rw [hc2])
      · have := (h.own b ⟨i, g1, o1, c, h1, hs1⟩).2.1
        omega
    · obtain ⟨s1, hs1⟩ := hlt _ _ _ h1
      obtain ⟨s2, hs2⟩ := hlt _ _ _ h2
      rw [pre_get hpre hs1] at h3
      rw [pre_get hpre hs2] at h4
      injection h3 with h3; injection h4 with h4
      subst h3; subst h4
      exact h.inj i i' g1 g2 o1 o2 b c c' h1 h2 hs1 hs2
  · rintro b ⟨i, g1, o1, c, h1, h2⟩
    rcases set_get h1 with ⟨_, he⟩ | ⟨hi, h1⟩
    · injection he with e1 e2; subst e1
      rw [← h.next, hnew] at h2; injection h2 with h2
      rcases hs' b c h2 with ⟨c2, hc2⟩ | ⟨hge, hlt'⟩
      · obtain ⟨a1, a2, a3⟩ := h.own b ⟨pos, g, o, c2, hp, hc2 ▸ hs⟩
        exact ⟨a1, Nat.lt_of_lt_of_le a2 hg.size, a3⟩
      · exact ⟨.inr (Nat.le_trans h.size hge), hlt', fun p hk => by have := (h.kept p b hk).2; omega⟩
    · obtain ⟨s1, hs1⟩ := hlt _ _ _ h1
      rw [pre_get hpre hs1] at h2; injection h2 with h2; subst h2
      obtain ⟨a1, a2, a3⟩ := h.own b ⟨i, g1, o1, c, h1, hs1⟩
      exact ⟨a1, Nat.lt_of_lt_of_le a2 hg.size, a3⟩
  · refine (hg.block b (Nat.lt_of_lt_of_le hb h.size) (fun e => ?_)).trans (h.frame b hb hn)
    obtain ⟨b1, c⟩ := s
    simp at e; subst e
    rcases (h.own b ⟨pos, g, o, c, hp, hs⟩).1 with h1 | h1
    · exact hn h1
    · omega
  · obtain ⟨f1, f2, f3, f4, f5⟩ := h.frz D hD
    have hlt1 := frz_lt f1
    refine ⟨(hg.block D hlt1 (fun e => ?_)).trans f1, f2, ?_, f4, f5⟩
    · obtain ⟨b1, c⟩ := s
      simp at e; subst e
      exact f3 ⟨pos, g, o, c, hp, hs⟩
    · rintro ⟨i, g1, o1, c, h1, h2⟩
      rcases set_get h1 with ⟨_, he⟩ | ⟨hi, h1⟩
      · injection he with e1 e2; subst e1
        rw [← h.next, hnew] at h2; injection h2 with h2
        rcases hs' D c h2 with ⟨c2, hc2⟩ | ⟨hge, hlt'⟩
        · exact f3 ⟨pos, g, o, c2, hp, hc2 ▸ hs⟩
        · omega
      · obtain ⟨s1, hs1⟩ := hlt _ _ _ h1
        rw [pre_get hpre hs1] at h2; injection h2 with h2; subst h2
        exact f3 ⟨i, g1, o1, c, h1, hs1⟩
  · obtain ⟨b1, c⟩ := s
    simp at e; subst e
    exact ⟨pos, g, o, c, hp, hs⟩
  · rintro ⟨i, g1, o1, c, h1, h2⟩
    have hlt1 := (h.gl.2 b hb).1
    rcases set_get h1 with ⟨_, he⟩ | ⟨hi, h1⟩
    · injection he with e1 e2; subst e1
      rw [← h.next, hnew] at h2; injection h2 with h2
      rcases hs' b c h2 with ⟨c2, hc2⟩ | ⟨hge, hlt'⟩
      · exact (h.gl.2 b hb).2 ⟨pos, g, o, c2, hp, hc2 ▸ hs⟩
      · omega
    · obtain ⟨s1, hs1⟩ := hlt _ _ _ h1
      rw [pre_get hpre hs1] at h2; injection h2 with h2; subst h2
      exact (h.gl.2 b hb).2 ⟨i, g1, o1, c, h1, hs1⟩
theorem Rel.put (h : Rel β K σ m w) {pos g : Nat} {o o' : AObj} {s : Option Nat × Nat} (hp : m.store[pos]? = some (g, o)) (hs : σ[g]? = some s)
    (hg : w.grownBy w' s.1) (ho : ObjR σ K w' o' s) : Rel β K σ (m.put pos g o') w' := by
  have hsK : ∀ b c, s = (some b, c) → ∀ p, ¬ K p b := fun b c e => (h.own b ⟨pos, g, o, c, hp, e ▸ hs⟩).2.2
  have hw : ∀ p b, K p b → w'.heap[b]? = w.heap[b]? := fun p b hk => hg.block b (h.kept p b hk).2 (fun e => by
    obtain ⟨b1, c⟩ := s; simp at e; subst e; exact hsK b c rfl p hk)
  have back : ∀ (i g1 : Nat) (o1 : AObj), (m.put pos g o').store[i]? = some (g1, o1) → ∃ o2, m.store[i]? = some (g1, o2) := by
    intro i g1 o1 h1
    rcases set_get h1 with ⟨hi, he⟩ | ⟨_, h1⟩
    · injection he with e1 e2; subst e1; subst hi; exact ⟨o, hp⟩
    · exact ⟨o1, h1⟩
  refine ⟨h.next, fun i g1 o1 ho1 => ?_, ?_, ?_, fun p b hb => ⟨(h.kept p b hb).1, Nat.lt_of_lt_of_le (h.kept p b hb).2 hg.size⟩, h.kept0, h.sig, Nat.le_trans h.size hg.size, fun b hb hn => ?_, hg.os.trans h.os, hg.tape.trans h.tape, hg.output.trans h.output, h.nd, fun D hD => ?_, β.gst w w' h.gl.1 fun b hb => hg.block b (h.gl.2 b hb).1 (fun e => (h.gl.2 b hb).2 ?_), fun b hb => ⟨Nat.lt_of_lt_of_le (h.gl.2 b hb).1 hg.size, ?_⟩⟩
  · rcases set_get ho1 with ⟨_, he⟩ | ⟨hi, ho1⟩
    · injection he with e1 e2; subst e1; subst e2
      exact ⟨s, hs, ho⟩
    · obtain ⟨s1, hs1, hr⟩ := h.objs i g1 o1 ho1
      refine ⟨s1, hs1, hr.mono (List.prefix_refl _) (fun _ _ h => h) hw fun b c e => ?_⟩
      subst e
      refine hg.block b (h.own b ⟨i, g1, o1, c, ho1, hs1⟩).2.1 (fun e => ?_)
      obtain ⟨b1, c1⟩ := s
      simp at e; subst e
      exact hi (h.inj i pos g1 g o1 o b c c1 ho1 hp hs1 hs)
  · intro i i' g1 g2 o1 o2 b c c' h1 h2 h3 h4
    obtain ⟨o1', h1⟩ := back _ _ _ h1
    obtain ⟨o2', h2⟩ := back _ _ _ h2
    exact h.inj i i' g1 g2 o1' o2' b c c' h1 h2 h3 h4
  · rintro b ⟨i, g1, o1, c, h1, h2⟩
    obtain ⟨o1', h1⟩ := back _ _ _ h1
    obtain ⟨a1, a2, a3⟩ := h.own b ⟨i, g1, o1', c, h1, h2⟩
    exact ⟨a1, Nat.lt_of_lt_of_le a2 hg.size, a3⟩
  · refine (hg.block b (Nat.lt_of_lt_of_le hb h.size) (fun e => ?_)).trans (h.frame b hb hn)
    obtain ⟨b1, c⟩ := s
    simp at e; subst e
    rcases (h.own b ⟨pos, g, o, c, hp, hs⟩).1 with h1 | h1
    · exact hn h1
    · omega
  · obtain ⟨f1, f2, f3, f4, f5⟩ := h.frz D hD
    refine ⟨(hg.block D (frz_lt f1) (fun e => ?_)).trans f1, f2, ?_, f4, f5⟩
    · obtain ⟨b1, c⟩ := s
      simp at e; subst e
      exact f3 ⟨pos, g, o, c, hp, hs⟩
    · rintro ⟨i, g1, o1, c, h1, h2⟩
      obtain ⟨o1', h1⟩ := back _ _ _ h1
      exact f3 ⟨i, g1, o1', c, h1, h2⟩
  · obtain ⟨b1, c⟩ := s
    simp at e; subst e
    exact ⟨pos, g, o, c, hp, hs⟩
  · rintro ⟨i, g1, o1, c, h1, h2⟩
    obtain ⟨o1', h1⟩ := back _ _ _ h1
    exact (h.gl.2 b hb).2 ⟨i, g1, o1', c, h1, h2⟩
theorem Rel.forget (h : Rel β K σ m w) (n : Nat) : Rel β K σ ⟨m.store.take n, m.next⟩ w := by
  have back : ∀ (i g1 : Nat) (o1 : AObj), (m.store.take n)[i]? = some (g1, o1) → m.store[i]? = some (g1, o1) := by
    intro i g1 o1 h1
    rw [List.getElem?_take] at h1
    split at h1
    · exact h1
    · cases h1
  exact ⟨h.next, fun pos g o ho => h.objs pos g o (back _ _ _ ho), fun pos pos' g g' o o' b c c' h1 h2 => h.inj pos pos' g g' o o' b c c' (back _ _ _ h1) (back _ _ _ h2),
    fun b ⟨pos, g, o, c, h1, h2⟩ => h.own b ⟨pos, g, o, c, back _ _ _ h1, h2⟩, h.kept, h.kept0, h.sig, h.size, h.frame, h.os, h.tape, h.output, h.nd,
    fun D hD => ⟨(h.frz D hD).1, (h.frz D hD).2.1, fun ⟨pos, g, o, c, h1, h2⟩ => (h.frz D hD).2.2.1 ⟨pos, g, o, c, back _ _ _ h1, h2⟩, (h.frz D hD).2.2.2⟩, h.gl.1, fun b hb => ⟨(h.gl.2 b hb).1, fun ⟨pos, g, o, c, h1, h2⟩ => (h.gl.2 b hb).2 ⟨pos, g, o, c, back _ _ _ h1, h2⟩⟩⟩
end
end Go.Pm
