/- PmLa: calls; calls that neither change memory nor hand any of it back. -/
import Derived.Test.YtmcogjekcefjoaaGreatDoorPmL
namespace Go.Pm
open Go
inductive AOut where
  | ret (v : AV)
  | panic (v : AV)
abbrev uv : AV := .tuple []
def OutR (σ : Sig) (K : Bool → Nat → Prop) (w : World) : AOut → Ending → Prop
  | .ret v, e => ∃ u, e = .returned u ∧ VR σ K w v u
  | .panic v, e => ∃ u, e = .panicked [{ v := u, recovered := false }] ∧ VR σ K w v u
def ACalls (P : Prg) (f : FuncId) (xs : List AV) (m : Mem) (R : AOut → Mem → Prop) : Prop :=
  (∃ fn, P.funcs[f]? = some fn ∧ fn.body.isSome = true ∧ (fn.name == "runtime.NumGoroutine") = false) ∧
  ∀ (β : Base) (K : Bool → Nat → Prop) (σ : Sig) (w : World) (vals : List Value), Rel β K σ m w → VRs σ K w xs vals → β.fits P →
    Calls P f vals.toArray w fun e w' => ∃ K' σ' m' out, R out m' ∧ Rel β K' σ' m' w' ∧ σ <+: σ' ∧ (∀ p b, K p b → K' p b) ∧ (∀ p b, K p b → w'.heap[b]? = w.heap[b]?) ∧ OutR σ' K' w' out e
def Env.put (e : Env) (d : Option Nat) (v : AV) : Env :=
  match d with
  | none => e
  | some d => e.set d v
theorem Env.get_set (e : Env) (d t : Nat) (v : AV) : (e.set d v).get t = if t = d then v else e.get t := by
  induction e with
  | nil => simp only [Env.set, Env.get]; split <;> split <;> first | rfl | omega
  | cons p e ih =>
    obtain ⟨j, x⟩ := p
    simp only [Env.set]
    split
    · rw [Env.get]
      by_cases h : d = t
      · rw [if_pos h, if_pos h.symm]
      · rw [if_neg h, if_neg (fun e => h e.symm)]
    · split
      · rename_i h; subst h
        simp only [Env.get]
        split
        · rw [if_pos (by omega)]
        · rw [if_neg (by omega)]
      · simp only [Env.get, ih]
        split
        · rw [if_neg (by omega)]
        · rfl
mutual
def AV.perm : AV → Bool
  | .any | .bool _ | .int .. | .str _ | .const _ | .nilS => true
  | .list p _ els => p && permLL els
  | .iptr p cs => p && permL cs
  | .ptr .. | .rptr .. | .row .. | .map .. | .yield .. => false
  | .fn _ cs | .agg cs | .tuple cs => permL cs
  | .iface _ v | .kmap _ v | .meth _ v => v.perm
def permL : List AV → Bool
  | [] => true
  | x :: xs => x.perm && permL xs
def permLL : List (List AV) → Bool
  | [] => true
  | x :: xs => permL x && permLL xs
end
mutual
def AV.noref : AV → Bool
  | .any | .bool _ | .int .. | .str _ | .const _ | .nilS => true
  | .list _ _ els => norefLL els
  | .iptr _ cs => norefL cs
  | .ptr .. | .rptr .. | .row .. | .map .. | .yield .. => false
  | .fn _ cs | .agg cs | .tuple cs => norefL cs
  | .iface _ v | .kmap _ v | .meth _ v => v.noref
def norefL : List AV → Bool
  | [] => true
  | x :: xs => x.noref && norefL xs
def norefLL : List (List AV) → Bool
  | [] => true
  | x :: xs => norefL x && norefLL xs
end
section
variable {P : Prg} {σ σ' : Sig} {K K' : Bool → Nat → Prop} {w : World}
mutual
theorem VR.of_perm (hK : ∀ b, K true b → K' true b) : ∀ (x : AV) (v : Value), x.perm = true → VR σ K w x v → VR σ' K' w x v
  | .any, _, _, _ => by simp [VR]
  | .bool b, v, _, h => by simpa [VR] using h
  | .int k n, v, _, h => by simpa [VR] using h
  | .str s, v, _, h => by simpa [VR] using h
  | .const c, v, _, h => by simpa [VR] using h
  | .nilS, v, _, h => by simpa [VR] using h
  | .list p sz els, v, hp, h => by
    rw [VR] at h ⊢
    rw [AV.perm, Bool.and_eq_true] at hp
    obtain ⟨rfl, hp⟩ := hp
    obtain ⟨a, cap, b, o, hv, hc, hb, hl⟩ := h
    exact ⟨a, cap, b, o, hv, hc, hb.imp id fun ⟨h1, h2⟩ => ⟨h1, hK b h2⟩, LR.of_perm hK b els o sz hp hl⟩
  | .iptr p cs, v, hp, h => by
    rw [VR] at h ⊢
    rw [AV.perm, Bool.and_eq_true] at hp
    obtain ⟨rfl, hp⟩ := hp
    obtain ⟨b, o, hv, hb, hc⟩ := h
    exact ⟨b, o, hv, hb.imp id (hK b), CR.of_perm hK b cs o hp hc⟩
  | .ptr pos gen off, v, hp, h => by simp [AV.perm] at hp
  | .rptr pos gen sz idx off, v, hp, h => by simp [AV.perm] at hp
  | .row pos gen sz off len, v, hp, h => by simp [AV.perm] at hp
  | .map pos gen, v, hp, h => by simp [AV.perm] at hp
  | .yield pos gen, v, hp, h => by simp [AV.perm] at hp
  | .fn f caps, v, hp, h => by
    rw [VR] at h ⊢
    obtain ⟨cs, hv, h⟩ := h
    exact ⟨cs, hv, VRs.of_perm hK caps _ hp h⟩
  | .iface t x, v, hp, h => by
    rw [VR] at h ⊢
    obtain ⟨u, hv, h⟩ := h
    exact ⟨u, hv, VR.of_perm hK x u hp h⟩
  | .agg cs, v, hp, h => by
    rw [VR] at h ⊢
    obtain ⟨us, hv, h⟩ := h
    exact ⟨us, hv, VRs.of_perm hK cs _ hp h⟩
  | .tuple cs, v, hp, h => by
    rw [VR] at h ⊢
    obtain ⟨us, hv, h⟩ := h
    exact ⟨us, hv, VRs.of_perm hK cs _ hp h⟩
  | .kmap s x, v, hp, h => by
    rw [VR] at h ⊢
    obtain ⟨b, hv, hb, es, clock, he, j, y, hf, h⟩ := h
    exact ⟨b, hv, hK b hb, es, clock, he, j, y, hf, VR.of_perm hK x y hp h⟩
  | .meth nm x, v, hp, h => by
    rw [VR] at h ⊢
    obtain ⟨u, hv, h⟩ := h
    exact ⟨u, hv, VR.of_perm hK x u hp h⟩
theorem VRs.of_perm (hK : ∀ b, K true b → K' true b) : ∀ (xs : List AV) (us : List Value), permL xs = true → VRs σ K w xs us → VRs σ' K' w xs us
  | [], us, _, h => by simpa [VRs] using h
  | x :: xs, us, hp, h => by
    rw [VRs] at h ⊢
    rw [permL, Bool.and_eq_true] at hp
    obtain ⟨u, us', he, h0, h⟩ := h
    exact ⟨u, us', he, VR.of_perm hK x u hp.1 h0, VRs.of_perm hK xs us' hp.2 h⟩
theorem CR.of_perm (hK : ∀ b, K true b → K' true b) (b : Nat) : ∀ (cs : List AV) (o : Nat), permL cs = true → CR σ K w b o cs → CR σ' K' w b o cs
  | [], _, _, _ => by simp [CR]
  | x :: xs, o, hp, h => by
    rw [CR] at h ⊢
    rw [permL, Bool.and_eq_true] at hp
    obtain ⟨⟨u, hc, h1, h0⟩, h⟩ := h
    exact ⟨⟨u, hc, h1, VR.of_perm hK x u hp.1 h0⟩, CR.of_perm hK b xs (o + 1) hp.2 h⟩
theorem LR.of_perm (hK : ∀ b, K true b → K' true b) (b : Nat) : ∀ (cs : List (List AV)) (o sz : Nat), permLL cs = true → LR σ K w b o sz cs → LR σ' K' w b o sz cs
  | [], _, _, _, _ => by simp [LR]
  | x :: xs, o, sz, hp, h => by
    rw [LR] at h ⊢
    rw [permLL, Bool.and_eq_true] at hp
    exact ⟨h.1, CR.of_perm hK b x o hp.1 h.2.1, LR.of_perm hK b xs (o + sz) sz hp.2 h.2.2⟩
end
mutual
theorem VR.of_noref (hK : ∀ p b, K p b → K' p b) : ∀ (x : AV) (v : Value), x.noref = true → VR σ K w x v → VR σ' K' w x v
  | .any, _, _, _ => by simp [VR]
  | .bool b, v, _, h => by simpa [VR] using h
  | .int k n, v, _, h => by simpa [VR] using h
  | .str s, v, _, h => by simpa [VR] using h
  | .const c, v, _, h => by simpa [VR] using h
  | .nilS, v, _, h => by simpa [VR] using h
  | .list p sz els, v, hp, h => by
    rw [VR] at h ⊢
    rw [AV.noref] at hp
    obtain ⟨a, cap, b, o, hv, hc, hb, hl⟩ := h
    exact ⟨a, cap, b, o, hv, hc, hb.imp id fun ⟨h1, h2⟩ => ⟨h1, hK p b h2⟩, LR.of_noref hK b els o sz hp hl⟩
  | .iptr p cs, v, hp, h => by
    rw [VR] at h ⊢
    rw [AV.noref] at hp
    obtain ⟨b, o, hv, hb, hc⟩ := h
    exact ⟨b, o, hv, hb.imp id (hK p b), CR.of_noref hK b cs o hp hc⟩
  | .ptr pos gen off, v, hp, h => by simp [AV.noref] at hp
  | .rptr pos gen sz idx off, v, hp, h => by simp [AV.noref] at hp
  | .row pos gen sz off len, v, hp, h => by simp [AV.noref] at hp
  | .map pos gen, v, hp, h => by simp [AV.noref] at hp
  | .yield pos gen, v, hp, h => by simp [AV.noref] at hp
  | .fn f caps, v, hp, h => by
    rw [VR] at h ⊢
    obtain ⟨cs, hv, h⟩ := h
    exact ⟨cs, hv, VRs.of_noref hK caps _ hp h⟩
  | .iface t x, v, hp, h => by
    rw [VR] at h ⊢
    obtain ⟨u, hv, h⟩ := h
    exact ⟨u, hv, VR.of_noref hK x u hp h⟩
  | .agg cs, v, hp, h => by
    rw [VR] at h ⊢
    obtain ⟨us, hv, h⟩ := h
    exact ⟨us, hv, VRs.of_noref hK cs _ hp h⟩
  | .tuple cs, v, hp, h => by
    rw [VR] at h ⊢
    obtain ⟨us, hv, h⟩ := h
    exact ⟨us, hv, VRs.of_noref hK cs _ hp h⟩
  | .kmap s x, v, hp, h => by
    rw [VR] at h ⊢
    obtain ⟨b, hv, hb, es, clock, he, j, y, hf, h⟩ := h
    exact ⟨b, hv, hK true b hb, es, clock, he, j, y, hf, VR.of_noref hK x y hp h⟩
  | .meth nm x, v, hp, h => by
    rw [VR] at h ⊢
    obtain ⟨u, hv, h⟩ := h
    exact ⟨u, hv, VR.of_noref hK x u hp h⟩
theorem VRs.of_noref (hK : ∀ p b, K p b → K' p b) : ∀ (xs : List AV) (us : List Value), norefL xs = true → VRs σ K w xs us → VRs σ' K' w xs us
  | [], us, _, h => by simpa [VRs] using h
  | x :: xs, us, hp, h => by
    rw [VRs] at h ⊢
    rw [norefL, Bool.and_eq_true] at hp
    obtain ⟨u, us', he, h0, h⟩ := h
    exact ⟨u, us', he, VR.of_noref hK x u hp.1 h0, VRs.of_noref hK xs us' hp.2 h⟩
theorem CR.of_noref (hK : ∀ p b, K p b → K' p b) (b : Nat) : ∀ (cs : List AV) (o : Nat), norefL cs = true → CR σ K w b o cs → CR σ' K' w b o cs
  | [], _, _, _ => by simp [CR]
  | x :: xs, o, hp, h => by
    rw [CR] at h ⊢
    rw [norefL, Bool.and_eq_true] at hp
    obtain ⟨⟨u, hc, h1, h0⟩, h⟩ := h
    exact ⟨⟨u, hc, h1, VR.of_noref hK x u hp.1 h0⟩, CR.of_noref hK b xs (o + 1) hp.2 h⟩
theorem LR.of_noref (hK : ∀ p b, K p b → K' p b) (b : Nat) : ∀ (cs : List (List AV)) (o sz : Nat), norefLL cs = true → LR σ K w b o sz cs → LR σ' K' w b o sz cs
  | [], _, _, _, _ => by simp [LR]
  | x :: xs, o, sz, hp, h => by
    rw [LR] at h ⊢
    rw [norefLL, Bool.and_eq_true] at hp
    exact ⟨h.1, CR.of_noref hK b x o hp.1 h.2.1, LR.of_noref hK b xs (o + sz) sz hp.2 h.2.2⟩
end
def tmpB (m : Mem) : AV → Option AV
  | .row pos gen sz off len => match elsOf m sz (.row pos gen sz off len) with
    | some els => if norefLL els then some (.list false sz els) else none
    | none => none
  | .ptr pos gen off => match m.obj pos gen with
    | some (.cells vs) => if off ≤ vs.length ∧ norefL vs = true then some (.iptr false (vs.drop off)) else none
    | _ => none
  | .nilS => some (.nilS)
  | x => if x.noref then some x else none
def tmpBs (m : Mem) : List AV → Option (List AV)
  | [] => some []
  | x :: l => match tmpB m x, tmpBs m l with
    | some y, some ys => some (y :: ys)
    | _, _ => none
def tmpA (m : Mem) : AV → Option AV
  | .fn f caps => (tmpBs m caps).map (.fn f)
  | .agg vs => if norefL vs then some (.agg vs) else (tmpBs m vs).map .agg
  | x => tmpB m x
def tmpAs (m : Mem) : List AV → Option (List AV)
  | [] => some []
  | x :: l => match tmpA m x, tmpAs m l with
    | some y, some ys => some (y :: ys)
    | _, _ => none
def permA (m : Mem) : AV → Option AV
  | .row pos gen sz off len => match elsOf m sz (.row pos gen sz off len) with
    | some els => if permLL els then some (.list true sz els) else none
    | none => none
  | x => if x.perm then some x else none
def permAs (m : Mem) : List AV → Option (List AV)
  | [] => some []
  | x :: l => match permA m x, permAs m l with
    | some y, some ys => some (y :: ys)
    | _, _ => none
def permR (m : Mem) : AV → Option AV
  | .tuple vs => (permAs m vs).map .tuple
  | .agg vs => (permAs m vs).map .agg
  | x => permA m x
def permO (m : Mem) : AOut → Option AOut
  | .ret v => (permR m v).map .ret
  | .panic v => (permR m v).map .panic
def AOut.perm : AOut → Bool
  | .ret v => v.perm
  | .panic v => v.perm
def Prg.lies (P : Prg) (w : World) : Prop := P.ok w ∧ ∀ b, P.blocks b → b < w.heap.size
theorem Rel.lies {β : Base} {m : Mem} (h : Rel β K σ m w) (hβ : β.fits P) : P.lies w := ⟨hβ.1 ▸ h.gl.1, fun b hb => (h.gl.2 b (hβ.2 ▸ hb)).1⟩
def PCalls (P : Prg) (f : FuncId) (xs : List AV) (R : AOut → Prop) : Prop :=
  (∃ fn, P.funcs[f]? = some fn ∧ fn.body.isSome = true ∧ (fn.name == "runtime.NumGoroutine") = false) ∧
  ∀ (K : Bool → Nat → Prop) (w : World) (vals : List Value), (∀ p b, K p b → b < w.heap.size) → VRs [] K w xs vals → P.lies w →
    Calls P f vals.toArray w fun e w' => ∃ K' out, R out ∧ out.perm = true ∧ w.grownBy w' none ∧ (∀ p b, K p b → K' p b) ∧ (∀ p b, K' p b → K p b ∨ w.heap.size ≤ b ∧ b < w'.heap.size) ∧ OutR [] K' w' out e
theorem grownBy_of {w w' : World} {β : Base} {m : Mem} (hw : β.w0 = w) (h0 : ∀ b, ¬ β.own0 b) (h : Rel β K σ m w') : w.grownBy w' none := by
  subst hw
  exact ⟨h.os, h.tape, h.output, h.size, fun k hk _ => h.frame k hk (h0 k)⟩
theorem OutR.of_perm {out : AOut} {e : Ending} (hK : ∀ b, K true b → K' true b) (hp : out.perm = true) (h : OutR σ K w out e) : OutR σ' K' w out e := by
  cases out with
  | ret v => obtain ⟨u, h1, h2⟩ := h; exact ⟨u, h1, VR.of_perm hK v u hp h2⟩
  | panic v => obtain ⟨u, h1, h2⟩ := h; exact ⟨u, h1, VR.of_perm hK v u hp h2⟩
theorem PCalls.mono {f : FuncId} {xs : List AV} {R R' : AOut → Prop} (h : PCalls P f xs R) (hR : ∀ out, R out → R' out) : PCalls P f xs R' :=
  ⟨h.1, fun K w vals h1 h2 h3 => (h.2 K w vals h1 h2 h3).mono fun _ _ ⟨K', out, h4, h5⟩ => ⟨K', out, hR out h4, h5⟩⟩
theorem tmpB_sound {β : Base} {m : Mem} (hrel : Rel β K σ m w) {x y : AV} {u : Value} (h : tmpB m x = some y) (hx : VR σ K w x u) : VR [] (fun p b => if p then K true b else b < w.heap.size) w y u := by
  have hK : ∀ p b, K p b → (if p = true then K true b else b < w.heap.size) := by
    intro p b hb
    cases p
    · exact (hrel.kept _ b hb).2
    · exact hb
  cases x <;> simp only [tmpB, Option.ite_none_right_eq_some, Option.some.injEq] at h
  case row pos gen sz off len =>
    split at h
    · rename_i els hels
      simp only [Option.ite_none_right_eq_some, Option.some.injEq] at h
      obtain ⟨hn, rfl⟩ := h
      have hx0 := hx
      obtain ⟨h1, ad, cap, he, hc⟩ := elsOf_sound hrel hx hels
      have hcap : ∃ cap', u = .slice ad els.length cap' ∧ els.length ≤ cap' ∧ ∀ b o, ad = some ⟨b, o, none⟩ → els ≠ [] → b < w.heap.size := by
        simp only [elsOf, if_true] at hels
        split at hels
        · rename_i e sz'' els' hobj
          simp only [Option.ite_none_right_eq_some, Option.some.injEq] at hels
          obtain ⟨⟨_, hle⟩, rfl⟩ := hels
          have hlen : ((els'.drop off).take len).length = len := by simp; omega
          rw [VR] at hx0
          rcases hx0 with ⟨b, c, hg, hoc, hu⟩ | ⟨_, hl, _, hu⟩ | ⟨hl, _, _, a, c, hu⟩
          · refine ⟨cap, he, ?_, ?_⟩
            · rw [hu] at he; injection he with _ _ e3; rw [hlen]; omega
            · intro b' o' hb' _
              rw [hu] at he; injection he with e1
              rw [← e1] at hb'; injection hb' with hb'; injection hb' with hb'
              subst hb'
              exact (hrel.own b ⟨pos, gen, _, c, Mem.obj_some hobj, hg⟩).2.1
          · subst hl; exact ⟨cap, he, by simp, fun b o _ hne => absurd (by simp) hne⟩
          · subst hl; exact ⟨cap, he, by simp, fun b o _ hne => absurd (by simp) hne⟩
        · cases hels
      obtain ⟨cap', he', hle, hlt⟩ := hcap
      rw [VR]
      rcases hc with rfl | ⟨b, o, ha, hcr⟩
      · exact ⟨ad, cap', 0, 0, he', hle, .inl rfl, by simp [LR]⟩
      · refine ⟨ad, cap', b, o, he', hle, ?_, LR.of_noref hK b els o sz hn (LR_flat.2 ⟨h1, hcr⟩)⟩
        by_cases hne : els = []
        · exact .inl hne
        · exact .inr ⟨ha, by simpa using hlt b o ha hne⟩
    · cases h
  case ptr pos gen off =>
    split at h
    · rename_i vs hobj
      simp only [Option.ite_none_right_eq_some, Option.some.injEq] at h
      obtain ⟨⟨hle, hn⟩, rfl⟩ := h
      have hat : cellsAt m (.ptr pos gen off) (vs.length - off) = some (vs.drop off) := by
        simp only [cellsAt, hobj]
        rw [if_pos (by omega), List.take_of_length_le (by simp)]
      obtain ⟨_, b, o, hu, hc⟩ := cellsAt_sound hrel hx hat
      have hlt : b < w.heap.size := by
        rw [VR] at hx
        obtain ⟨b', c, hg, hu'⟩ := hx
        rw [hu] at hu'
        injection hu' with hu'; injection hu' with hu'; injection hu' with hu'
        subst hu'
        exact (hrel.own b ⟨pos, gen, _, c, Mem.obj_some hobj, hg⟩).2.1
      have hnd : norefL (vs.drop off) = true := by
        have key : ∀ (l : List AV) (n : Nat), norefL l = true → norefL (l.drop n) = true := by
          intro l
          induction l with
          | nil => intro n _; simp [norefL]
          | cons x l ih =>
            intro n h
            cases n with
            | zero => exact h
            | succ n => rw [norefL, Bool.and_eq_true] at h; exact ih n h.2
        exact key vs off hn
      rw [VR]
      exact ⟨b, o, hu, .inr (by simpa using hlt), CR.of_noref hK b _ o hnd hc⟩
    · cases h
  case nilS => subst h; rw [VR] at hx ⊢; exact hx
  all_goals (obtain ⟨hn, rfl⟩ := h; exact VR.of_noref hK _ _ hn hx)
theorem tmpBs_sound {β : Base} {m : Mem} (hrel : Rel β K σ m w) : ∀ {xs ys : List AV} {us : List Value}, tmpBs m xs = some ys → VRs σ K w xs us → VRs [] (fun p b => if p then K true b else b < w.heap.size) w ys us
  | [], ys, us, h, hx => by simp only [tmpBs, Option.some.injEq] at h; subst h; rw [VRs] at hx ⊢; exact hx
  | x :: xs, ys, us, h, hx => by
    unfold tmpBs at h
    split at h
    · rename_i y ys' h1 h2
      injection h with h; subst h
      obtain ⟨u, us', rfl, hV, hx⟩ := hx
      exact ⟨u, us', rfl, tmpB_sound hrel h1 hV, tmpBs_sound hrel h2 hx⟩
    · cases h
theorem tmpA_sound {β : Base} {m : Mem} (hrel : Rel β K σ m w) {x y : AV} {u : Value} (h : tmpA m x = some y) (hx : VR σ K w x u) : VR [] (fun p b => if p then K true b else b < w.heap.size) w y u := by
  cases x
  case fn f caps =>
    simp only [tmpA, Option.map_eq_some_iff] at h
    obtain ⟨ys, h, rfl⟩ := h
    rw [VR] at hx ⊢
    obtain ⟨cs, hu, hV⟩ := hx
    exact ⟨cs, hu, tmpBs_sound hrel h hV⟩
  case agg vs =>
    simp only [tmpA] at h
    split at h
    · rename_i hn
      exact tmpB_sound hrel (by simp only [tmpB, AV.noref, hn, if_true]; exact h) hx
    · simp only [Option.map_eq_some_iff] at h
      obtain ⟨ys, h, rfl⟩ := h
      rw [VR] at hx ⊢
      obtain ⟨us, hu, hV⟩ := hx
      exact ⟨us, hu, tmpBs_sound hrel h hV⟩
  all_goals (simp only [tmpA] at h; exact tmpB_sound hrel h hx)
theorem tmpAs_sound {β : Base} {m : Mem} (hrel : Rel β K σ m w) : ∀ {xs ys : List AV} {us : List Value}, tmpAs m xs = some ys → VRs σ K w xs us → VRs [] (fun p b => if p then K true b else b < w.heap.size) w ys us
  | [], ys, us, h, hx => by simp only [tmpAs, Option.some.injEq] at h; subst h; rw [VRs] at hx ⊢; exact hx
  | x :: xs, ys, us, h, hx => by
    unfold tmpAs at h
    split at h
    · rename_i y ys' h1 h2
      injection h with h; subst h
      obtain ⟨u, us', rfl, hV, hx⟩ := hx
      exact ⟨u, us', rfl, tmpA_sound hrel h1 hV, tmpAs_sound hrel h2 hx⟩
    · cases h
theorem PCalls.acalls {f : FuncId} {xs ys : List AV} {m : Mem} {R : AOut → Prop} (h : PCalls P f ys R) (hx : tmpAs m xs = some ys) : ACalls P f xs m fun out m' => R out ∧ m' = m := by
  refine ⟨h.1, fun β K σ w vals hrel hv hβ => ?_⟩
  refine (h.2 (fun p b => if p then K true b else b < w.heap.size) w vals ?_ (tmpAs_sound hrel hx hv) (hrel.lies hβ)).mono ?_
  · intro p b hb
    cases p
    · exact hb
    · exact (hrel.kept _ b hb).2
  · rintro e w' ⟨K', out, hR, hp, hg, h1, h2, hout⟩
    refine ⟨fun p b => K p b ∨ (w.heap.size ≤ b ∧ b < w'.heap.size), σ, m, out, ⟨hR, rfl⟩, hrel.grow hg (fun p b hb => .inl hb) (fun p b hb => hb), List.prefix_refl _, fun p b hb => .inl hb,
      fun p b hb => hg.block b (hrel.kept p b hb).2 (by simp), OutR.of_perm (fun b hb => ?_) hp hout⟩
    rcases h2 true b hb with hb | hb
    · exact .inl hb
    · exact .inr hb
end
end Go.Pm
