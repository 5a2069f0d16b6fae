/- PmB: what abstract values and memories say of Go's. -/
import Derived.Test.YtmcogjekcefjoaaGreatDoorPmA
namespace Go.Pm
open Go
abbrev Sig := List (Option Nat × Nat)
mutual
def VR (σ : Sig) (K : Bool → Nat → Prop) (w : World) : AV → Value → Prop
  | .any, _ => True
  | .bool b, v => v = .bool b
  | .int k n, v => v = .int k n
  | .str s, v => v = .string s
  | .const c, v => v = c
  | .nilS, v => v = .slice none 0 0
  | .list p sz els, v => ∃ a cap b o, v = .slice a els.length cap ∧ els.length ≤ cap ∧ (els = [] ∨ (a = some ⟨b, o, none⟩ ∧ K p b)) ∧ LR σ K w b o sz els
  | .iptr p cs, v => ∃ b o, v = .pointer (some ⟨b, o, none⟩) ∧ (cs = [] ∨ K p b) ∧ CR σ K w b o cs
  | .ptr _ gen off, v => ∃ b c, σ[gen]? = some (some b, c) ∧ v = .pointer (some ⟨b, off, none⟩)
  | .rptr _ gen sz idx off, v => ∃ b c, σ[gen]? = some (some b, c) ∧ v = .pointer (some ⟨b, idx * sz + off, none⟩)
  | .row _ gen sz off len, v => (∃ b c, σ[gen]? = some (some b, c) ∧ off + len ≤ c ∧ v = .slice (some ⟨b, off * sz, none⟩) len (c - off))
      ∨ (σ[gen]? = some (none, 0) ∧ len = 0 ∧ off = 0 ∧ v = .slice none 0 0) ∨ (len = 0 ∧ 0 < off ∧ (∃ s, σ[gen]? = some s) ∧ ∃ a c, v = .slice a 0 c)
  | .map _ gen, v => ∃ b c, σ[gen]? = some (some b, c) ∧ v = .map (some b)
  | .fn f caps, v => ∃ cs, v = .func (.func f) #[] cs ∧ VRs σ K w caps cs.toList
  | .yield _ gen, v => ∃ b c, σ[gen]? = some (some b, c) ∧ v = .func (.yield b) #[] #[]
  | .iface t x, v => ∃ u, v = .iface t u ∧ VR σ K w x u
  | .agg cs, v => ∃ us, v = .agg us ∧ VRs σ K w cs us.toList
  | .tuple vs, v => ∃ us, v = .tuple us ∧ VRs σ K w vs us.toList
  | .meth nm x, v => ∃ u, v = .func (.method nm) #[u] #[] ∧ VR σ K w x u
  | .kmap s x, v => ∃ b, v = .map (some b) ∧ K true b ∧ ∃ es clock, w.heap[b]? = some (.map es clock) ∧ ∃ j y, Instr.findNow .string (.string s) es.toList 0 = some (some (j, y)) ∧ VR σ K w x y
def VRs (σ : Sig) (K : Bool → Nat → Prop) (w : World) : List AV → List Value → Prop
  | [], l => l = []
  | x :: xs, l => ∃ u us, l = u :: us ∧ VR σ K w x u ∧ VRs σ K w xs us
def CR (σ : Sig) (K : Bool → Nat → Prop) (w : World) (b o : Nat) : List AV → Prop
  | [] => True
  | x :: xs => (∃ u, w.cell? ⟨b, o, none⟩ = some u ∧ u.oneCell' = true ∧ VR σ K w x u) ∧ CR σ K w b (o + 1) xs
def LR (σ : Sig) (K : Bool → Nat → Prop) (w : World) (b o sz : Nat) : List (List AV) → Prop
  | [] => True
  | c :: cs => c.length = sz ∧ CR σ K w b o c ∧ LR σ K w b (o + sz) sz cs
end
section
variable {σ σ' : Sig} {K K' : Bool → Nat → Prop} {w w' : World}
theorem CR_iff {b : Nat} : ∀ {cs : List AV} {o : Nat}, CR σ K w b o cs ↔ ∀ j x, cs[j]? = some x → ∃ u, w.cell? ⟨b, o + j, none⟩ = some u ∧ u.oneCell' = true ∧ VR σ K w x u
  | [], o => by simp [CR]
  | c :: cs, o => by
    rw [CR, CR_iff (cs := cs) (o := o + 1)]
    constructor
    · rintro ⟨h0, h⟩ j x hj
      cases j with
      | zero => simp at hj; subst hj; simpa using h0
      | succ j => have := h j x (by simpa using hj); rwa [show o + 1 + j = o + (j + 1) by omega] at this
    · intro h
      refine ⟨by simpa using h 0 c rfl, fun j x hj => ?_⟩
      have := h (j + 1) x (by simpa using hj)
      rwa [show o + (j + 1) = o + 1 + j by omega] at this
theorem LR_iff {b sz : Nat} : ∀ {cs : List (List AV)} {o : Nat}, LR σ K w b o sz cs ↔ ∀ (i : Nat) (c : List AV), cs[i]? = some c → c.length = sz ∧ CR σ K w b (o + i * sz) c
  | [], o => by simp [LR]
  | c :: cs, o => by
    rw [LR, LR_iff (cs := cs) (o := o + sz)]
    constructor
    · rintro ⟨h0, h1, h⟩ j x hj
      cases j with
      | zero => simp at hj; subst hj; simpa using ⟨h0, h1⟩
      | succ j => have := h j x (by simpa using hj); rwa [show o + sz + j * sz = o + (j + 1) * sz by rw [Nat.add_mul]; omega] at this
    · intro h
      obtain ⟨h0, h1⟩ := h 0 c rfl
      refine ⟨h0, by simpa using h1, fun j x hj => ?_⟩
      have := h (j + 1) x (by simpa using hj)
      rwa [show o + (j + 1) * sz = o + sz + j * sz by rw [Nat.add_mul]; omega] at this
theorem VRs_length : ∀ {xs : List AV} {us : List Value}, VRs σ K w xs us → us.length = xs.length
  | [], us, h => by rw [VRs] at h; simp [h]
  | x :: xs, us, h => by rw [VRs] at h; obtain ⟨u, us, rfl, _, h⟩ := h; simp [VRs_length h]
theorem VRs_iff : ∀ {xs : List AV} {us : List Value}, VRs σ K w xs us ↔ us.length = xs.length ∧ ∀ (j : Nat) (x : AV), xs[j]? = some x → ∃ u, us[j]? = some u ∧ VR σ K w x u
  | [], us => by simp [VRs]
  | x :: xs, us => by
    rw [VRs]
    constructor
    · rintro ⟨u, us, rfl, h0, h⟩
      obtain ⟨h1, h2⟩ := VRs_iff.1 h
      refine ⟨by simp [h1], fun j y hj => ?_⟩
      cases j with
      | zero => simp at hj; subst hj; exact ⟨u, rfl, h0⟩
      | succ j => simpa using h2 j y (by simpa using hj)
    · rintro ⟨h1, h2⟩
      cases us with
      | nil => simp at h1
      | cons u us =>
        obtain ⟨u', hu, h0⟩ := h2 0 x rfl
        simp at hu; subst hu
        exact ⟨u, us, rfl, h0, VRs_iff.2 ⟨by simpa using h1, fun j y hj => by simpa using h2 (j + 1) y (by simpa using hj)⟩⟩
theorem VRs_append {xs ys : List AV} {us vs : List Value} (h : VRs σ K w xs us) (h' : VRs σ K w ys vs) : VRs σ K w (xs ++ ys) (us ++ vs) := by
  induction xs generalizing us with
  | nil => rw [VRs] at h; subst h; exact h'
  | cons x xs ih => rw [VRs] at h; obtain ⟨u, us, rfl, h0, h⟩ := h; exact ⟨u, us ++ vs, rfl, h0, ih h⟩
theorem pre_get {α : Type} {l l' : List α} (h : l <+: l') {i : Nat} {x : α} (hg : l[i]? = some x) : l'[i]? = some x := by
  obtain ⟨t, rfl⟩ := h
  obtain ⟨hi, he⟩ := List.getElem?_eq_some_iff.1 hg
  rw [List.getElem?_append_left hi]; exact hg
theorem cell?_congr {a : Addr} (h : w'.heap[a.block]? = w.heap[a.block]?) : w'.cell? a = w.cell? a := by simp [World.cell?, h]
mutual
theorem VR.mono (hσ : σ <+: σ') (hK : ∀ p b, K p b → K' p b) (hw : ∀ p b, K p b → w'.heap[b]? = w.heap[b]?) : ∀ (x : AV) (v : Value), VR σ K w x v → VR σ' K' w' x v
  | .any, _, _ => by simp [VR]
  | .bool b, v, h => by simpa [VR] using h
  | .int k n, v, h => by simpa [VR] using h
  | .str s, v, h => by simpa [VR] using h
  | .const c, v, h => by simpa [VR] using h
  | .nilS, v, h => by simpa [VR] using h
  | .list p sz els, v, h => by
    rw [VR] at h ⊢
    obtain ⟨a, cap, b, o, hv, hc, hb, hl⟩ := h
    rcases hb with rfl | ⟨ha, hb⟩
    · exact ⟨a, cap, b, o, hv, hc, .inl rfl, by simp [LR]⟩
    · exact ⟨a, cap, b, o, hv, hc, .inr ⟨ha, hK p b hb⟩, LR.mono hσ hK hw b (hw p b hb) els o sz hl⟩
  | .iptr p cs, v, h => by
    rw [VR] at h ⊢
    obtain ⟨b, o, hv, hb, hc⟩ := h
    rcases hb with rfl | hb
    · exact ⟨b, o, hv, .inl rfl, by simp [CR]⟩
    · exact ⟨b, o, hv, .inr (hK p b hb), CR.mono hσ hK hw b (hw p b hb) cs o hc⟩
  | .ptr pos gen off, v, h => by
    rw [VR] at h ⊢
    obtain ⟨b, c, hg, hv⟩ := h
    exact ⟨b, c, pre_get hσ hg, hv⟩
  | .rptr pos gen sz idx off, v, h => by
    rw [VR] at h ⊢
    obtain ⟨b, c, hg, hv⟩ := h
    exact ⟨b, c, pre_get hσ hg, hv⟩
  | .row pos gen sz off len, v, h => by
    rw [VR] at h ⊢
    rcases h with ⟨b, c, hg, h⟩ | ⟨hg, h⟩ | ⟨h1, h2, ⟨s, h3⟩, h4⟩
    · exact .inl ⟨b, c, pre_get hσ hg, h⟩
    · exact .inr (.inl ⟨pre_get hσ hg, h⟩)
    · exact .inr (.inr ⟨h1, h2, ⟨s, pre_get hσ h3⟩, h4⟩)
  | .map pos gen, v, h => by
    rw [VR] at h ⊢
    obtain ⟨b, c, hg, hv⟩ := h
    exact ⟨b, c, pre_get hσ hg, hv⟩
  | .fn f caps, v, h => by
    rw [VR] at h ⊢
    obtain ⟨cs, hv, h⟩ := h
    exact ⟨cs, hv, VRs.mono hσ hK hw caps _ h⟩
  | .yield pos gen, v, h => by
    rw [VR] at h ⊢
    obtain ⟨b, c, hg, hv⟩ := h
    exact ⟨b, c, pre_get hσ hg, hv⟩
  | .iface t x, v, h => by
    rw [VR] at h ⊢
    obtain ⟨u, hv, h⟩ := h
    exact ⟨u, hv, VR.mono hσ hK hw x u h⟩
  | .agg cs, v, h => by
    rw [VR] at h ⊢
    obtain ⟨us, hv, h⟩ := h
    exact ⟨us, hv, VRs.mono hσ hK hw cs _ h⟩
  | .tuple cs, v, h => by
    rw [VR] at h ⊢
    obtain ⟨us, hv, h⟩ := h
    exact ⟨us, hv, VRs.mono hσ hK hw cs _ h⟩
  | .kmap s x, v, h => by
    rw [VR] at h ⊢
    obtain ⟨b, hv, hb, es, clock, he, j, y, hf, h⟩ := h
    exact ⟨b, hv, hK true b hb, es, clock, (hw true b hb).trans he, j, y, hf, VR.mono hσ hK hw x y h⟩
  | .meth nm x, v, h => by
    rw [VR] at h ⊢
    obtain ⟨u, hv, h⟩ := h
    exact ⟨u, hv, VR.mono hσ hK hw x u h⟩
theorem VRs.mono (hσ : σ <+: σ') (hK : ∀ p b, K p b → K' p b) (hw : ∀ p b, K p b → w'.heap[b]? = w.heap[b]?) : ∀ (xs : List AV) (us : List Value), VRs σ K w xs us → VRs σ' K' w' xs us
  | [], us, h => by simpa [VRs] using h
  | x :: xs, us, h => by
    rw [VRs] at h ⊢
    obtain ⟨u, us', he, h0, h⟩ := h
    exact ⟨u, us', he, VR.mono hσ hK hw x u h0, VRs.mono hσ hK hw xs us' h⟩
theorem CR.mono (hσ : σ <+: σ') (hK : ∀ p b, K p b → K' p b) (hw : ∀ p b, K p b → w'.heap[b]? = w.heap[b]?) (b : Nat) (hb : w'.heap[b]? = w.heap[b]?) : ∀ (cs : List AV) (o : Nat), CR σ K w b o cs → CR σ' K' w' b o cs
  | [], _, _ => by simp [CR]
  | x :: xs, o, h => by
    rw [CR] at h ⊢
    obtain ⟨⟨u, hc, h1, h0⟩, h⟩ := h
    exact ⟨⟨u, (cell?_congr (a := ⟨b, o, none⟩) hb).trans hc, h1, VR.mono hσ hK hw x u h0⟩, CR.mono hσ hK hw b hb xs (o + 1) h⟩
theorem LR.mono (hσ : σ <+: σ') (hK : ∀ p b, K p b → K' p b) (hw : ∀ p b, K p b → w'.heap[b]? = w.heap[b]?) (b : Nat) (hb : w'.heap[b]? = w.heap[b]?) : ∀ (cs : List (List AV)) (o sz : Nat), LR σ K w b o sz cs → LR σ' K' w' b o sz cs
  | [], _, _, _ => by simp [LR]
  | x :: xs, o, sz, h => by
    rw [LR] at h ⊢
    exact ⟨h.1, CR.mono hσ hK hw b hb x o h.2.1, LR.mono hσ hK hw b hb xs (o + sz) sz h.2.2⟩
end
theorem VR.oneCell {x : AV} {v : Value} (h : VR σ K w x v) (h1 : x.one = true) : v.oneCell' = true := by
  cases x <;> simp only [AV.one, Bool.false_eq_true] at h1 <;> rw [VR] at h
  case bool => subst h; rfl
  case int => subst h; rfl
  case str => subst h; rfl
  case const => subst h; exact h1
  case nilS => subst h; rfl
  case list => obtain ⟨a, cap, b, o, rfl, _⟩ := h; rfl
  case iptr => obtain ⟨b, o, rfl, _⟩ := h; rfl
  case ptr => obtain ⟨b, o, _, rfl⟩ := h; rfl
  case rptr => obtain ⟨b, o, _, rfl⟩ := h; rfl
  case row => rcases h with ⟨b, c, _, _, rfl⟩ | ⟨_, _, _, rfl⟩ | ⟨_, _, _, a, c, rfl⟩ <;> rfl
  case map => obtain ⟨b, o, _, rfl⟩ := h; rfl
  case fn => obtain ⟨cs, rfl, _⟩ := h; rfl
  case yield => obtain ⟨b, c, _, rfl⟩ := h; rfl
  case iface => obtain ⟨u, rfl, _⟩ := h; rfl
  case kmap => obtain ⟨b, rfl, _⟩ := h; rfl
  case meth => obtain ⟨u, rfl, _⟩ := h; rfl
theorem cells_one {v : Value} (h : v.oneCell' = true) : v.cells = #[v] := by cases v <;> first | rfl | simp [Value.oneCell'] at h
theorem AV.cells_one {x : AV} (h : ∀ cs, x ≠ .agg cs) : x.cells = [x] := by
  cases x <;> first | rfl | exact absurd rfl (h _)
theorem VR.cells {x : AV} {v : Value} (h : VR σ K w x v) (h1 : x.cells.all AV.one = true) : VRs σ K w x.cells v.cells.toList := by
  by_cases hx : ∃ cs, x = .agg cs
  · obtain ⟨cs, rfl⟩ := hx
    rw [VR] at h; obtain ⟨us, rfl, h⟩ := h; exact h
  · have hc := AV.cells_one (x := x) (fun cs e => hx ⟨cs, e⟩)
    rw [hc] at h1 ⊢
    have h1' : x.one = true := by simpa using h1
    rw [Pm.cells_one (h.oneCell h1')]
    exact ⟨v, [], rfl, h, rfl⟩
end
end Go.Pm
