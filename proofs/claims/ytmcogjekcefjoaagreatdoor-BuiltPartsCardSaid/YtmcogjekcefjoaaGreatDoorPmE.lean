/- PmE: plain operations do what is said of them. -/
import Derived.Test.YtmcogjekcefjoaaGreatDoorPmD
namespace Go.Pm
open Go
def Done (β : Base) (K : Bool → Nat → Prop) (σ : Sig) (w : World) (m' : Mem) (v : AV) (r : Result Next) : Prop :=
  ∃ (w' : World) (σ' : Sig) (u : Value) (nx : Next), r = .ok nx w' ∧ (nx = .value u ∨ nx = .skip ∧ u = undef) ∧ σ <+: σ' ∧ VR σ' K w' v u ∧ Rel β K σ' m' w' ∧ ∀ p b, K p b → w'.heap[b]? = w.heap[b]?
section
variable {P : Program} {β : Base} {σ : Sig} {K : Bool → Nat → Prop} {w : World} {m m' : Mem} {v : AV} {ρ : Operand → Value}
theorem Done.pure {u : Value} (hrel : Rel β K σ m w) (hu : VR σ K w v u) : Done β K σ w m v (.ok (.value u) w) :=
  ⟨w, σ, u, _, rfl, .inl rfl, List.prefix_refl _, hu, hrel, fun _ _ _ => rfl⟩
theorem VRs1 {x : AV} {us : List Value} (h : VRs σ K w [x] us) : ∃ u, us = [u] ∧ VR σ K w x u := by
  obtain ⟨u, us, rfl, h, h'⟩ := h; rw [VRs] at h'; subst h'; exact ⟨u, rfl, h⟩
theorem VRs2 {x y : AV} {us : List Value} (h : VRs σ K w [x, y] us) : ∃ u v, us = [u, v] ∧ VR σ K w x u ∧ VR σ K w y v := by
  obtain ⟨u, us, rfl, h, h'⟩ := h; obtain ⟨u', rfl, h2⟩ := VRs1 h'; exact ⟨u, u', rfl, h, h2⟩
theorem VRs3 {x y z : AV} {us : List Value} (h : VRs σ K w [x, y, z] us) : ∃ u v t, us = [u, v, t] ∧ VR σ K w x u ∧ VR σ K w y v ∧ VR σ K w z t := by
  obtain ⟨u, us, rfl, h, h'⟩ := h; obtain ⟨u', v', rfl, h2, h3⟩ := VRs2 h'; exact ⟨u, u', v', rfl, h, h2, h3⟩
theorem VRs_ones {xs : List AV} {us : List Value} (h : VRs σ K w xs us) (h1 : xs.all AV.one = true) : ∀ u ∈ us, u.oneCell' = true := by
  induction xs generalizing us with
  | nil => rw [VRs] at h; subst h; simp
  | cons x xs ih =>
    obtain ⟨u, us, rfl, h0, h⟩ := h
    simp only [List.all_cons, Bool.and_eq_true] at h1
    intro y hy
    rcases List.mem_cons.1 hy with rfl | hy
    · exact h0.oneCell h1.1
    · exact ih h h1.2 y hy
theorem cell?_cells {w : World} {b o : Nat} {cur : Array Value} {e : TypeId} {fr : Nat × Nat} (h : w.heap[b]? = some (.cells cur e fr)) : w.cell? ⟨b, o, none⟩ = cur[o]? := by
  simp [World.cell?, h]
theorem CR_of_VRs {w' : World} {b o : Nat} {cur : Array Value} {e : TypeId} {fr : Nat × Nat} {xs : List AV} {us : List Value} (hb : w'.heap[b]? = some (.cells cur e fr))
    (hv : VRs σ K w' xs us) (h1 : ∀ u ∈ us, u.oneCell' = true) (hc : ∀ (j : Nat) (u : Value), us[j]? = some u → cur[o + j]? = some u) : CR σ K w' b o xs := by
  refine CR_iff.2 fun j x hj => ?_
  obtain ⟨u, hu, hx⟩ := (VRs_iff.1 hv).2 j x hj
  exact ⟨u, by rw [cell?_cells hb]; exact hc j u hu, h1 u (List.mem_of_getElem? hu), hx⟩
theorem grownBy_alloc' (w : World) (o : Obj) : w.grownBy (w.alloc o) none := World.grownBy_alloc w o none
theorem alloc_same (h : Rel β K σ m w) (o : Obj) : ∀ p b, K p b → (w.alloc o).heap[b]? = w.heap[b]? := fun p b hb => heap_alloc_old w o (h.kept p b hb).2
theorem new_cells (hrel : Rel β K σ m w) {xs : List AV} {cur : Array Value} (e : TypeId) (hv : VRs σ K w xs cur.toList) (h1 : xs.all AV.one = true) :
    Done β K σ w (m.new (.cells xs)) (.ptr m.store.length m.next 0) (.ok (.value (.pointer (some ⟨w.heap.size, 0, none⟩))) (w.alloc (.cells cur e))) := by
  have hb := heap_alloc_new w (.cells cur e)
  have hsame := alloc_same hrel (.cells cur e)
  have hpre : σ <+: σ ++ [(some w.heap.size, 0)] := List.prefix_append _ _
  have hv' := VRs.mono (σ' := σ ++ [(some w.heap.size, 0)]) (w' := w.alloc (.cells cur e)) hpre (fun _ _ h => h) hsame _ _ hv
  refine ⟨_, σ ++ [(some w.heap.size, 0)], _, _, rfl, .inl rfl, hpre, ?_, ?_, hsame⟩
  · rw [VR]; exact ⟨w.heap.size, 0, by rw [← hrel.next]; simp, rfl⟩
  · refine hrel.new (grownBy_alloc' w _) (fun b c e => ?_) ?_
    · injection e with e1 e2; injection e1 with e1; subst e1; simp
    · exact ⟨cur, e, hb, by have := VRs_length hv; simpa using this, CR_of_VRs hb hv' (VRs_ones hv' h1) (fun j u hj => by simpa using hj)⟩
theorem zeroA_spec {t : TypeId} {z : AV} (h : zeroA P t = some z) : ∃ i zv, P.info? t = some i ∧ i.zero = some zv ∧ ∀ (σ : Sig) (K : Bool → Nat → Prop) (w : World), VR σ K w z zv := by
  unfold zeroA at h
  simp only [Option.bind_eq_some_iff] at h
  obtain ⟨zv, ⟨i, hi, hz⟩, hc⟩ := h
  exact ⟨i, zv, hi, hz, fun _ _ _ => constA_sound hc⟩
theorem run_zeroValue {t : TypeId} {i : TypeInfo} {zv : Value} (hi : P.info? t = some i) (hz : i.zero = some zv) (w : World) : (zeroValue t).run P w = .ok zv w := by
  simp [zeroValue, typeInfo, hi, hz]
theorem run_sizeOf' {t : TypeId} {i : TypeInfo} (hi : P.info? t = some i) (w : World) : (sizeOf t).run P w = .ok i.size w := by
  simp [sizeOf, typeInfo, hi]
theorem cellsOf_eq {t : TypeId} {i : TypeInfo} (hi : P.info? t = some i) : P.cellsOf t = i.size := by simp [Program.cellsOf, hi]
theorem run_isAgg {t : TypeId} (h : (P.underlying t).isSome = true) (w : World) : (isAgg t).run P w = .ok (isAggT P t) w := by
  obtain ⟨d, hd⟩ := Option.isSome_iff_exists.1 h
  unfold isAgg isAggT
  rw [Sem.run_bind, run_underlying hd]
  simp only [Result.andThen_ok, hd]
  split <;> simp_all
theorem mv_sound (hrel : Rel β K σ m w) {x : AV} {o : Oper} {y : Operand} (ho : o.op = .move y ∨ o.op = .assign y) (hv : VR σ K w x (ρ y)) :
    Done β K σ w m x ((execOp ρ o).run P w) := by
  have : (execOp ρ o).run P w = .ok (.value (ρ y)) w := by rcases ho with ho | ho <;> simp [execOp, ho]
  rw [this]; exact .pure hrel hv
theorem pick_sound (hrel : Rel β K σ m w) {c : Bool} {x y : AV} {o : Oper} {a b d : Operand} (ho : o.op = .pick a b d) (h1 : ρ a = .bool c) (h2 : VR σ K w x (ρ b)) (h3 : VR σ K w y (ρ d)) :
    Done β K σ w m (if c then x else y) ((execOp ρ o).run P w) := by
  have : (execOp ρ o).run P w = .ok (.value (if c then ρ b else ρ d)) w := by simp [execOp, ho, h1, asBool]
  rw [this]; refine .pure hrel ?_
  cases c
  · exact h3
  · exact h2
theorem alloc_sound (hrel : Rel β K σ m w) {t : TypeId} {z : AV} {o : Oper} (ho : o.op = .alloc t) (hz : zeroA P t = some z) (h1 : z.cells.all AV.one = true) :
    Done β K σ w (m.new (.cells z.cells)) (.ptr m.store.length m.next 0) ((execOp ρ o).run P w) := by
  obtain ⟨i, zv, hi, hzv, hV⟩ := zeroA_spec hz
  have : (execOp ρ o).run P w = .ok (.value (.pointer (some ⟨w.heap.size, 0, none⟩))) (w.alloc (.cells zv.cells t)) := by
    simp [execOp, ho, Instr.alloc, run_zeroValue hi hzv, newVar, newRow]
  rw [this]
  exact new_cells hrel t ((hV σ K w).cells h1) h1
theorem allocT_sound (hrel : Rel β K σ m w) {t : TypeId} {z : AV} {o : Oper} (ho : o.op = .alloc t) (hz : zeroA P t = some z) (h1 : z.cells.all AV.one = true) (h0 : 0 < z.cells.length) :
    Done β K σ w (m.new (.row t z.cells.length [z.cells])) (.rptr m.store.length m.next z.cells.length 0 0) ((execOp ρ o).run P w) := by
  obtain ⟨i, zv, hi, hzv, hV⟩ := zeroA_spec hz
  have : (execOp ρ o).run P w = .ok (.value (.pointer (some ⟨w.heap.size, 0, none⟩))) (w.alloc (.cells zv.cells t)) := by
    simp [execOp, ho, Instr.alloc, run_zeroValue hi hzv, newVar, newRow]
  rw [this]
  have hv := (hV σ K w).cells h1
  have hb := heap_alloc_new w (.cells zv.cells t)
  have hsame := alloc_same hrel (.cells zv.cells t)
  have hpre : σ <+: σ ++ [(some w.heap.size, 1)] := List.prefix_append _ _
  have hv' := VRs.mono (σ' := σ ++ [(some w.heap.size, 1)]) (w' := w.alloc (.cells zv.cells t)) hpre (fun _ _ h => h) hsame _ _ hv
  refine ⟨_, σ ++ [(some w.heap.size, 1)], _, _, rfl, .inl rfl, hpre, ?_, ?_, hsame⟩
  · rw [VR]; exact ⟨w.heap.size, 1, by rw [← hrel.next]; simp, by simp⟩
  · refine hrel.new (grownBy_alloc' w _) (fun b c e => ?_) ?_
    · injection e with e1 e2; injection e1 with e1; subst e1; simp
    · exact ⟨zv.cells, hb, by have := VRs_length hv; simpa using this, by simp, by unfold maxLen; omega, h0, rfl, CR_of_VRs hb hv' (VRs_ones hv' h1) (fun j u hj => by simpa using hj), trivial⟩
theorem box_sound (hrel : Rel β K σ m w) {t : TypeId} {x : AV} {o : Oper} {y : Operand} (ho : o.op = .box t y) (hv : VR σ K w x (ρ y)) (h1 : x.cells.all AV.one = true) :
    Done β K σ w (m.new (.cells x.cells)) (.ptr m.store.length m.next 0) ((execOp ρ o).run P w) := by
  have : (execOp ρ o).run P w = .ok (.value (.pointer (some ⟨w.heap.size, 0, none⟩))) (w.alloc (.cells (ρ y).cells t)) := by
    simp [execOp, ho, Instr.box, newVar, newRow]
  rw [this]
  exact new_cells hrel t (hv.cells h1) h1
theorem Mem.obj_some {m : Mem} {pos gen : Nat} {o : AObj} (h : m.obj pos gen = some o) : m.store[pos]? = some (gen, o) := by
  unfold Mem.obj at h
  split at h
  · rename_i g o' hs
    split at h
    · rename_i hg; injection h with h; subst h; subst hg; exact hs
    · cases h
  · cases h
theorem Rel.obj_cells (hrel : Rel β K σ m w) {pos gen b c : Nat} {vs : List AV} (h : m.obj pos gen = some (.cells vs)) (hg : σ[gen]? = some (some b, c)) :
    ∃ cur e, w.heap[b]? = some (.cells cur e (0, 0)) ∧ cur.size = vs.length ∧ CR σ K w b 0 vs := by
  obtain ⟨s, hs', ho⟩ := hrel.objs pos gen _ (Mem.obj_some h)
  rw [hg] at hs'; injection hs' with hs'; subst hs'
  exact ho
theorem Rel.obj_row (hrel : Rel β K σ m w) {pos gen b c e sz : Nat} {els : List (List AV)} (h : m.obj pos gen = some (.row e sz els)) (hg : σ[gen]? = some (some b, c)) :
    ∃ cur, w.heap[b]? = some (.cells cur e (0, 0)) ∧ cur.size = c * sz ∧ els.length ≤ c ∧ c ≤ maxLen ∧ 0 < sz ∧ LR σ K w b 0 sz els := by
  obtain ⟨s, hs', ho⟩ := hrel.objs pos gen _ (Mem.obj_some h)
  rw [hg] at hs'; injection hs' with hs'; subst hs'
  exact ho
theorem Rel.obj_nil (hrel : Rel β K σ m w) {pos gen c e sz : Nat} {els : List (List AV)} (h : m.obj pos gen = some (.row e sz els)) (hg : σ[gen]? = some (none, c)) :
    els = [] ∧ c = 0 ∧ 0 < sz := by
  obtain ⟨s, hs', ho⟩ := hrel.objs pos gen _ (Mem.obj_some h)
  rw [hg] at hs'; injection hs' with hs'; subst hs'
  exact ho
theorem CR_part {b o : Nat} {cs : List AV} (h : CR σ K w b o cs) (d n : Nat) : CR σ K w b (o + d) ((cs.drop d).take n) := by
  refine CR_iff.2 fun j x hj => ?_
  rw [List.getElem?_take] at hj
  split at hj
  · rw [List.getElem?_drop] at hj
    have := CR_iff.1 h (d + j) x hj
    rwa [← Nat.add_assoc] at this
  · cases hj
theorem cellsAt_sound (hrel : Rel β K σ m w) {x : AV} {u : Value} {n : Nat} {cs : List AV} (hx : VR σ K w x u) (h : cellsAt m x n = some cs) :
    cs.length = n ∧ ∃ b o, u = .pointer (some ⟨b, o, none⟩) ∧ CR σ K w b o cs := by
  cases x <;> simp only [cellsAt, reduceCtorEq] at h
  case iptr p l =>
    split at h
    · rename_i hn
      injection h with h; subst h
      rw [VR] at hx
      obtain ⟨b, o, rfl, _, hc⟩ := hx
      exact ⟨by simp [hn], b, o, rfl, by simpa using CR_part hc 0 n⟩
    · cases h
  case ptr pos gen off =>
    rw [VR] at hx
    obtain ⟨b, c, hg, rfl⟩ := hx
    split at h
    · rename_i vs heq
      split at h
      · rename_i hle
        injection h with h; subst h
        obtain ⟨cur, e, _, _, hc⟩ := hrel.obj_cells heq hg
        exact ⟨by simp; omega, b, off, rfl, by simpa using CR_part hc off n⟩
      · cases h
    · cases h
  case rptr pos gen sz idx off =>
    rw [VR] at hx
    obtain ⟨b, c, hg, rfl⟩ := hx
    split at h
    · rename_i e sz' els heq
      split at h
      · rename_i cs' hcs
        split at h
        · rename_i hle
          obtain ⟨hsz, hle⟩ := hle
          subst hsz
          injection h with h; subst h
          obtain ⟨cur, _, _, _, _, _, hl⟩ := hrel.obj_row heq hg
          obtain ⟨_, hc⟩ := LR_iff.1 hl idx cs' hcs
          exact ⟨by simp; omega, b, idx * sz + off, rfl, by simpa using CR_part hc off n⟩
        · cases h
      · cases h
    · cases h
theorem CR_cells {b o : Nat} {cs : List AV} (h : CR σ K w b o cs) : ∃ us : List Value, VRs σ K w cs us ∧ (∀ u ∈ us, u.oneCell' = true) ∧ ∀ (j : Nat) (u : Value), us[j]? = some u → w.cell? ⟨b, o + j, none⟩ = some u := by
  induction cs generalizing o with
  | nil => exact ⟨[], rfl, by simp, by simp⟩
  | cons x cs ih =>
    rw [CR] at h
    obtain ⟨⟨u, h1, h2, h3⟩, h⟩ := h
    obtain ⟨us, h4, h5, h6⟩ := ih h
    refine ⟨u :: us, ⟨u, us, rfl, h3, h4⟩, by simpa using ⟨h2, h5⟩, fun j y hj => ?_⟩
    cases j with
    | zero => simp at hj; subst hj; simpa using h1
    | succ j => have := h6 j y (by simpa using hj); rwa [show o + 1 + j = o + (j + 1) by omega] at this
theorem load_sound (hrel : Rel β K σ m w) {t : TypeId} {i : TypeInfo} {x : AV} {o : Oper} {y : Operand} (ho : o.op = .load t y) (hi : P.info? t = some i) (hu : (P.underlying t).isSome = true) (hs : isAggT P t = true ∨ i.size = 1)
    (hx : VR σ K w x (ρ y)) (h : loadA (isAggT P t) i.size m x = some v) : Done β K σ w m v ((execOp ρ o).run P w) := by
  unfold loadA at h
  cases hagg : isAggT P t with
  | true =>
    rw [hagg] at h
    simp only [if_true, Option.map_eq_some_iff] at h
    obtain ⟨cs, hcs, rfl⟩ := h
    obtain ⟨hl, b, of, hy, hc⟩ := cellsAt_sound hrel hx hcs
    obtain ⟨us, hV, _, hcell⟩ := CR_cells hc
    have hlen : us.length = i.size := by rw [VRs_length hV, hl]
    have hload := run_loadCells_list (P := P) w ⟨b, of, none⟩ us (fun j v hj => by rw [Addr.add_lit]; exact hcell j v hj)
    have : (execOp ρ o).run P w = .ok (.value (.agg us.toArray)) w := by
      simp [execOp, ho, hy, Instr.loadAt, Instr.sureAddr, loadVar, run_isAgg hu, hagg, run_sizeOf' hi, ← hlen, hload]
    rw [this]
    refine .pure hrel ?_
    rw [VR]; exact ⟨_, rfl, by simpa using hV⟩
  | false =>
    rw [hagg] at h
    have hsz : i.size = 1 := by rcases hs with h | h; · rw [hagg] at h; cases h
                                · exact h
    simp only [Bool.false_eq_true, if_false] at h
    split at h
    · rename_i v' hcs
      injection h with h; subst h
      obtain ⟨hl, b, of, hy, hc⟩ := cellsAt_sound hrel hx hcs
      rw [CR] at hc
      obtain ⟨⟨u, hcell, _, hV⟩, _⟩ := hc
      have : (execOp ρ o).run P w = .ok (.value u) w := by
        simp [execOp, ho, hy, Instr.loadAt, Instr.sureAddr, loadVar, run_isAgg hu, hagg, hcell]
      rw [this]
      exact .pure hrel hV
    · cases h
end
end Go.Pm
