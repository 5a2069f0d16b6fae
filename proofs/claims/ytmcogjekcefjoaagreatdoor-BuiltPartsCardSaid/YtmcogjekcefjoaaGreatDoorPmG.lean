/- PmG: plain operations, continued: addresses, slices, lengths, struct literals. -/
import Derived.Test.YtmcogjekcefjoaaGreatDoorPmF
namespace Go.Pm
open Go
section
variable {P : Program} {β : Base} {σ : Sig} {K : Bool → Nat → Prop} {w w' : World} {m m' : Mem} {v : AV} {ρ : Operand → Value}
theorem run_fieldPlace {fd : Field} {b o : Nat} (h : P.cellsOf fd.type ≠ 0) (w : World) : (fieldPlace ⟨b, o, none⟩ fd).run P w = .ok ⟨b, o + fd.offset, none⟩ w := by
  have hi : ∃ i, P.info? fd.type = some i ∧ i.size = P.cellsOf fd.type := by
    unfold Program.cellsOf at h ⊢
    cases hi : P.info? fd.type with
    | none => simp [hi] at h
    | some i => exact ⟨i, rfl, by simp⟩
  obtain ⟨i, hi, hs⟩ := hi
  unfold fieldPlace
  rw [Sem.run_bind, run_sizeOf' hi, Result.andThen_ok, hs, if_neg h, Addr.add_lit]
  rfl
theorem fieldAddr_sound (hrel : Rel β K σ m w) {s : TypeId} {f : Nat} {fs : Array Field} {fd : Field} {x : AV} {o : Oper} {a : Operand} (ho : o.op = .fieldAddr s a f) (hu : P.underlying s = some (.struct fs))
    (hf : fs[f]? = some fd) (hz : P.cellsOf fd.type ≠ 0) (hx : VR σ K w x (ρ a))
    (h : fieldAddrA fd.offset x = some v) : Done β K σ w m v ((execOp ρ o).run P w) := by
  have key : ∀ b of, ρ a = .pointer (some ⟨b, of, none⟩) → (execOp ρ o).run P w = .ok (.value (.pointer (some ⟨b, of + fd.offset, none⟩))) w := by
    intro b of he
    simp [execOp, ho, he, Instr.fieldAt, run_underlying hu, hf, Instr.sureAddr, run_fieldPlace hz]
  cases x <;> simp only [fieldAddrA, reduceCtorEq] at h <;> rw [VR] at hx
  case iptr p cs =>
    obtain ⟨b, of, he, hk, hc⟩ := hx
    split at h
    · rename_i hle
      injection h with h; subst h
      rw [key b of he]
      refine .pure hrel ?_
      rw [VR]
      refine ⟨b, _, rfl, ?_, ?_⟩
      · rcases hk with rfl | hk
        · left; simp
        · exact .inr hk
      · have := CR_part hc fd.offset (cs.length - fd.offset)
        rwa [List.take_of_length_le (by simp)] at this
    · cases h
  case ptr =>
    obtain ⟨b, c, hg, he⟩ := hx
    injection h with h; subst h
    rw [key _ _ he]
    exact .pure hrel (by rw [VR]; exact ⟨b, c, hg, rfl⟩)
  case rptr =>
    obtain ⟨b, c, hg, he⟩ := hx
    injection h with h; subst h
    rw [key _ _ he]
    exact .pure hrel (by rw [VR]; exact ⟨b, c, hg, by rw [Nat.add_assoc]⟩)
theorem VRs_part {xs : List AV} {us : List Value} (h : VRs σ K w xs us) (d n : Nat) : VRs σ K w ((xs.drop d).take n) ((us.drop d).take n) := by
  obtain ⟨h1, h2⟩ := VRs_iff.1 h
  refine VRs_iff.2 ⟨by simp [h1], fun j x hj => ?_⟩
  rw [List.getElem?_take] at hj ⊢
  split at hj
  · rename_i hlt
    rw [if_pos hlt, List.getElem?_drop]
    rw [List.getElem?_drop] at hj
    exact h2 _ _ hj
  · cases hj
theorem part_sound {t : TypeId} {i : TypeInfo} {cs : List AV} {us : Array Value} {off : Nat} (hi : P.info? t = some i) (hu : (P.underlying t).isSome = true) (hv : VRs σ K w cs us.toList)
    (h : (if isAggT P t then (if off + i.size ≤ cs.length then some (AV.agg ((cs.drop off).take i.size)) else none) else cs[off]?) = some v) :
    ∃ u, (part t us off).run P w = .ok u w ∧ VR σ K w v u := by
  cases hagg : isAggT P t with
  | true =>
    rw [hagg] at h
    simp only [if_true] at h
    split at h
    · injection h with h; subst h
      refine ⟨.agg (us.extract off (off + i.size)), by simp [part, run_isAgg hu, hagg, run_sizeOf' hi], ?_⟩
      rw [VR]
      refine ⟨_, rfl, ?_⟩
      have := VRs_part hv off i.size
      simpa [List.extract_eq_take_drop] using this
    · cases h
  | false =>
    rw [hagg] at h
    simp only [Bool.false_eq_true, if_false] at h
    obtain ⟨u, hu', hV⟩ := (VRs_iff.1 hv).2 _ _ h
    have hu'' : us[off]? = some u := by simpa using hu'
    exact ⟨u, by simp [part, run_isAgg hu, hagg, hu''], hV⟩
theorem field_sound (hrel : Rel β K σ m w) {t : TypeId} {f : Nat} {fs : Array Field} {fd : Field} {i : TypeInfo} {cs : List AV} {o : Oper} {a : Operand} (ho : o.op = .field t a f) (hu : P.underlying t = some (.struct fs))
    (hf : fs[f]? = some fd) (hi : P.info? fd.type = some i) (hu' : (P.underlying fd.type).isSome = true) (hx : VR σ K w (.agg cs) (ρ a))
    (h : (if isAggT P fd.type then (if fd.offset + i.size ≤ cs.length then some (AV.agg ((cs.drop fd.offset).take i.size)) else none) else cs[fd.offset]?) = some v) :
    Done β K σ w m v ((execOp ρ o).run P w) := by
  rw [VR] at hx
  obtain ⟨us, he, hv⟩ := hx
  obtain ⟨u, hr, hV⟩ := part_sound hi hu' hv h
  have : (execOp ρ o).run P w = .ok (.value u) w := by
    simp [execOp, ho, he, Instr.field, run_underlying hu, hf, asAgg, hr]
  rw [this]; exact .pure hrel hV
theorem indexAddr_sound (hrel : Rel β K σ m w) {t e : TypeId} {i : TypeInfo} {k : IntKind} {n : Int} {x : AV} {o : Oper} {a d : Operand} (ho : o.op = .indexAddr t a d) (hu : P.underlying t = some (.slice e)) (hi : P.info? e = some i)
    (hx : VR σ K w x (ρ a)) (hy : ρ d = .int k n) (h : indexAddrA i.size x n = some v) : Done β K σ w m v ((execOp ρ o).run P w) := by
  unfold indexAddrA at h
  split at h
  case isFalse => cases h
  rename_i h0
  have key : ∀ b of len cap, ρ a = .slice (some ⟨b, of, none⟩) len cap → n < len → (execOp ρ o).run P w = .ok (.value (.pointer (some ⟨b, of + n.toNat * i.size, none⟩))) w := by
    intro b of len cap he hlt
    simp [execOp, ho, he, hy, Instr.indexAt, asIntOf, run_underlying hu, run_sizeOf' hi, h0, hlt, Addr.add_lit]
  cases x <;> simp only [reduceCtorEq] at h <;> rw [VR] at hx
  case list p sz' els =>
    obtain ⟨ad, cap, b, of, he, hc, hk, hl⟩ := hx
    split at h
    · rename_i hsz; subst hsz
      split at h
      · rename_i cs hcs
        injection h with h; subst h
        have hlt := (List.getElem?_eq_some_iff.1 hcs).1
        rcases hk with rfl | ⟨rfl, hk⟩
        · simp at hcs
        · rw [key b of _ _ he (by omega)]
          refine .pure hrel ?_
          rw [VR]
          exact ⟨b, _, rfl, .inr hk, (LR_iff.1 hl _ _ hcs).2⟩
      · cases h
    · cases h
  case row pos gen sz' off l =>
    split at h
    · rename_i hc
      obtain ⟨hsz, hlt⟩ := hc
      subst hsz
      injection h with h; subst h
      rcases hx with ⟨b, c, hg, hle, he⟩ | ⟨_, hl, _⟩ | ⟨hl, _⟩
      · rw [key b _ _ _ he hlt]
        refine .pure hrel ?_
        rw [VR]
        exact ⟨b, c, hg, by rw [Nat.add_mul, Nat.add_zero]⟩
      · omega
      · omega
    · cases h
theorem indexArr_sound (hrel : Rel β K σ m w) {t e : TypeId} {i : TypeInfo} {len : Nat} {k : IntKind} {n : Int} {pos gen of : Nat} {o : Oper} {a d : Operand} (ho : o.op = .indexAddr t a d) (hu : P.underlying t = some (.array len e)) (hi : P.info? e = some i)
    (hx : VR σ K w (.ptr pos gen of) (ρ a)) (hy : ρ d = .int k n) (h0 : 0 ≤ n) (hlt : n < len) : Done β K σ w m (.ptr pos gen (of + n.toNat * i.size)) ((execOp ρ o).run P w) := by
  rw [VR] at hx
  obtain ⟨b, c, hg, he⟩ := hx
  have : (execOp ρ o).run P w = .ok (.value (.pointer (some ⟨b, of + n.toNat * i.size, none⟩))) w := by
    simp [execOp, ho, he, hy, Instr.indexAt, asIntOf, run_underlying hu, run_sizeOf' hi, h0, hlt, Addr.add_lit, Instr.sureAddr]
  rw [this]; exact .pure hrel (by rw [VR]; exact ⟨b, c, hg, rfl⟩)
theorem run_len {ts : Array TypeId} {o : Oper} {a : Operand} {u : Value} (ho : o.op = .call ⟨.builtin .len, #[a], ts⟩) (h : (Builtin.len_ ts o.type #[ρ a]).run P w = .ok u w) :
    (execOp ρ o).run P w = .ok (.value u) w := by
  simp [execOp, ho, resolve, invoke, builtin, h]
theorem len0_sound (hrel : Rel β K σ m w) {t : TypeId} {ts : Array TypeId} {x : AV} {o : Oper} {a : Operand} (ho : o.op = .call ⟨.builtin .len, #[a], ts⟩) (ht : ts[0]? = some t) (hu : P.underlying t = some .string)
    (hx : VR σ K w x (ρ a)) (h : lenA 0 x = some v) : Done β K σ w m v ((execOp ρ o).run P w) := by
  cases x <;> simp only [lenA, reduceCtorEq, Option.some.injEq] at h
  subst h
  rw [VR] at hx
  rw [run_len (u := .int .i64 _) ho (by rw [hx]; simp [Builtin.len_, ht, run_underlying hu, goInt]; rfl)]
  exact .pure hrel (by rw [VR])
theorem row_value {pos gen sz off n : Nat} {u : Value} (hx : VR σ K w (.row pos gen sz off n) u) : ∃ ad cap, u = .slice ad n cap := by
  rw [VR] at hx
  rcases hx with ⟨b, c, _, _, he⟩ | ⟨_, hl, _, he⟩ | ⟨hl, _, _, ad, c, he⟩
  · exact ⟨_, _, he⟩
  · exact ⟨_, _, by rw [hl]; exact he⟩
  · exact ⟨_, _, by rw [hl]; exact he⟩
theorem len1_sound (hrel : Rel β K σ m w) {t e : TypeId} {ts : Array TypeId} {x : AV} {o : Oper} {a : Operand} (ho : o.op = .call ⟨.builtin .len, #[a], ts⟩) (ht : ts[0]? = some t) (hu : P.underlying t = some (.slice e))
    (hx : VR σ K w x (ρ a)) (h : lenA 1 x = some v) : Done β K σ w m v ((execOp ρ o).run P w) := by
  have key : ∀ ad n cap, ρ a = .slice ad n cap → (execOp ρ o).run P w = .ok (.value (.int .i64 n)) w := fun ad n cap he =>
    run_len ho (by rw [he]; simp [Builtin.len_, ht, run_underlying hu, goInt])
  cases x <;> simp only [lenA, reduceCtorEq, Option.some.injEq] at h <;> subst h
  case nilS => rw [VR] at hx; rw [key _ _ _ hx]; exact .pure hrel (by rw [VR]; rfl)
  case list => rw [VR] at hx; obtain ⟨ad, cap, _, _, he, _⟩ := hx; rw [key _ _ _ he]; exact .pure hrel (by rw [VR])
  case row => obtain ⟨ad, cap, he⟩ := row_value hx; rw [key _ _ _ he]; exact .pure hrel (by rw [VR])
theorem len2_sound (hrel : Rel β K σ m w) {t k e : TypeId} {ts : Array TypeId} {x : AV} {o : Oper} {a : Operand} (ho : o.op = .call ⟨.builtin .len, #[a], ts⟩) (ht : ts[0]? = some t) (hu : P.underlying t = some (.map k e))
    (hx : VR σ K w x (ρ a)) (h : lenMapA m x = some v) : Done β K σ w m v ((execOp ρ o).run P w) := by
  cases x <;> simp only [lenMapA, reduceCtorEq] at h
  case const c =>
    split at h
    · rename_i heq
      injection h with h; subst h
      rw [VR] at hx
      rw [run_len (u := .int .i64 0) ho (by rw [hx, AV.const.inj heq]; simp [Builtin.len_, ht, run_underlying hu, goInt])]
      exact .pure hrel (by rw [VR])
    · rename_i heq; cases heq
    · cases h
  case map pos gen =>
    rw [VR] at hx
    obtain ⟨b, c, hg, he⟩ := hx
    split at h
    · rename_i kv hobj
      injection h with h; subst h
      obtain ⟨s, hs', ho'⟩ := hrel.objs pos gen _ (Mem.obj_some hobj)
      rw [hg] at hs'; injection hs' with hs'; subst hs'
      obtain ⟨es, clock, hb, hlen, _⟩ := ho'
      have hlen' : es.size = kv.length := by simpa using hlen.length
      rw [run_len (u := .int .i64 kv.length) ho (by rw [he]; simp [Builtin.len_, ht, run_underlying hu, goInt, getObj, Sem.run, hb, hlen'])]
      exact .pure hrel (by rw [VR])
    · cases h
theorem min_sound (hrel : Rel β K σ m w) {ts : Array TypeId} {k : IntKind} {x y : Int} {o : Oper} {a d : Operand} (ho : o.op = .call ⟨.builtin .min, #[a, d], ts⟩) (hx : ρ a = .int k x) (hy : ρ d = .int k y) :
    Done β K σ w m (.int k (if y < x then y else x)) ((execOp ρ o).run P w) := by
  have : (execOp ρ o).run P w = .ok (.value (.int k (if y < x then y else x))) w := by
    simp [execOp, ho, resolve, invoke, builtin, Builtin.min_, Builtin.min2, hx, hy]
  rw [this]; exact .pure hrel (by rw [VR])
theorem max_sound (hrel : Rel β K σ m w) {ts : Array TypeId} {k : IntKind} {x y : Int} {o : Oper} {a d : Operand} (ho : o.op = .call ⟨.builtin .max, #[a, d], ts⟩) (hx : ρ a = .int k x) (hy : ρ d = .int k y) :
    Done β K σ w m (.int k (if y > x then y else x)) ((execOp ρ o).run P w) := by
  have : (execOp ρ o).run P w = .ok (.value (.int k (if y > x then y else x))) w := by
    simp [execOp, ho, resolve, invoke, builtin, Builtin.max_, Builtin.max2, hx, hy]
  rw [this]; exact .pure hrel (by rw [VR])
end
end Go.Pm
