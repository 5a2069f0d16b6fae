/- PmKc: copy; the room of a nil slice. -/
import Derived.Test.YtmcogjekcefjoaaGreatDoorPmKa
namespace Go.Pm
open Go
section
variable {P : Program} {β : Base} {σ : Sig} {K : Bool → Nat → Prop} {w w' : World} {m m' : Mem} {v : AV} {ρ : Operand → Value}
theorem says_cap {o : Oper} {t e : TypeId} {ts : Array TypeId} {a : Operand} (ho : o.op = .call ⟨.builtin .cap, #[a], ts⟩) (ht : ts[0]? = some t) (hu : P.underlying t = some (.slice e)) : Says P (.len 2) o := by
  intro β σ K w m m' v ρ xs hrel hx h
  rw [show Op.args o.op = [a] by rw [ho]; rfl] at hx
  obtain ⟨x, rfl, hV⟩ := map1 hx
  replace h := run_local rfl h
  obtain ⟨h1, rfl⟩ := h
  simp only [localK] at h1
  cases x <;> simp only [lenA, reduceCtorEq, Option.some.injEq] at h1
  subst h1
  rw [VR] at hV
  have : (execOp ρ o).run P w = .ok (.value (.int .i64 0)) w := by
    simp [execOp, ho, resolve, invoke, builtin, Builtin.cap_, hV, ht, run_underlying hu, goInt]
  rw [this]
  exact .pure hrel (by rw [VR])
theorem nilOf_ptr {x : AV} {b : Bool} (h : nilOf true x = some b) : (b = true ∧ x = .const (.pointer none)) ∨ (b = false ∧ ((∃ p g o, x = .ptr p g o) ∨ (∃ p cs, x = .iptr p cs) ∨ ∃ p g s i o, x = .rptr p g s i o)) := by
  unfold nilOf at h
  split at h <;> simp_all
theorem nilOf_iface {x : AV} {b : Bool} (h : nilOf false x = some b) : (b = true ∧ x = .const .nilIface) ∨ (b = false ∧ ∃ t v, x = .iface t v) := by
  unfold nilOf at h
  split at h <;> simp_all
theorem isNilC_ptr {x : AV} (h : isNilC true x = true) : x = .const (.pointer none) := by
  unfold isNilC at h
  split at h <;> simp_all
theorem isNilC_iface {x : AV} (h : isNilC false x = true) : x = .const .nilIface := by
  unfold isNilC at h
  split at h <;> simp_all
theorem assertA_inv {t : TypeId} {z x v : AV} (h : assertA t z x = some v) : (∃ t' y, x = .iface t' y ∧ v = if t' = t then .tuple [y, .bool true] else .tuple [z, .bool false]) ∨ (x = .const .nilIface ∧ v = .tuple [z, .bool false]) := by
  unfold assertA at h
  split at h
  · injection h with h; exact .inl ⟨_, _, rfl, h.symm⟩
  · injection h with h; exact .inr ⟨rfl, h.symm⟩
  · cases h
theorem says_eqNilI {o : Oper} {op : BinOp} {t t' : TypeId} {y : Operand} {neg : Bool} {ms : Array (String × TypeId)} (ho : o.op = .binOp op t y (.const .nilIface) t') (hop : op = if neg then .neq else .eql) (hu : P.underlying t = some (.interface ms)) : Says P (.eqNil false neg) o := by
  intro β σ K w m m' v ρ xs hrel hx h
  rw [show Op.args o.op = [y, .const .nilIface] by rw [ho]; rfl] at hx
  obtain ⟨x, x', rfl, hV, hV'⟩ := map2 hx
  replace h := run_local rfl h
  obtain ⟨h, rfl⟩ := h
  simp only [localK, Option.ite_none_right_eq_some, Option.map_eq_some_iff] at h
  obtain ⟨hc, b, hb, rfl⟩ := h
  have hz : ρ (.const .nilIface) = .nilIface := by
    rw [isNilC_iface hc, VR] at hV'
    exact hV'
  have key : ∀ u : Value, ρ y = u → (Op.equal t u .nilIface).run P w = .ok b w → (binOp .eql t u .nilIface).run P w = .ok (.bool b) w → (binOp .neq t u .nilIface).run P w = .ok (.bool !b) w → (eqGuard op t y (.const .nilIface) u .nilIface).run P w = .ok () w → Done β K σ w m' (.bool (if neg then !b else b)) ((execOp ρ o).run P w) := by
    intro u hyu _ h1 h2 h3
    have : (execOp ρ o).run P w = .ok (.value (.bool (if neg then !b else b))) w := by
      cases neg <;> simp only [Bool.false_eq_true, if_false, if_true] at hop <;> subst hop <;> simp only [execOp, ho, hyu, hz, Sem.run_bind, h3, Result.andThen_ok, h1, h2, Sem.run_pure] <;> rfl
    rw [this]; exact .pure hrel (by rw [VR])
  have hg : ∀ u : Value, (u = .nilIface ∨ ∃ t v, u = .iface t v) → (eqGuard op t y (.const .nilIface) u .nilIface).run P w = .ok () w := by
    rintro u (rfl | ⟨t, v, rfl⟩) <;> cases neg <;> simp only [Bool.false_eq_true, if_false, if_true] at hop <;> subst hop <;> cases y <;> rfl
  rcases nilOf_iface hb with ⟨rfl, rfl⟩ | ⟨rfl, tt, vv, rfl⟩
  · rw [VR] at hV
    have heq : (Op.equal t .nilIface .nilIface).run P w = .ok true w := by
      show (Op.equalIn (9999 + 1) t _ _).run P w = _
      rw [Op.equalIn, Sem.run_bind, run_underlying hu]
      rfl
    exact key .nilIface hV heq (by simp [binOp, heq]) (by simp [binOp, heq]) (hg _ (.inl rfl))
  · rw [VR] at hV
    obtain ⟨u, hV, _⟩ := hV
    have heq : (Op.equal t (.iface tt u) .nilIface).run P w = .ok false w := by
      show (Op.equalIn (9999 + 1) t _ _).run P w = _
      rw [Op.equalIn, Sem.run_bind, run_underlying hu]
      rfl
    exact key _ hV heq (by simp [binOp, heq]) (by simp [binOp, heq]) (hg _ (.inr ⟨_, _, rfl⟩))
theorem says_eqNilP {o : Oper} {op : BinOp} {t t' el : TypeId} {y : Operand} {neg : Bool} (ho : o.op = .binOp op t y (.const (.pointer none)) t') (hop : op = if neg then .neq else .eql) (hu : P.underlying t = some (.pointer el)) : Says P (.eqNil true neg) o := by
  intro β σ K w m m' v ρ xs hrel hx h
  rw [show Op.args o.op = [y, .const (.pointer none)] by rw [ho]; rfl] at hx
  obtain ⟨x, x', rfl, hV, hV'⟩ := map2 hx
  replace h := run_local rfl h
  obtain ⟨h, rfl⟩ := h
  simp only [localK, Option.ite_none_right_eq_some, Option.map_eq_some_iff] at h
  obtain ⟨hc, b, hb, rfl⟩ := h
  have hz : ρ (.const (.pointer none)) = .pointer none := by
    rw [isNilC_ptr hc, VR] at hV'
    exact hV'
  have key : ∀ u : Option Addr, ρ y = .pointer u → (Op.equal t (.pointer u) (.pointer none)).run P w = .ok b w → Done β K σ w m' (.bool (if neg then !b else b)) ((execOp ρ o).run P w) := by
    intro u hyu heq
    have h3 : (eqGuard op t y (.const (.pointer none)) (.pointer u) (.pointer none)).run P w = .ok () w := by
      cases neg <;> simp only [Bool.false_eq_true, if_false, if_true] at hop <;> subst hop <;> rfl
    have : (execOp ρ o).run P w = .ok (.value (.bool (if neg then !b else b))) w := by
      cases neg <;> simp only [Bool.false_eq_true, if_false, if_true] at hop <;> subst hop <;> simp only [execOp, ho, hyu, hz, Sem.run_bind, h3, Result.andThen_ok] <;> simp [binOp, heq]
    rw [this]; exact .pure hrel (by rw [VR])
  have heqS : ∀ ad : Addr, (Op.equal t (.pointer (some ad)) (.pointer none)).run P w = .ok false w := fun ad => by
    show (Op.equalIn (9999 + 1) t _ _).run P w = _
    rw [Op.equalIn, Sem.run_bind, run_underlying hu]
    rfl
  rcases nilOf_ptr hb with ⟨rfl, rfl⟩ | ⟨rfl, ⟨_, _, _, rfl⟩ | ⟨_, _, rfl⟩ | ⟨_, _, _, _, _, rfl⟩⟩
  · rw [VR] at hV
    refine key none hV ?_
    show (Op.equalIn (9999 + 1) t _ _).run P w = _
    rw [Op.equalIn, Sem.run_bind, run_underlying hu]
    rfl
  · rw [VR] at hV; obtain ⟨b', c, _, hV⟩ := hV; exact key _ hV (heqS _)
  · rw [VR] at hV; obtain ⟨b', c, hV, _⟩ := hV; exact key _ hV (heqS _)
  · rw [VR] at hV; obtain ⟨b', c, _, hV⟩ := hV; exact key _ hV (heqS _)
theorem says_typeAssert {o : Oper} {y : Operand} {xt t : TypeId} {d : TypeDesc} {z : AV} (ho : o.op = .typeAssert y xt t true) (hu : P.underlying t = some d) (hd : ∀ ms, d ≠ .interface ms) (hz : zeroA P t = some z) : Says P (.typeAssert t z) o := by
  intro β σ K w m m' v ρ xs hrel hx h
  rw [show Op.args o.op = [y] by rw [ho]; rfl] at hx
  obtain ⟨x, rfl, hV⟩ := map1 hx
  replace h := run_local rfl h
  obtain ⟨h, rfl⟩ := h
  obtain ⟨i, zv, hi, hzv, hVz⟩ := zeroA_spec hz
  have hzr : (zeroValue t).run P w = .ok zv w := by simp [zeroValue, typeInfo, hi, hzv]
  have fin : ∀ (u : Value) (v : AV), (Instr.typeAssert (ρ y) xt t true).run P w = .ok u w → VR σ K w v u → Done β K σ w m' v ((execOp ρ o).run P w) := by
    intro u v h1 h2
    have : (execOp ρ o).run P w = .ok (.value u) w := by simp [execOp, ho, h1]
    rw [this]; exact .pure hrel h2
  have run : ∀ x u, ρ y = x → (x = .nilIface → u = .tuple #[zv, .bool false]) → (∀ t' v', x = .iface t' v' → u = if t' = t then .tuple #[v', .bool true] else .tuple #[zv, .bool false]) → (x = .nilIface ∨ ∃ t' v', x = .iface t' v') → (Instr.typeAssert (ρ y) xt t true).run P w = .ok u w := by
    intro x u hy h1 h2 h3
    rw [hy]
    unfold Instr.typeAssert
    rw [Sem.run_bind, run_underlying hu, Result.andThen_ok]
    rcases h3 with rfl | ⟨t', v', rfl⟩
    · rw [h1 rfl]
      cases d <;> first | exact absurd rfl (hd _) | simp [hzr]
    · rw [h2 t' v' rfl]
      by_cases ht : t' = t
      · cases d <;> first | exact absurd rfl (hd _) | simp [ht]
      · cases d <;> first | exact absurd rfl (hd _) | simp [ht, hzr]
  simp only [localK] at h
  rcases assertA_inv h with ⟨t', x, rfl, rfl⟩ | ⟨rfl, rfl⟩
  · rw [VR] at hV
    obtain ⟨u, hu', hVx⟩ := hV
    by_cases ht : t' = t
    · rw [if_pos ht]
      refine fin _ _ (run _ _ hu' (fun e => by cases e) (fun t2 v2 e => by injection e with e1 e2; subst e1; subst e2; rw [if_pos ht]) (.inr ⟨_, _, rfl⟩)) ?_
      rw [VR]; exact ⟨_, rfl, _, _, rfl, hVx, _, _, rfl, by rw [VR], rfl⟩
    · rw [if_neg ht]
      refine fin _ _ (run _ _ hu' (fun e => by cases e) (fun t2 v2 e => by injection e with e1 e2; subst e1; subst e2; rw [if_neg ht]) (.inr ⟨_, _, rfl⟩)) ?_
      rw [VR]; exact ⟨_, rfl, _, _, rfl, hVz σ K w, _, _, rfl, by rw [VR], rfl⟩
  · rw [VR] at hV
    refine fin _ _ (run _ _ hV (fun _ => rfl) (fun t' v' e => by cases e) (.inl rfl)) ?_
    rw [VR]; exact ⟨_, rfl, _, _, rfl, hVz σ K w, _, _, rfl, by rw [VR], rfl⟩
theorem says_growNil {o : Oper} {t x e : TypeId} {i : TypeInfo} {z : AV} {k : IntKind} {a d : Operand} (ho : o.op = .call ⟨.builtin .append, #[a, d], #[t, x]⟩) (ht : P.underlying t = some (.slice e)) (hx : P.underlying x = some (.int k)) (hi : P.info? e = some i)
    (hz : zeroA P e = some z) (hzl : z.cells.length = i.size) (hone : z.cells.all AV.one = true) (hpos : 0 < i.size) : Says P (.growNil e z.cells i.bytes) o := by
  intro β σ K w m m' v ρ xs hrel hxs h
  rw [show Op.args o.op = [a, d] by rw [ho]; rfl] at hxs
  obtain ⟨s, n, rfl, hV, hV'⟩ := map2 hxs
  replace h := run_alloc rfl h
  obtain ⟨f, ob, h, rfl, rfl⟩ := h
  simp only [allocK] at h
  unfold growA at h
  split at h
  case h_2 => cases h
  rename_i l
  simp only [Option.ite_none_right_eq_some, Option.some.injEq, Prod.mk.injEq] at h
  obtain ⟨⟨_, _, h0, hb, hl⟩, rfl, rfl⟩ := h
  rw [VR] at hV
  rw [VR] at hV'
  obtain ⟨i', zv, hi', hzv, hVz⟩ := zeroA_spec hz
  rw [hi] at hi'; injection hi' with hi'; subst hi'
  have hVc := (hVz σ K w).cells hone
  have hzs : zv.cells.toList.length = i.size := by rw [VRs_length hVc]; exact hzl
  have hzs' : zv.cells.size = i.size := by simpa using hzs
  have hmade : ∀ n, Builtin.zeroCells zv.cells n = madeCells zv.cells (n * i.size) := fun n => by unfold Builtin.zeroCells madeCells; rw [hzs']
  have hlist : ∀ n, (madeCells zv.cells (n * i.size)).toList = (List.replicate n zv.cells.toList).flatten := by
    intro n
    have := toList_made zv.cells.toList n (by omega)
    rw [hzs] at this
    unfold madeCells
    simpa using this
  have h0' : l.toNat ≠ 0 := by omega
  have hln : (l.toNat : Int) = l := Int.toNat_of_nonneg (by omega)
  have hw : IntKind.i64.wrap l = l := by rw [IntKind.wrap_i64]; omega
  have hge := grownCap_ge w l.toNat 0 e
  have hmax := grownCap_le_maxLen w l.toNat 0 e (by unfold maxLen; omega)
  have hbi : ((l.toNat * i.bytes : Nat) : Int) ≤ 140737488355328 := Int.ofNat_le.2 hb
  rw [Int.natCast_mul, hln] at hbi
  have hrun : (Builtin.append_ #[t, x] o.type #[ρ a, ρ d]).run P w = .ok (.slice (some ⟨w.heap.size, 0, none⟩) l.toNat (grownCap w l.toNat 0 e)) (w.drew.alloc (.cells (Builtin.zeroCells zv.cells l.toNat ++ Builtin.zeroCells zv.cells (grownCap w l.toNat 0 e - l.toNat)) e)) := by
    rw [hV, hV']
    have h1 : ¬ l < 0 := by omega
    have h2 : ¬ (281474976710656 < l * (i.bytes : Int)) := by omega
    have h3 : ¬ (281474976710656 < Builtin.nextslicecap l.toNat 0 * i.bytes) := by rw [nextslicecap_zero (by omega)]; omega
    have h4 : ¬ (9223372036854775807 < max l 0) := by omega
    have h6 : ¬ (l.toNat * i.size = 0) := by intro hh; rcases Nat.mul_eq_zero.1 hh with hh | hh <;> omega
    simp [asInt, asIntOf, Builtin.append_, run_underlying ht, run_underlying hx, sizeOf, typeInfo, zeroValue, hi, hzv, hw, h1, h2, h3, h4, h6, Question.forced, run_firstCells_none, newRow, grownCap]
    exact h0
  rw [run_append ho rfl hrun]
  have key := new_row hrel (w' := w.drew.alloc (.cells (Builtin.zeroCells zv.cells l.toNat ++ Builtin.zeroCells zv.cells (grownCap w l.toNat 0 e - l.toNat)) e)) (e := e) (sz := i.size) (cap := grownCap w l.toNat 0 e) (els := List.replicate l.toNat z.cells) (us := (madeCells zv.cells (l.toNat * i.size)).toList)
    (cur := Builtin.zeroCells zv.cells l.toNat ++ Builtin.zeroCells zv.cells (grownCap w l.toNat 0 e - l.toNat)) (u := .slice (some ⟨w.heap.size, 0, none⟩) l.toNat (grownCap w l.toNat 0 e)) (.inr rfl)
    (by simp) (fun c hc => by rw [(List.mem_replicate.1 hc).2]; exact hzl) (by rw [hmade, hmade, Array.size_append, size_madeCells, size_madeCells, ← Nat.add_mul]; congr 1; omega) (by simpa using hge) hmax hpos (by rw [hlist]; exact VRs_rep _ hVc)
    (by
      rw [hlist]
      intro y hy
      obtain ⟨c, hc, hy⟩ := List.mem_flatten.1 hy
      rw [(List.mem_replicate.1 hc).2] at hy
      exact VRs_ones hVc hone y hy) (fun j y hj => by
      rw [hmade]
      have hj' := (List.getElem?_eq_some_iff.1 hj).1
      rw [Array.getElem?_append_left (by simpa using hj')]
      simpa using hj)
  simpa [hzl] using key
theorem Mem.put_same {m : Mem} {pos gen : Nat} {o : AObj} (h : m.store[pos]? = some (gen, o)) : m.put pos gen o = m := by
  unfold Mem.put
  have : m.store.set pos (gen, o) = m.store := by
    apply List.ext_getElem?
    intro i
    rw [List.getElem?_set]
    split
    · rename_i hi; subst hi
      split
      · exact h.symm
      · rename_i hn; rw [List.getElem?_eq_none (by omega)]
    · rfl
  rw [this]
theorem run_copy_op {ty : TypeId} {ts : Array TypeId} {o : Oper} {a d : Operand} {r : Value} (ho : o.op = .call ⟨.builtin .copy, #[a, d], ts⟩) (hty : o.type = ty) (h : (Builtin.copy_ ts ty #[ρ a, ρ d]).run P w = .ok r w') :
    (execOp ρ o).run P w = .ok (.value r) w' := by
  subst hty
  simp [execOp, ho, resolve, invoke, builtin, h]
theorem src_of (hrel : Rel β K σ m w) {x : AV} {u : Value} {els : List (List AV)} (hx : VR σ K w x u) (h : srcOf m 1 x = some els) :
    (∀ c ∈ els, c.length = 1) ∧ (Builtin.lenOf u).run P w = .ok els.length w ∧ ∀ k, k ≤ els.length → ∃ us : List Value, us.length = k ∧ (Builtin.firstCells 1 k u).run P w = .ok us.toArray w ∧ VRs σ K w (els.take k).flatten us ∧ ∀ y ∈ us, y.oneCell' = true := by
  have gen : ∀ els, elsOf m 1 x = some els → (∀ c ∈ els, c.length = 1) ∧ (Builtin.lenOf u).run P w = .ok els.length w ∧ ∀ k, k ≤ els.length → ∃ us : List Value, us.length = k ∧ (Builtin.firstCells 1 k u).run P w = .ok us.toArray w ∧ VRs σ K w (els.take k).flatten us ∧ ∀ y ∈ us, y.oneCell' = true := by
    intro els h
    obtain ⟨h1, ad, cap, us, he, hl, hV, hone, hc⟩ := src_cells hrel hx h
    refine ⟨h1, by rw [he]; simp [Builtin.lenOf], fun k hk => ?_⟩
    have hflat : ∀ l : List (List AV), (∀ c ∈ l, c.length = 1) → l.flatten.length = l.length := fun l hl => by
      have := flatten_length hl; simpa using this
    have htk : (els.take k).flatten = els.flatten.take k := by
      have key : ∀ (l : List (List AV)) (k : Nat), (∀ c ∈ l, c.length = 1) → (l.take k).flatten = l.flatten.take k := by
        intro l
        induction l with
        | nil => intro k _; simp
        | cons c l ih =>
          intro k hc
          cases k with
          | zero => simp
          | succ k =>
            have h0 := hc c (by simp)
            rw [List.take_succ_cons, List.flatten_cons, List.flatten_cons, ih k (fun x hx => hc x (by simp [hx])), List.take_append, List.take_of_length_le (l := c) (by omega), h0]
            simp
      exact key els k h1
    have hVt : VRs σ K w (els.take k).flatten (us.take k) := by
      rw [htk]
      refine VRs_iff.2 ⟨by simp [VRs_length hV], fun j x hj => ?_⟩
      rw [List.getElem?_take] at hj ⊢
      split at hj
      · rename_i hjk; rw [if_pos hjk]; exact (VRs_iff.1 hV).2 j x hj
      · cases hj
    refine ⟨us.take k, by rw [List.length_take]; omega, ?_, hVt, fun y hy => hone y (List.mem_of_mem_take hy)⟩
    rcases hc with hc | ⟨a, rfl, hc⟩
    · subst hc
      have hk0 : k = 0 := by simpa using hk
      subst hk0
      rw [he]
      cases ad <;> simp [Builtin.firstCells, loadCells, loadCellsFrom]
    · rw [he]
      have := run_loadCells_list (P := P) w a (us.take k) (fun j y hj => by
        rw [List.getElem?_take] at hj
        split at hj
        · exact hc j y hj
        · cases hj)
      rw [List.length_take, Nat.min_eq_left (by omega)] at this
      simpa [Builtin.firstCells] using this
  cases x
  case str s =>
    simp only [srcOf, if_true, Option.some.injEq] at h
    subst h
    rw [VR] at hx
    subst hx
    refine ⟨by simp [bytesOf], by simp [Builtin.lenOf, bytesOf], fun k hk => ?_⟩
    refine ⟨(s.data.toList.take k).map fun b => Value.int .u8 b.toNat, ?_, ?_, ?_, ?_⟩
    · simp [bytesOf] at hk ⊢; omega
    · simp only [Builtin.firstCells, Sem.run_pure]
      congr 1
      apply Array.ext'
      simp [ByteArray.data_extract, List.map_take]
    · rw [bytesOf, ← List.map_take]
      generalize s.data.toList.take k = l
      induction l with
      | nil => rfl
      | cons b l ih => exact ⟨_, _, rfl, by rw [VR], ih⟩
    · intro y hy; simp only [List.mem_map] at hy; obtain ⟨b, _, rfl⟩ := hy; rfl
  all_goals exact gen els (by simpa only [srcOf] using h)
theorem says_copy {o : Oper} {t e : TypeId} {ts : Array TypeId} {i : TypeInfo} {a d : Operand} (ho : o.op = .call ⟨.builtin .copy, #[a, d], ts⟩) (ht : ts[0]? = some t) (hu : P.underlying t = some (.slice e)) (hi : P.info? e = some i) (hs : i.size = 1) : Says P (.copy e 1) o := by
  intro β σ K w m m' v ρ xs hrel hx h
  rw [show Op.args o.op = [a, d] by rw [ho]; rfl] at hx
  obtain ⟨x, y, rfl, hV, hV'⟩ := map2 hx
  replace h := run_write rfl h
  cases x <;> simp only [writeK, reduceCtorEq] at h
  rename_i pos gen sz' off n
  split at h
  case h_2 => cases h
  rename_i new e' sz'' els hsrc hobj
  simp only [Option.ite_none_right_eq_some, Option.some.injEq, Prod.mk.injEq] at h
  obtain ⟨⟨rfl, rfl, rfl, hle⟩, rfl, rfl⟩ := h
  obtain ⟨h1, hlen, hcells⟩ := src_of (P := P) hrel hV' hsrc
  obtain ⟨us, hul, hfirst, hVus, hone⟩ := hcells (min new.length n) (Nat.min_le_left _ _)
  have hrun : ∀ (base : Option Addr) (cap : Nat) (w' : World), ρ a = .slice base n cap → ((match base with | some ad => storeCells ad us 0 | none => pure ()) : Sem Unit).run P w = .ok () w' → (execOp ρ o).run P w = .ok (.value (.int .i64 (min new.length n : Nat))) w' := by
    intro base cap w' hbase hst
    refine run_copy_op ho rfl ?_
    have hmin : Nat.min new.length n = min new.length n := rfl
    cases base with
    | none =>
      simp only [Sem.run_pure, Result.ok.injEq, true_and] at hst
      subst hst
      simp [Builtin.copy_, ht, hbase, run_underlying hu, sizeOf, typeInfo, hi, hs, hlen, hmin, hfirst, goInt]
    | some ad =>
      simp only at hst
      simp [Builtin.copy_, ht, hbase, run_underlying hu, sizeOf, typeInfo, hi, hs, hlen, hmin, hfirst, hst, goInt]
  rw [VR] at hV
  have hnone : min new.length n = 0 → m.put pos gen (.row e' 1 (els.take off ++ new.take (min new.length n) ++ els.drop (off + min new.length n))) = m := by
    intro h0
    rw [h0]
    simp only [List.take_zero, List.append_nil, Nat.add_zero, List.take_append_drop]
    exact Mem.put_same (Mem.obj_some hobj)
  by_cases h0 : min new.length n = 0
  · have hus : us = [] := List.eq_nil_of_length_eq_zero (by rw [hul, h0])
    rw [hnone h0]
    have : ∀ (base : Option Addr) (cap : Nat), ρ a = .slice base n cap → Done β K σ w m (.int .i64 (min new.length n : Nat)) ((execOp ρ o).run P w) := by
      intro base cap hb
      rw [hrun base cap w hb (by subst hus; cases base <;> simp [storeCells])]
      exact .pure hrel (by rw [VR])
    rcases hV with ⟨b, c, hg, hoc, he⟩ | ⟨hg, hn0, _, he⟩ | ⟨hn0, _, _, ad, cap, he⟩
    · exact this _ _ he
    · exact this none 0 (by rw [hn0]; exact he)
    · exact this _ _ (by rw [hn0]; exact he)
  · rcases hV with ⟨b, c, hg, hoc, he⟩ | ⟨hg, hn0, _, he⟩ | ⟨hn0, _⟩
    · obtain ⟨cur, hheap, hcs, hcap, hmax, hpos, hl⟩ := hrel.obj_row hobj hg
      obtain ⟨hlens, hcr⟩ := LR_flat.1 hl
      have hke : min new.length n ≤ n := Nat.min_le_right _ _
      have hfit : off + us.length ≤ cur.size := by rw [hul, hcs]; omega
      have hst := run_storeCells_at P b off e' us 0 cur w hheap (by simpa using hfit) hone
      rw [hrun _ _ _ he (by rw [Nat.mul_one]; exact hst)]
      simp only [Nat.add_zero]
      have hgr := setRow_grown w b (cur.toList.take off ++ us ++ cur.toList.drop (off + us.length)).toArray
      have hK := hrel.kept_same hgr (hrel.not_kept hobj hg)
      have hb' := setRow_heap w b cur (cur.toList.take off ++ us ++ cur.toList.drop (off + us.length)).toArray e' _ hheap
      have hstored := setRow_stored (w := w) (o := off) hheap hfit
      refine ⟨_, σ, _, _, rfl, .inl rfl, List.prefix_refl _, by rw [VR], hrel.put (Mem.obj_some hobj) hg hgr ⟨_, hb', ?_, ?_, hmax, hpos, LR_flat.2 ⟨?_, ?_⟩⟩, hK⟩
      · rw [← hcs]
        simp only [List.size_toArray, List.length_append, List.length_take, List.length_drop, Array.length_toList]
        omega
      · simp only [List.length_append, List.length_take, List.length_drop]; omega
      · intro c hc
        simp only [List.mem_append] at hc
        rcases hc with (hc | hc) | hc
        · exact hlens c (List.mem_of_mem_take hc)
        · exact h1 c (List.mem_of_mem_take hc)
        · exact hlens c (List.mem_of_mem_drop hc)
      · have hfl : ∀ l : List (List AV), (∀ c ∈ l, c.length = 1) → l.flatten.length = l.length := fun l hl => by
          have := flatten_length hl; simpa using this
        have hT : ∀ k, (els.take k).flatten.length = (els.take k).length := fun k => hfl _ fun c hc => hlens c (List.mem_of_mem_take hc)
        have hnt : (new.take (min new.length n)).flatten.length = min new.length n := by
          rw [hfl _ fun c hc => h1 c (List.mem_of_mem_take hc), List.length_take, Nat.min_eq_left (Nat.min_le_left _ _)]
        have hsplit : els.flatten = (els.take off).flatten ++ ((els.drop off).take (min new.length n)).flatten ++ (els.drop (off + min new.length n)).flatten := by
          rw [← List.flatten_append, ← List.flatten_append]
          congr 1
          rw [List.append_assoc, ← List.drop_drop, List.take_append_drop, List.take_append_drop]
        have hov : (els.take off ++ new.take (min new.length n) ++ els.drop (off + min new.length n)).flatten = over els.flatten off (new.take (min new.length n)).flatten := by
          have h2 : (els.take off).flatten.length = off := by rw [hT, List.length_take]; omega
          have h3 : (((els.drop off).take (min new.length n)).flatten).length = min new.length n := by
            rw [hfl _ fun c hc => hlens c (List.mem_of_mem_drop (List.mem_of_mem_take hc)), List.length_take, List.length_drop]; omega
          have e1 : ∀ A B C : List AV, A.length = off → List.take off (A ++ B ++ C) = A := fun A B C h => by
            rw [List.append_assoc]; exact List.take_left' h
          have e2 : ∀ A B C : List AV, A.length = off → B.length = min new.length n → List.drop (off + min new.length n) (A ++ B ++ C) = C := fun A B C h h' => by
            exact List.drop_left' (by rw [List.length_append, h, h'])
          unfold over
          rw [hnt, hsplit, List.flatten_append, List.flatten_append, e1 _ _ _ h2, e2 _ _ _ h2 h3]
        rw [hov]
        exact CR_over (o' := 0) (by rw [Nat.zero_add]; exact hstored) hK hcr hVus hone (by rw [hnt, hfl _ hlens]; omega)
    · exact absurd (by rw [hn0]; simp) h0
    · exact absurd (by rw [hn0]; simp) h0
end
end Go.Pm
