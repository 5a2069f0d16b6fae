/- PmKa: literals of slices, and slices made. -/
import Derived.Laws.MakeOwn
import Derived.Laws.StructEq
import Derived.Laws.BytesArg
import Derived.Test.YtmcogjekcefjoaaGreatDoorPmK
namespace Go.Pm
open Go
section
variable {P : Program} {β : Base} {σ : Sig} {K : Bool → Nat → Prop} {w w' : World} {m m' : Mem} {v : AV} {ρ : Operand → Value}
theorem toList_made (z : List Value) (n : Nat) (hz : 0 < z.length) : ((Array.range (n * z.length)).map (z.toArray[· % z.toArray.size]!)).toList = (List.replicate n z).flatten := by
  induction n with
  | zero => simp
  | succ n ih =>
    rw [List.replicate_succ', List.flatten_concat, ← ih]
    apply List.ext_getElem?
    intro i
    simp only [Array.toList_map, Array.toList_range, List.getElem?_map, List.getElem?_append, List.length_map, List.length_range]
    have hm : (n + 1) * z.length = n * z.length + z.length := by rw [Nat.add_mul, Nat.one_mul]
    split
    · rename_i h
      rw [List.getElem?_range (by omega), List.getElem?_range h]
    · rename_i h
      by_cases hi : i < (n + 1) * z.length
      · rw [List.getElem?_range hi]
        have hlt : i - n * z.length < z.length := by omega
        have hmod : i % z.length = i - n * z.length := by
          have : i = (i - n * z.length) + z.length * n := by rw [Nat.mul_comm z.length n]; omega
          rw [this, Nat.add_mul_mod_self_left, Nat.mod_eq_of_lt hlt]
          omega
        simp [hmod, hlt]
      · rw [List.getElem?_eq_none (by simp; omega), List.getElem?_eq_none (by omega)]; rfl
theorem VRs_flatten : ∀ {xs : List (List AV)} {us : List (List Value)}, xs.length = us.length → (∀ (i : Nat) (x : List AV) (u : List Value), xs[i]? = some x → us[i]? = some u → VRs σ K w x u) → VRs σ K w xs.flatten us.flatten
  | [], [], _, _ => rfl
  | x :: xs, u :: us, h, h1 => by
    rw [List.flatten_cons, List.flatten_cons]
    exact VRs_append (h1 0 x u rfl rfl) (VRs_flatten (by simpa using h) fun i x u hx hu => h1 (i + 1) x u hx hu)
  | [], _ :: _, h, _ => by simp at h
  | _ :: _, [], h, _ => by simp at h
theorem VRs_rep {z : List AV} {u : List Value} (n : Nat) (h : VRs σ K w z u) : VRs σ K w (List.replicate n z).flatten (List.replicate n u).flatten :=
  VRs_flatten (by simp) fun i x y hx hy => by
    simp only [List.getElem?_replicate] at hx hy
    split at hx
    · rename_i hi
      rw [if_pos hi] at hy
      injection hx with hx; injection hy with hy; subst hx; subst hy; exact h
    · cases hx
theorem chunks_flatten (sz : Nat) : ∀ (n : Nat) (cs : List AV), cs.length = n * sz → ((List.range n).map fun i => (cs.drop (i * sz)).take sz).flatten = cs
  | 0, cs, h => by simp at h; simp [h]
  | n + 1, cs, h => by
    have hm : (n + 1) * sz = n * sz + sz := by rw [Nat.add_mul, Nat.one_mul]
    rw [List.range_succ_eq_map, List.map_cons, List.flatten_cons, List.map_map]
    have ih := chunks_flatten sz n (cs.drop sz) (by simp; omega)
    have e : (List.map ((fun i => (cs.drop (i * sz)).take sz) ∘ Nat.succ) (List.range n)) = List.map (fun i => ((cs.drop sz).drop (i * sz)).take sz) (List.range n) := by
      apply List.map_congr_left
      intro i _
      simp only [Function.comp]
      rw [List.drop_drop, Nat.succ_mul, Nat.add_comm sz]
    rw [e, ih]
    simp
theorem maxLen_big {n : Nat} (h : n ≤ 16777216) : n ≤ maxLen := by unfold maxLen; omega
theorem buildRow_sound (hrel : Rel β K σ m w) {t e : TypeId} {n : Nat} {parts : Array (Nat × Operand)} {i : TypeInfo} {z : AV} {xs cs : List AV} {o : Oper} (ho : o.op = .buildSlice t n parts) (hu : P.underlying t = some (.slice e)) (hi : P.info? e = some i)
    (hz : zeroA P e = some z) (hzl : z.cells.length = i.size) (hone : z.cells.all AV.one = true) (hpos : 0 < i.size) (hn : n * i.size ≤ 16777216)
    (hx : VRs σ K w xs ((parts.toList.map (·.2)).map ρ)) (h : fillA (List.replicate n z.cells).flatten ((parts.toList.map (·.1)).map fun j => (j * i.size, i.size)) xs = some cs) (hcl : cs.length = n * i.size) (hc1 : cs.all AV.one = true) :
    Done β K σ w (m.new (.row e i.size ((List.range n).map fun j => (cs.drop (j * i.size)).take i.size))) (.row m.store.length m.next i.size 0 n) ((execOp ρ o).run P w) := by
  obtain ⟨i', zv, hi', hzv, hV⟩ := zeroA_spec hz
  rw [hi] at hi'; injection hi' with hi'; subst hi'
  have hVc := (hV σ K w).cells hone
  have hzl' : zv.cells.toList.length = i.size := by rw [VRs_length hVc]; exact hzl
  have hmade : ((Array.range (n * i.size)).map (zv.cells[· % zv.cells.size]!)).toList = (List.replicate n zv.cells.toList).flatten := by
    have := toList_made zv.cells.toList n (by omega)
    rw [hzl'] at this
    simpa using this
  obtain ⟨us', hfill, hV'⟩ := fill_sound (place := fun j => some (j * i.size, i.size)) (parts.toList.map fun p => (p.1, ρ p.2)) ((parts.toList.map (·.1)).map fun j => (j * i.size, i.size)) xs _ cs
    ((Array.range (n * i.size)).map (zv.cells[· % zv.cells.size]!)) (by simp [Function.comp_def]) (by simpa [Function.comp_def] using hx) (by rw [hmade]; exact VRs_rep n hVc) h
  have hsz : us'.size = n * i.size := by have := VRs_length hV'; simp at this; omega
  have hrun : (execOp ρ o).run P w = .ok (.value (.slice (some ⟨w.heap.size, 0, none⟩) n n)) (w.alloc (.cells us' e)) := by
    have hbig : ¬ (n * i.size > 2 ^ 24) := by omega
    by_cases h0 : n * i.size = 0
    · have hn0 : n = 0 := by
        rcases Nat.mul_eq_zero.1 h0 with h | h
        · exact h
        · omega
      subst hn0
      simp only [Nat.zero_mul] at hfill hsz hbig
      simp only [execOp, ho, Instr.buildSlice, Sem.run_bind, run_underlying hu, Result.andThen_ok, run_sizeOf' hi, Nat.zero_mul]
      simp only [Array.range_zero', Array.map_empty] at hfill
      simp [Array.range_zero', hfill, newRow]
    · simp only [execOp, ho, Instr.buildSlice, Sem.run_bind, run_underlying hu, Result.andThen_ok, run_sizeOf' hi, if_neg hbig, if_neg h0, run_zeroValue hi hzv, Sem.run_pure]
      simp [hfill, newRow]
  rw [hrun]
  have hflat := chunks_flatten i.size n cs hcl
  have hlens : ∀ c ∈ (List.range n).map (fun j => (cs.drop (j * i.size)).take i.size), c.length = i.size := by
    intro c hc
    obtain ⟨j, hj, rfl⟩ := List.mem_map.1 hc
    have hj' := List.mem_range.1 hj
    have : (j + 1) * i.size ≤ n * i.size := Nat.mul_le_mul_right _ hj'
    rw [Nat.add_mul, Nat.one_mul] at this
    simp; omega
  have hnm : n ≤ maxLen := maxLen_big (Nat.le_trans (Nat.le_mul_of_pos_right n hpos) hn)
  have key := new_row hrel (w' := w.alloc (.cells us' e)) (e := e) (sz := i.size) (cap := n) (els := (List.range n).map (fun j => (cs.drop (j * i.size)).take i.size)) (us := us'.toList) (cur := us') (u := .slice (some ⟨w.heap.size, 0, none⟩) n n) (.inl rfl)
    (by simp) hlens hsz (by simp) hnm hpos (by rw [hflat]; exact hV') (VRs_ones hV' hc1) (fun j y hj => by simpa using hj)
  simpa using key
theorem mkRow_sound (hrel : Rel β K σ m w) {t e : TypeId} {i : TypeInfo} {z : AV} {l c : Int} {o : Oper} {a d : Operand} (ho : o.op = .makeSlice t a d) (hu : P.underlying t = some (.slice e)) (hi : P.info? e = some i)
    (hz : zeroA P e = some z) (hzl : z.cells.length = i.size) (hone : z.cells.all AV.one = true) (hpos : 0 < i.size) (ha : ρ a = .int .i64 l) (hd : ρ d = .int .i64 c) (h0 : 0 ≤ l) (hlc : l = c)
    (hb : l.toNat * i.bytes ≤ 140737488355328) (hl : l ≤ 9223372036854775807) :
    Done β K σ w (m.new (.row e i.size (List.replicate l.toNat z.cells))) (.row m.store.length m.next i.size 0 l.toNat) ((execOp ρ o).run P w) := by
  subst hlc
  obtain ⟨i', zv, hi', hzv, hV⟩ := zeroA_spec hz
  rw [hi] at hi'; injection hi' with hi'; subst hi'
  have hVc := (hV σ K w).cells hone
  have hzl' : zv.cells.toList.length = i.size := by rw [VRs_length hVc]; exact hzl
  have hmade : (madeCells zv.cells (l.toNat * i.size)).toList = (List.replicate l.toNat zv.cells.toList).flatten := by
    have := toList_made zv.cells.toList l.toNat (by omega)
    rw [hzl'] at this
    unfold madeCells
    simpa using this
  have hbytes : (i.bytes : Int) * l ≤ 281474976710656 := by
    have h1 : ((l.toNat * i.bytes : Nat) : Int) ≤ 140737488355328 := Int.ofNat_le.2 hb
    rw [Int.natCast_mul, Int.toNat_of_nonneg h0] at h1
    rw [Int.mul_comm]; omega
  have hrun : (execOp ρ o).run P w = .ok (.value (.slice (some ⟨w.heap.size, 0, none⟩) l.toNat l.toNat)) (w.alloc (.cells (madeCells zv.cells (l.toNat * i.size)) e)) := by
    simp only [execOp, ho, ha, hd, Sem.run_bind, run_make (P := P) w t e i zv hu hi hzv .i64 .i64 l l h0 (Int.le_refl _) hbytes hl, Result.andThen_ok, Sem.run_pure]
  rw [hrun]
  have key := new_row hrel (w' := w.alloc (.cells (madeCells zv.cells (l.toNat * i.size)) e)) (e := e) (sz := i.size) (cap := l.toNat) (els := List.replicate l.toNat z.cells) (us := (madeCells zv.cells (l.toNat * i.size)).toList)
    (cur := madeCells zv.cells (l.toNat * i.size)) (u := .slice (some ⟨w.heap.size, 0, none⟩) l.toNat l.toNat) (.inl rfl)
    (by simp) (fun c hc => by rw [(List.mem_replicate.1 hc).2]; exact hzl) (size_madeCells _ _) (by simp) (by unfold maxLen; omega) hpos (by rw [hmade]; exact VRs_rep _ hVc)
    (by
      rw [hmade]
      intro y hy
      obtain ⟨c, hc, hy⟩ := List.mem_flatten.1 hy
      rw [(List.mem_replicate.1 hc).2] at hy
      exact VRs_ones hVc hone y hy) (fun j y hj => by simpa using hj)
  simpa using key
theorem says_buildRow {o : Oper} {t e : TypeId} {n : Nat} {parts : Array (Nat × Operand)} {i : TypeInfo} {z : AV} (ho : o.op = .buildSlice t n parts) (hu : P.underlying t = some (.slice e)) (hi : P.info? e = some i)
    (hz : zeroA P e = some z) (hzl : z.cells.length = i.size) (hone : z.cells.all AV.one = true) (hpos : 0 < i.size) (hn : n * i.size ≤ 16777216) : Says P (.buildRow e i.size n z.cells (parts.toList.map (·.1))) o := by
  intro β σ K w m m' v ρ xs hrel hx h
  rw [show Op.args o.op = parts.toList.map (·.2) by rw [ho]; rfl] at hx
  replace h := run_alloc rfl h
  obtain ⟨f, ob, h, rfl, rfl⟩ := h
  simp only [allocK] at h
  split at h
  · rename_i cs hf
    simp only [Option.ite_none_right_eq_some, Option.some.injEq, Prod.mk.injEq] at h
    obtain ⟨⟨h1, h2⟩, rfl, rfl⟩ := h
    exact buildRow_sound hrel ho hu hi hz hzl hone hpos hn hx hf h1 h2
  · cases h
theorem says_mkRow {o : Oper} {t e : TypeId} {i : TypeInfo} {z : AV} {a d : Operand} (ho : o.op = .makeSlice t a d) (hu : P.underlying t = some (.slice e)) (hi : P.info? e = some i)
    (hz : zeroA P e = some z) (hzl : z.cells.length = i.size) (hone : z.cells.all AV.one = true) (hpos : 0 < i.size) : Says P (.mkRow e z.cells i.bytes) o := by
  intro β σ K w m m' v ρ xs hrel hx h
  rw [show Op.args o.op = [a, d] by rw [ho]; rfl] at hx
  obtain ⟨x, y, rfl, h1, h2⟩ := map2 hx
  replace h := run_alloc rfl h
  obtain ⟨f, ob, h, rfl, rfl⟩ := h
  cases x <;> try (simp only [allocK, reduceCtorEq] at h; done)
  cases y <;> try (simp only [allocK, reduceCtorEq] at h; done)
  rename_i k l k' c
  cases k <;> cases k' <;> simp only [allocK, reduceCtorEq, Option.ite_none_right_eq_some, Option.some.injEq, Prod.mk.injEq] at h
  obtain ⟨⟨_, _, h3, h4, h5, h6⟩, rfl, rfl⟩ := h
  rw [VR] at h1 h2
  rw [hzl]
  exact mkRow_sound hrel ho hu hi hz hzl hone hpos h1 h2 h3 h4 h5 h6
theorem run_part_scalar {t : TypeId} {kk : SKind} {us : Array Value} {o : Nat} {u : Value} (hk : skindOf P t = some kk) (hu : us[o]? = some u) : (part t us o).run P w = .ok u w := by
  obtain ⟨d, hd, hf⟩ := skindOf_spec hk
  have ha : (isAgg t).run P w = .ok false w := by
    rw [run_isAgg (by rw [hd]; rfl)]
    congr 1
    unfold isAggT
    rw [hd]
    cases kk <;> cases d <;> simp_all [kindFits]
  simp only [part, Sem.run_bind, ha, Result.andThen_ok, Bool.false_eq_true, if_false, hu, Sem.run_pure]
theorem run_equal_scalar {t : TypeId} {kk : SKind} {x y : AV} {u u' : Value} {r : Bool} {d : Nat} (hk : skindOf P t = some kk) (hx : VR σ K w x u) (hy : VR σ K w y u') (h : scalarEq kk x y = some r) : (Op.equalIn (d + 1) t u u').run P w = .ok r w := by
  obtain ⟨ds, hd, hf⟩ := skindOf_spec hk
  cases kk <;> cases x <;> cases y <;> simp only [scalarEq, reduceCtorEq] at h
  · rw [VR] at hx hy
    subst hx; subst hy
    split at h
    · rename_i he; subst he
      injection h with h; subst h
      cases ds <;> simp only [kindFits, Bool.false_eq_true] at hf
      exact run_equalIn_int w d t _ _ _ _ hd
    · cases h
  · rw [VR] at hx hy
    subst hx; subst hy
    injection h with h; subst h
    cases ds <;> simp only [kindFits, Bool.false_eq_true] at hf
    rw [beq_toListBytes]
    exact run_equalIn_string w d t _ _ hd
  · rw [VR] at hx hy
    subst hx; subst hy
    injection h with h; subst h
    cases ds <;> simp only [kindFits, Bool.false_eq_true] at hf
    exact run_equalIn_bool' w d t _ _ hd
theorem drop_cons {α : Type} {l : List α} {o : Nat} {x : α} {r : List α} (h : l.drop o = x :: r) : l[o]? = some x ∧ l.drop (o + 1) = r := by
  refine ⟨?_, ?_⟩
  · have := congrArg List.head? h
    simpa [List.head?_drop] using this
  · rw [← List.drop_drop, h]; rfl
theorem run_eqFields {d : Nat} {us vs : Array Value} : ∀ (fs : List Field) (o : Nat) (ks : List SKind) (xs ys : List AV) (r : Bool), flatKinds P fs o = some ks → VRs σ K w xs (us.toList.drop o) → VRs σ K w ys (vs.toList.drop o) → scalarsEq ks xs ys = some r →
    (Op.eqFields (d + 1) us vs fs).run P w = .ok r w
  | [], o, ks, xs, ys, r, hf, hx, hy, h => by
    simp only [flatKinds, Option.some.injEq] at hf
    subst hf
    cases xs <;> cases ys <;> simp only [scalarsEq, reduceCtorEq, Option.some.injEq] at h
    subst h
    simp [Op.eqFields]
  | f :: fs, o, ks, xs, ys, r, hf, hx, hy, h => by
    unfold flatKinds at hf
    split at hf
    · rename_i hc
      split at hf
      · rename_i k ks' hk hks
        injection hf with hf; subst hf
        cases xs <;> cases ys <;> simp only [scalarsEq, reduceCtorEq] at h
        rename_i x xs y ys
        obtain ⟨u, us', hu, hVx, hx⟩ := hx
        obtain ⟨v, vs', hv, hVy, hy⟩ := hy
        obtain ⟨hu1, hu2⟩ := drop_cons hu
        obtain ⟨hv1, hv2⟩ := drop_cons hv
        have p1 := run_part_scalar (w := w) (us := us) (o := o) hk (by simpa using hu1)
        have p2 := run_part_scalar (w := w) (us := vs) (o := o) hk (by simpa using hv1)
        unfold Op.eqFields
        rw [if_pos hc.2, hc.1]
        split at h
        · rename_i he
          simp only [Sem.run_bind, p1, Result.andThen_ok, p2, run_equal_scalar (d := d) hk hVx hVy he, Bool.not_true, Bool.false_eq_true, if_false]
          exact run_eqFields fs (o + 1) ks' xs ys r hks (by rw [hu2]; exact hx) (by rw [hv2]; exact hy) h
        · rename_i he
          injection h with h; subst h
          simp only [Sem.run_bind, p1, Result.andThen_ok, p2, run_equal_scalar (d := d) hk hVx hVy he, Bool.not_false, if_true, Sem.run_pure]
        · cases h
      · cases hf
    · cases hf
theorem says_eqAgg {o : Oper} {op : BinOp} {t t' : TypeId} {y z : Operand} {neg : Bool} {fs : Array Field} {ks : List SKind} (ho : o.op = .binOp op t y z t') (hop : op = if neg then .neq else .eql) (hu : P.underlying t = some (.struct fs))
    (hk : flatKinds P fs.toList 0 = some ks) (hp : P.stoodInHeld t = false) (hm : P.eqGuardType P.depth t = false) : Says P (.eqAgg neg ks) o := by
  intro β σ K w m m' v ρ xs hrel hx h
  rw [show Op.args o.op = [y, z] by rw [ho]; rfl] at hx
  obtain ⟨x1, x2, rfl, hV, hV'⟩ := map2 hx
  replace h := run_local rfl h
  obtain ⟨h, rfl⟩ := h
  cases x1 <;> try (simp only [localK, reduceCtorEq] at h; done)
  cases x2 <;> try (simp only [localK, reduceCtorEq] at h; done)
  rename_i as bs
  simp only [localK, Option.map_eq_some_iff] at h
  obtain ⟨r, h, rfl⟩ := h
  rw [VR] at hV hV'
  obtain ⟨us, hus, hV⟩ := hV
  obtain ⟨vs, hvs, hV'⟩ := hV'
  have hfo : P.fieldsOf t = fs := by simp [Program.fieldsOf, hu]
  have he := run_eqFields (P := P) (w := w) (d := 9998) (us := us) (vs := vs) fs.toList 0 ks as bs r hk (by simpa using hV) (by simpa using hV') h
  have heq : (Op.equalIn 10000 t (.agg us) (.agg vs)).run P w = .ok r w := by
    rw [run_equalIn_struct w 9999 t us vs (by rw [hfo]; exact hu) hp, hfo]; exact he
  have hrun : (execOp ρ o).run P w = .ok (.value (.bool (if neg then !r else r))) w := by
    cases neg
    · simp only [Bool.false_eq_true, if_false] at hop ⊢
      subst hop
      simp only [execOp, ho, hus, hvs, Sem.run_bind, run_eqGuard_agg w _ t y z us vs hm, Result.andThen_ok, run_eql_struct, heq, Sem.run_pure]
    · simp only [if_true] at hop ⊢
      subst hop
      simp only [execOp, ho, hus, hvs, Sem.run_bind, run_eqGuard_agg w _ t y z us vs hm, Result.andThen_ok, run_neq_struct, heq, Sem.run_pure]
  rw [hrun]
  exact .pure hrel (by rw [VR])
theorem bytes_of {els : List (List AV)} : ∀ {bs : List UInt8}, els.mapM byteOf = some bs → ∃ xs : List Int, els = xs.map (fun n => [.int .u8 n]) ∧ bs = xs.map fun n => UInt8.ofNat n.toNat := by
  induction els with
  | nil => intro bs h; simp at h; subst h; exact ⟨[], rfl, rfl⟩
  | cons c els ih =>
    intro bs h
    simp only [List.mapM_cons, Option.bind_eq_bind, Option.bind_eq_some_iff, Option.pure_def, Option.some.injEq] at h
    obtain ⟨b, hb, bs', hbs, rfl⟩ := h
    obtain ⟨xs, rfl, rfl⟩ := ih hbs
    unfold byteOf at hb
    split at hb
    · rename_i n
      injection hb with hb; subst hb
      exact ⟨n :: xs, rfl, rfl⟩
    · cases hb
theorem VRs_u8 : ∀ {xs : List Int} {us : List Value}, VRs σ K w (xs.map fun n => AV.int .u8 n) us → us = xs.map (Value.int .u8)
  | [], us, h => h
  | x :: xs, us, h => by
    obtain ⟨u, us', rfl, h1, h2⟩ := h
    rw [VR] at h1
    rw [h1, VRs_u8 h2]; rfl
theorem flat_u8 : ∀ (xs : List Int), (xs.map fun n => [AV.int .u8 n]).flatten = xs.map fun n => AV.int .u8 n
  | [] => rfl
  | x :: xs => by simp only [List.map_cons, List.flatten_cons, flat_u8 xs]; rfl
theorem says_bytesToStr {o : Oper} {src dst e : TypeId} {y : Operand} (ho : o.op = .convert src dst y) (h1 : P.underlying src = some (.slice e)) (h2 : P.underlying e = some (.int .u8)) (h3 : P.underlying dst = some .string) : Says P .bytesToStr o := by
  intro β σ K w m m' v ρ xs hrel hx h
  rw [show Op.args o.op = [y] by rw [ho]; rfl] at hx
  obtain ⟨x, rfl, hV⟩ := map1 hx
  replace h := run_read rfl h
  obtain ⟨h, rfl⟩ := h
  simp only [readK] at h
  split at h
  · rename_i els hels
    simp only [Option.map_eq_some_iff] at h
    obtain ⟨bs, hbs, rfl⟩ := h
    obtain ⟨ns, rfl, rfl⟩ := bytes_of hbs
    obtain ⟨hl, ad, cap, he, hc⟩ := elsOf_sound hrel hV hels
    have hrun : (convert src dst (ρ y)).run P w = .ok (.string (strOfNums ns)) w := by
      rw [he]
      rcases hc with hc | ⟨b, off, ha, hcr⟩
      · have hn : ns = [] := by simpa using hc
        subst hn
        cases ad with
        | none => exact run_convert_bytes_nil w src e h1 h2 _ _ dst h3
        | some a =>
          rw [run_convert_bytes_string w src dst e _ _ _ h1 h2 h3, run_bytesToString w a _ _ [] (by simpa using run_loadCells_list (P := P) w a [] (by simp))]
          rfl
      · rw [ha]
        obtain ⟨us, hVu, _, hcell⟩ := CR_cells hcr
        rw [flat_u8] at hVu
        have hus := VRs_u8 hVu
        have := run_convert_bytes_arg (P := P) w src e h1 h2 b off ns.length cap ns rfl (fun j hj => by
          rw [hcell j (.int .u8 (ns.getD j 0)) (by rw [hus]; simp [List.getD, hj])]) dst h3
        simpa using this
    have : (execOp ρ o).run P w = .ok (.value (.string (strOfNums ns))) w := by
      simp only [execOp, ho, Sem.run_bind, hrun, Result.andThen_ok, Sem.run_pure]
    rw [this]
    exact .pure hrel (by rw [VR]; rfl)
  · cases h
end
end Go.Pm
