/- PmX: array literals and their comparison, entries taken out of maps, cleared slices; operations that may go on in several ways. -/
import Derived.Maps.RangeRun
import Derived.Lib.SliceRun
import Derived.Test.YtmcogjekcefjoaaGreatDoorPmKc
namespace Go.Pm
open Go
section
variable {P : Program} {β : Base} {σ : Sig} {K : Bool → Nat → Prop} {w w' : World} {m m' : Mem} {v : AV} {ρ : Operand → Value}
theorem says_buildArr {o : Oper} {t e : TypeId} {len : Nat} {parts : Array (Nat × Operand)} {z : AV} {i : TypeInfo} (ho : o.op = .build t parts) (hu : P.underlying t = some (.array len e)) (hz : zeroA P t = some z) (hone : z.cells.all AV.one = true)
    (hi : P.info? e = some i) : Says P (.build z.cells ((parts.toList.map (·.1)).map fun j => (j * i.size, i.size))) o := by
  intro β σ K w m m' v ρ xs hrel hx h
  rw [show Op.args o.op = parts.toList.map (·.2) by rw [ho]; rfl] at hx
  replace h := run_local rfl h
  obtain ⟨h1, rfl⟩ := h
  simp only [localK, Option.map_eq_some_iff] at h1
  obtain ⟨cs, h1, rfl⟩ := h1
  obtain ⟨it, zv, hit, hzv, hV⟩ := zeroA_spec hz
  have hVc := (hV σ K w).cells hone
  obtain ⟨us', hfill, hV'⟩ := fill_sound (place := fun j => some (j * i.size, i.size)) (parts.toList.map fun p => (p.1, ρ p.2)) ((parts.toList.map (·.1)).map fun j => (j * i.size, i.size)) xs z.cells cs zv.cells
    (by simp [Function.comp_def]) (by simpa [Function.comp_def] using hx) hVc h1
  have : (execOp ρ o).run P w = .ok (.value (.agg us')) w := by
    simp only [execOp, ho, Instr.build, Sem.run_bind, run_zeroValue hit hzv, Result.andThen_ok, run_underlying hu, run_sizeOf' hi, Sem.run_pure]
    simp only [Array.toList_map, hfill, Sem.run_pure, Result.andThen_ok]
  rw [this]
  exact .pure hrel (by rw [VR]; exact ⟨_, rfl, hV'⟩)
theorem AllN_iff {k : AV → Mem → Prop} : ∀ {l : List (AV × Mem)}, AllN l k ↔ ∀ v m, (v, m) ∈ l → k v m
  | [] => by simp [AllN]
  | (v, m) :: l => by
    rw [AllN, AllN_iff (l := l)]
    constructor
    · rintro ⟨h1, h2⟩ v' m' h
      rcases List.mem_cons.1 h with h | h
      · injection h with e1 e2; subst e1; subst e2; exact h1
      · exact h2 v' m' h
    · exact fun h => ⟨h v m (by simp), fun v' m' hm => h v' m' (List.mem_cons_of_mem _ hm)⟩
theorem AllN_mono {Q Q' : AV → Mem → Prop} (h : ∀ v m, Q v m → Q' v m) {l : List (AV × Mem)} (hl : AllN l Q) : AllN l Q' := AllN_iff.2 fun v m hm => h v m (AllN_iff.1 hl v m hm)
theorem runN_mono {k : NK} {m : Mem} {xs : List AV} {W : (AV → Mem → Prop) → Prop} (hr : runN k m xs = some W) {Q Q' : AV → Mem → Prop} (h : ∀ v m, Q v m → Q' v m) (hW : W Q) : W Q' := by
  unfold runN at hr
  split at hr
  · simp only [Option.map_eq_some_iff] at hr
    obtain ⟨l, _, rfl⟩ := hr
    exact AllN_mono h hW
  · split at hr
    · injection hr with hr; subst hr; exact AllN_mono h hW
    · injection hr with hr; subst hr; exact fun bs clock h1 h2 => h _ _ (hW bs clock h1 h2)
    · cases hr
  · split at hr
    · split at hr
      · simp only [Option.ite_none_right_eq_some, Option.some.injEq] at hr
        obtain ⟨_, rfl⟩ := hr
        exact AllN_mono h hW
      · cases hr
    · cases hr
  · split at hr
    · split at hr
      · simp only [Option.ite_none_right_eq_some, Option.map_eq_some_iff] at hr
        obtain ⟨_, _, _, rfl⟩ := hr
        exact AllN_mono h hW
      · cases hr
    · cases hr
  · cases hr
def NSays (P : Program) (k : NK) (o : Oper) : Prop :=
  ∀ {β : Base} {σ : Sig} {K : Bool → Nat → Prop} {w : World} {m : Mem} {l : (AV → Mem → Prop) → Prop} {ρ : Operand → Value} {xs : List AV}, Rel β K σ m w → VRs σ K w xs ((Op.args o.op).map ρ) → runN k m xs = some l → ∃ v m', (∀ Q, l Q → Q v m') ∧ Done β K σ w m' v ((execOp ρ o).run P w)
theorem nil_is {x : AV} {u : Value} {l : List Bool} (hx : VR σ K w x u) (h : nilPoss x = some l) : ∃ a n c, u = .slice a n c ∧ a.isNone ∈ l := by
  cases x <;> simp only [nilPoss, reduceCtorEq, Option.some.injEq] at h
  case nilS => subst h; rw [VR] at hx; exact ⟨_, _, _, hx, by simp⟩
  case list p sz els =>
    rw [VR] at hx
    obtain ⟨a, cap, b, o, rfl, _, hab, _⟩ := hx
    refine ⟨_, _, _, rfl, ?_⟩
    subst h
    split
    · cases a <;> simp
    · rename_i hne
      rcases hab with rfl | ⟨rfl, _⟩
      · simp at hne
      · simp
  case row pos gen sz off n =>
    subst h
    rw [VR] at hx
    rcases hx with ⟨b, c, _, _, rfl⟩ | ⟨_, rfl, _, rfl⟩ | ⟨rfl, _, _, ad, cap, rfl⟩
    · exact ⟨_, _, _, rfl, by split <;> simp⟩
    · exact ⟨_, _, _, rfl, by simp⟩
    · exact ⟨_, _, _, rfl, by simp only [if_true]; cases ad <;> simp⟩
theorem nsays_isNil {o : Oper} {t e t' : TypeId} {y : Operand} {neg : Bool} {n c : Nat} (ho : o.op = .binOp (if neg then .neq else .eql) t y (.const (.slice none n c)) t') (hu : P.underlying t = some (.slice e)) : NSays P (.isNil neg) o := by
  intro β σ K w m l ρ xs hrel hx h
  rw [show Op.args o.op = [y, .const (.slice none n c)] by rw [ho]; rfl] at hx
  obtain ⟨x1, x2, rfl, hV, hV'⟩ := map2 hx
  cases x2 <;> simp only [runN, reduceCtorEq] at h
  simp only [Option.map_eq_some_iff] at h
  obtain ⟨lb, h, rfl⟩ := h
  obtain ⟨a, k, d, hy, ha⟩ := nil_is hV h
  rw [VR] at hV'
  have heq : (Op.equal t (.slice a k d) (.slice none 0 0)).run P w = .ok a.isNone w := Lib.run_equalIn_slice_nil w 9999 t e a k d 0 0 hu
  have h3 : (eqGuard (if neg then .neq else .eql) t y (.const (.slice none n c)) (.slice a k d) (.slice none 0 0)).run P w = .ok () w := by
    cases neg <;> rfl
  have hr : (execOp ρ o).run P w = .ok (.value (.bool (if neg then !a.isNone else a.isNone))) w := by
    cases neg <;> simp only [Bool.false_eq_true, if_false, if_true] at ho h3 ⊢ <;> simp only [execOp, ho, hy, hV', Sem.run_bind, h3, Result.andThen_ok] <;> simp [binOp, heq]
  rw [hr]
  exact ⟨_, _, fun _ hq => AllN_iff.1 hq _ _ (List.mem_map.2 ⟨_, ha, rfl⟩), .pure hrel (by rw [VR])⟩
theorem del_sound {kk : SKind} {d : TypeDesc} {x : AV} {u : Value} (hd : kindFits kk d = true) (hk : isKey kk x = true) (hx : VR σ K w x u) :
    ∀ (kv : List (AV × AV)) (es : List MapEntry) (i : Nat) (kv' : List (AV × AV)), MR σ K w kv es → delA x kv = some kv' →
      (Instr.findNow d u es i = some none ∧ kv' = kv) ∨ (∃ j val, Instr.findNow d u es i = some (some (i + j, val)) ∧ j < es.length ∧ MR σ K w kv' (es.eraseIdx j))
  | [], es, i, kv', hm, h => by
    rw [MR] at hm; subst hm
    simp only [delA, Option.some.injEq] at h; subst h
    exact .inl ⟨rfl, rfl⟩
  | (k, z) :: kv, es, i, kv', hm, h => by
    obtain ⟨e, es', rfl, h1, h2, hm⟩ := hm
    unfold delA at h
    split at h
    · rename_i hke
      injection h with h; subst h
      obtain ⟨hs, _⟩ := keyEq_sound hd hk hx h1 hke
      exact .inr ⟨0, e.val, by simp [Instr.findNow, hs], by simp, by simpa using hm⟩
    · rename_i hke
      obtain ⟨hs, _⟩ := keyEq_sound hd hk hx h1 hke
      simp only [Option.map_eq_some_iff] at h
      obtain ⟨kv2, hu, rfl⟩ := h
      rcases del_sound hd hk hx kv es' (i + 1) kv2 hm hu with ⟨h3, rfl⟩ | ⟨j, val, h3, h4, h5⟩
      · exact .inl ⟨by simp [Instr.findNow, hs, h3], rfl⟩
      · exact .inr ⟨j + 1, val, by simp [Instr.findNow, hs, h3]; omega, by simp; omega, by rw [List.eraseIdx_cons_succ]; exact ⟨e, _, rfl, h1, h2, h5⟩⟩
    · cases h
theorem BornOk.sub {bs bs' : List Nat} {clock : Nat} (h : BornOk bs clock) (hs : bs'.Sublist bs) : BornOk bs' clock := ⟨h.1.sublist hs, fun b hb => h.2 b (hs.subset hb)⟩
theorem says_mapDelete {o : Oper} {t kt e : TypeId} {kk : SKind} {ts : Array TypeId} {a b : Operand} (ho : o.op = .call ⟨.builtin .delete, #[a, b], ts⟩) (ht0 : ts[0]? = some t) (ht : P.underlying t = some (.map kt e)) (hkk : skindOf P kt = some kk) : Says P (.mapDelete kk) o := by
  intro β σ K w m m' v ρ xs hrel hx h
  rw [show Op.args o.op = [a, b] by rw [ho]; rfl] at hx
  obtain ⟨x, k, rfl, hV, hk⟩ := map2 hx
  replace h := run_write rfl h
  cases x <;> simp only [writeK, reduceCtorEq] at h
  rename_i pos gen
  simp only [Option.ite_none_right_eq_some] at h
  obtain ⟨hkey, h⟩ := h
  split at h
  case h_2 => cases h
  rename_i kv hobj
  split at h
  case h_2 => cases h
  rename_i kv' hdel
  simp only [Option.some.injEq, Prod.mk.injEq] at h
  obtain ⟨rfl, rfl⟩ := h
  obtain ⟨dd, hdd, hfit⟩ := skindOf_spec hkk
  rw [VR] at hV
  obtain ⟨bl, c, hg, he⟩ := hV
  obtain ⟨s, hs', ho'⟩ := hrel.objs pos gen _ (Mem.obj_some hobj)
  rw [hg] at hs'; injection hs' with hs'; subst hs'
  obtain ⟨es, clock, hb, hm, hborn⟩ := ho'
  have hck : ∀ e, (Instr.checkKey e 10000 kt (ρ b)).run P w = .ok () w := fun e => checkKey_run hdd hfit e
  have hset : ∀ o', (setObj bl o').run P w = .ok () { w with heap := w.heap.setIfInBounds bl o' } := fun o' => by simp [setObj, Sem.run, hb]
  have hlt : bl < w.heap.size := (Array.getElem?_eq_some_iff.1 hb).1
  have fin : ∀ es' : Array MapEntry, MR σ K w kv' es'.toList → BornOk (es'.toList.map (·.born)) clock → (Builtin.delete_ ts o.type #[ρ a, ρ b]).run P w = .ok (.tuple #[]) { w with heap := w.heap.setIfInBounds bl (.map es' clock) } →
      Done β K σ w (m.put pos gen (.map kv')) (.tuple []) ((execOp ρ o).run P w) := by
    intro es' hm' hb' hr
    have hrun : (execOp ρ o).run P w = .ok (.value (.tuple #[])) { w with heap := w.heap.setIfInBounds bl (.map es' clock) } := by
      simp [execOp, ho, resolve, invoke, builtin, hr]
    rw [hrun]
    have hgr : w.grownBy { w with heap := w.heap.setIfInBounds bl (.map es' clock) } (some bl) := ⟨rfl, rfl, rfl, by simp, fun k _ hk => by
      have : bl ≠ k := fun e => hk (by rw [e])
      simp [this]⟩
    have hK := hrel.kept_same hgr (hrel.not_kept hobj hg)
    exact ⟨_, σ, _, _, rfl, .inl rfl, List.prefix_refl _, by rw [VR]; exact ⟨#[], rfl, rfl⟩, hrel.put (Mem.obj_some hobj) hg hgr ⟨es', clock, by simp [hlt], MR.mono (List.prefix_refl _) (fun _ _ h => h) hK _ _ hm', hb'⟩, hK⟩
  rcases del_sound hfit hkey hk kv es.toList 0 kv' hm hdel with ⟨h3, rfl⟩ | ⟨j, val, h3, h4, h5⟩
  · have hfind : (Instr.findKey kt (ρ b) es.toList).run P w = .ok none w := by simp [Instr.findKey, run_underlying hdd, h3]
    refine fin es hm hborn ?_
    simp [Builtin.delete_, ht0, run_underlying ht, he, getObj, Sem.run, hb, hck, hfind, hset]
  · rw [Nat.zero_add] at h3
    have hfind : (Instr.findKey kt (ρ b) es.toList).run P w = .ok (some (j, val)) w := by simp [Instr.findKey, run_underlying hdd, h3]
    have hel : (es.eraseIdxIfInBounds j).toList = es.toList.eraseIdx j := by simp
    refine fin (es.eraseIdxIfInBounds j) (by rw [hel]; exact h5) (by rw [hel]; exact hborn.sub ((List.eraseIdx_sublist _ _).map _)) ?_
    simp [Builtin.delete_, ht0, run_underlying ht, he, getObj, Sem.run, hb, hck, hfind, hset]
theorem zipB_fst : ∀ (kv : List (AV × AV)) (bs : List Nat), bs.length = kv.length → (zipB kv bs).map (fun e => (e.1, e.2.1)) = kv
  | [], [], _ => rfl
  | (k, v) :: kv, b :: bs, h => by simp only [zipB, List.map_cons, zipB_fst kv bs (by simpa using h)]
  | [], _ :: _, h => by simp at h
  | _ :: _, [], h => by simp at h
theorem zipB_snd : ∀ (kv : List (AV × AV)) (bs : List Nat), bs.length = kv.length → (zipB kv bs).map (·.2.2) = bs
  | [], [], _ => rfl
  | (k, v) :: kv, b :: bs, h => by simp only [zipB, List.map_cons, zipB_snd kv bs (by simpa using h)]
  | [], _ :: _, h => by simp at h
  | _ :: _, [], h => by simp at h
theorem nsays_range {o : Oper} {t kt e : TypeId} {a : Operand} (ho : o.op = .range t a) (ht : P.underlying t = some (.map kt e)) : NSays P .rangeM o := by
  intro β σ K w m l ρ xs hrel hx h
  rw [show Op.args o.op = [a] by rw [ho]; rfl] at hx
  obtain ⟨x, hxs, hV⟩ : ∃ x, xs = [x] ∧ VR σ K w x (ρ a) := by
    match xs, hx with
    | [x], ⟨u, us, h1, h2, h3⟩ => injection h1 with h1 h4; exact ⟨x, rfl, by rw [h1]; exact h2⟩
    | x :: y :: xs, ⟨u, us, h1, h2, ⟨u2, us2, h3, _⟩⟩ => injection h1 with h1 h4; rw [← h4] at h3; cases h3
  subst hxs
  cases x <;> simp only [runN, reduceCtorEq] at h
  rename_i pos gen
  rw [VR] at hV
  obtain ⟨mb, c, hg, he⟩ := hV
  have hpre : σ <+: σ ++ [(some w.heap.size, 0)] := List.prefix_append _ _
  have fin : ∀ (m : Mem) (es : Array MapEntry) (clock : Nat), Rel β K σ m w → w.heap[mb]? = some (.map es clock) →
      Done β K σ w (m.new (.iter pos gen clock [] clock)) (.ptr m.store.length m.next 0) ((execOp ρ o).run P w) := by
    intro m es clock hrel hb
    have hrun : (execOp ρ o).run P w = .ok (.value (.pointer (some ⟨w.heap.size, 0, none⟩))) (w.alloc (.mapIter (some mb) clock #[] clock)) := by
      simp only [execOp, ho, he, Sem.run_bind, run_range_map w t kt e mb es clock ht hb, Result.andThen_ok, Sem.run_pure]
    rw [hrun]
    refine ⟨_, σ ++ [(some w.heap.size, 0)], _, _, rfl, .inl rfl, hpre, ?_, ?_, alloc_same hrel _⟩
    · rw [VR]; exact ⟨w.heap.size, 0, by rw [← hrel.next]; simp, rfl⟩
    · refine hrel.new (grownBy_alloc' w _) (fun b c e => ?_) ?_
      · injection e with e1 e2; injection e1 with e1; subst e1; simp
      · exact ⟨mb, c, pre_get hpre hg, heap_alloc_new w _⟩
  split at h
  · rename_i eb clock hobj
    simp only [Option.some.injEq] at h
    subst h
    obtain ⟨s, hs', ho'⟩ := hrel.objs pos gen _ (Mem.obj_some hobj)
    rw [hg] at hs'; injection hs' with hs'; subst hs'
    obtain ⟨es, hb, _, _⟩ := ho'
    exact ⟨_, _, fun _ hq => AllN_iff.1 hq _ _ (List.mem_singleton.2 rfl), fin m es clock hrel hb⟩
  · rename_i kv hobj
    simp only [Option.some.injEq] at h
    subst h
    obtain ⟨s, hs', ho'⟩ := hrel.objs pos gen _ (Mem.obj_some hobj)
    rw [hg] at hs'; injection hs' with hs'; subst hs'
    obtain ⟨es, clock, hb, hm, hborn⟩ := ho'
    have hlen : (es.toList.map (·.born)).length = kv.length := by rw [List.length_map]; exact MR.length hm
    have hrel2 : Rel β K σ (m.put pos gen (.emap (zipB kv (es.toList.map (·.born))) clock)) w :=
      hrel.put (Mem.obj_some hobj) hg ⟨rfl, rfl, rfl, Nat.le_refl _, fun _ _ _ => rfl⟩ ⟨es, hb, by rw [zipB_fst _ _ hlen]; exact hm, by rw [zipB_snd _ _ hlen], hborn⟩
    have hl2 : (m.put pos gen (.emap (zipB kv (es.toList.map (·.born))) clock)).store.length = m.store.length := by simp [Mem.put]
    have := fin _ es clock hrel2 hb
    rw [hl2] at this
    exact ⟨_, _, fun _ hq => hq (es.toList.map (·.born)) clock hborn hlen, this⟩
  · cases h
theorem MR_get : ∀ {kv : List (AV × AV)} {es : List MapEntry}, MR σ K w kv es → ∀ (i : Nat) (e : MapEntry), es[i]? = some e → ∃ k v, kv[i]? = some (k, v) ∧ VR σ K w k e.key ∧ VR σ K w v e.val
  | [], es, h, i, e, he => by rw [MR] at h; subst h; simp at he
  | (k, v) :: kv, es, h, i, e, he => by
    obtain ⟨e0, es', rfl, h1, h2, h3⟩ := h
    cases i with
    | zero => injection he with he; subst he; exact ⟨k, v, rfl, h1, h2⟩
    | succ i => exact MR_get h3 i e (by simpa using he)
theorem one_of {u : Value} {xs : List AV} (h : VRs σ K w xs [u]) : ∃ x, xs = [x] ∧ VR σ K w x u := by
  match xs, h with
  | [], h => simp [VRs] at h
  | [x], ⟨u', us, h1, h2, h3⟩ => injection h1 with h1 h4; exact ⟨x, rfl, by rw [h1]; exact h2⟩
  | x :: y :: xs, ⟨u', us, h1, h2, ⟨u2, us2, h3, _⟩⟩ => injection h1 with h1 h4; rw [← h4] at h3; cases h3
theorem born_entry {eb : List (AV × AV × Nat)} {es : List MapEntry} (hm : MR σ K w (eb.map fun e => (e.1, e.2.1)) es) (hb : es.map (·.born) = eb.map (·.2.2)) {e : MapEntry} (he : e ∈ es) : ∃ a ∈ eb, a.2.2 = e.born ∧ VR σ K w a.1 e.key ∧ VR σ K w a.2.1 e.val := by
  obtain ⟨i, hi, rfl⟩ := List.getElem_of_mem he
  obtain ⟨k, v, hk, h1, h2⟩ := MR_get hm i es[i] (List.getElem?_eq_getElem hi)
  rw [List.getElem?_map, Option.map_eq_some_iff] at hk
  obtain ⟨a, ha, hkv⟩ := hk
  injection hkv with e1 e2
  refine ⟨a, List.mem_of_getElem? ha, ?_, by rw [e1]; exact h1, by rw [e2]; exact h2⟩
  have := congrArg (fun l => l[i]?) hb
  simp only [List.getElem?_map, List.getElem?_eq_getElem hi, ha, Option.map_some, Option.some.injEq] at this
  exact this.symm
theorem nsays_next {o : Oper} {a : Operand} (ho : o.op = .next a false) : NSays P .next o := by
  intro β σ K w m l ρ xs hrel hx h
  rw [show Op.args o.op = [a] by rw [ho]; rfl] at hx
  obtain ⟨x, rfl, hV⟩ := one_of hx
  cases x <;> simp only [runN, reduceCtorEq] at h
  rename_i ip ig off
  cases off <;> simp only [reduceCtorEq] at h
  split at h
  case h_2 => cases h
  rename_i pos gen since seen last hit
  split at h
  case h_2 => cases h
  rename_i eb clock hobj
  simp only [Option.ite_none_right_eq_some, Option.some.injEq] at h
  obtain ⟨⟨hsl, hall⟩, rfl⟩ := h
  rw [VR] at hV
  obtain ⟨ib, ic, hig, he⟩ := hV
  obtain ⟨s, hs', ho'⟩ := hrel.objs ip ig _ (Mem.obj_some hit)
  rw [hig] at hs'; injection hs' with hs'; subst hs'
  obtain ⟨mb, c, hg, hib⟩ := ho'
  obtain ⟨s, hs', ho'⟩ := hrel.objs pos gen _ (Mem.obj_some hobj)
  rw [hg] at hs'; injection hs' with hs'; subst hs'
  obtain ⟨es, hb, hm, hborn, hok⟩ := ho'
  have hold : ∀ x ∈ es.toList, x.born < since := fun x hx => by
    obtain ⟨a', ha, e1, _, _⟩ := born_entry hm hborn hx
    have := List.all_eq_true.1 hall a' ha
    rw [decide_eq_true_eq] at this
    omega
  rcases run_next_at (P := P) w o.type ib mb since last seen.toArray es clock hib hb hold hsl with ⟨h0, hr⟩ | ⟨e, hmem, w1, hw1, hr⟩
  · have hemp : (eb.filter fun e => !seen.contains e.2.2).isEmpty = true := by
      rw [List.isEmpty_iff]
      refine List.filter_eq_nil_iff.2 fun a' ha hn => ?_
      obtain ⟨i, hi, rfl⟩ := List.getElem_of_mem ha
      have hl : es.toList.length = eb.length := by have := congrArg List.length hborn; simpa using this
      have hbi := congrArg (fun l => l[i]?) hborn
      simp only [List.getElem?_map, List.getElem?_eq_getElem hi, List.getElem?_eq_getElem (show i < es.toList.length by omega), Option.map_some, Option.some.injEq] at hbi
      have hin : es.toList[i]'(by omega) ∈ (leftOf es seen.toArray).toList := by
        unfold leftOf
        rw [Array.toList_filter, List.mem_filter]
        refine ⟨List.getElem_mem _, ?_⟩
        rw [hbi]
        simpa using hn
      have : (leftOf es seen.toArray).toList.length = 0 := by simpa using h0
      rw [List.length_eq_zero_iff] at this
      rw [this] at hin
      cases hin
    rw [if_pos hemp]
    have hrun : (execOp ρ o).run P w = .ok (.value (.tuple #[.bool false])) w := by
      simp only [execOp, ho, he, Sem.run_bind, hr, Result.andThen_ok, Sem.run_pure]
    rw [hrun]
    exact ⟨_, _, fun _ hq => AllN_iff.1 hq _ _ (List.mem_singleton.2 rfl), .pure hrel (by rw [VR]; exact ⟨_, rfl, .bool false, [], rfl, by rw [VR], rfl⟩)⟩
  · have hmem' : e ∈ es.toList ∧ ¬ e.born ∈ seen := by
      unfold leftOf at hmem
      rw [Array.toList_filter, List.mem_filter] at hmem
      exact ⟨hmem.1, by simpa using hmem.2⟩
    obtain ⟨a', ha, e1, hk, hv⟩ := born_entry hm hborn hmem'.1
    have hin : a' ∈ eb.filter fun e => !seen.contains e.2.2 := by
      rw [List.mem_filter]
      exact ⟨ha, by rw [e1]; simpa using hmem'.2⟩
    have hne : ¬ (eb.filter fun e => !seen.contains e.2.2).isEmpty = true := by
      intro h0
      rw [List.isEmpty_iff] at h0
      rw [h0] at hin
      cases hin
    rw [if_neg hne]
    have hrun : (execOp ρ o).run P w = .ok (.value (.tuple #[.bool true, e.key, e.val])) (ChangeMaps.setBlock w1 ib (.mapIter (some mb) since (seen.toArray.push e.born) clock)) := by
      simp only [execOp, ho, he, Sem.run_bind, hr, Result.andThen_ok, Sem.run_pure]
    rw [hrun]
    have hlt : ib < w.heap.size := (Array.getElem?_eq_some_iff.1 hib).1
    have hh1 : w1.heap = w.heap := by rcases hw1 with rfl | rfl <;> rfl
    have hgr : w.grownBy (ChangeMaps.setBlock w1 ib (.mapIter (some mb) since (seen.toArray.push e.born) clock)) (some ib) := by
      refine ⟨?_, ?_, ?_, by simp [ChangeMaps.setBlock, hh1], fun k _ hk => ?_⟩
      · rcases hw1 with rfl | rfl <;> rfl
      · rcases hw1 with rfl | rfl <;> rfl
      · rcases hw1 with rfl | rfl <;> rfl
      · have : ib ≠ k := fun e => hk (by rw [e])
        simp [ChangeMaps.setBlock, hh1, this]
    have hK := hrel.kept_same hgr (hrel.not_kept hit hig)
    refine ⟨_, _, fun _ hq => AllN_iff.1 hq _ _ (List.mem_map.2 ⟨a', hin, rfl⟩), _, σ, _, _, rfl, .inl rfl, List.prefix_refl _, ?_, hrel.put (Mem.obj_some hit) hig hgr ⟨mb, c, hg, ?_⟩, hK⟩
    · have hk' := VR.mono (List.prefix_refl σ) (fun _ _ h => h) hK _ _ hk
      have hv' := VR.mono (List.prefix_refl σ) (fun _ _ h => h) hK _ _ hv
      rw [VR]
      exact ⟨_, rfl, .bool true, [e.key, e.val], rfl, by rw [VR], e.key, [e.val], rfl, hk', e.val, [], rfl, hv', rfl⟩
    · rw [e1]
      simp [ChangeMaps.setBlock, hh1, hlt]
theorem nsays_entry {o : Oper} {a : Operand} (ho : o.op = .entry a) : NSays P .entry o := by
  intro β σ K w m l ρ xs hrel hx h
  rw [show Op.args o.op = [a] by rw [ho]; rfl] at hx
  obtain ⟨x, rfl, hV⟩ := one_of hx
  cases x <;> simp only [runN, reduceCtorEq] at h
  rename_i ip ig off
  cases off <;> simp only [reduceCtorEq] at h
  split at h
  case h_2 => cases h
  rename_i pos gen since seen last hit
  split at h
  case h_2 => cases h
  rename_i eb clock b hobj hlast
  simp only [Option.ite_none_right_eq_some, Option.map_eq_some_iff] at h
  obtain ⟨rfl, a', hfind, rfl⟩ := h
  rw [VR] at hV
  obtain ⟨ib, ic, hig, he⟩ := hV
  obtain ⟨s, hs', ho'⟩ := hrel.objs ip ig _ (Mem.obj_some hit)
  rw [hig] at hs'; injection hs' with hs'; subst hs'
  obtain ⟨mb, c, hg, hib⟩ := ho'
  obtain ⟨s, hs', ho'⟩ := hrel.objs pos gen _ (Mem.obj_some hobj)
  rw [hg] at hs'; injection hs' with hs'; subst hs'
  obtain ⟨es, hb, hm, hborn, hok⟩ := ho'
  obtain ⟨seen', hseen⟩ : ∃ seen', seen = seen' ++ [b] := List.getLast?_eq_some_iff.1 hlast
  have hab : a'.2.2 = b := by have := List.find?_some hfind; simpa using this
  obtain ⟨i, hi, hia⟩ := List.getElem_of_mem (List.mem_of_find?_eq_some hfind)
  have hl : es.toList.length = eb.length := by have := congrArg List.length hborn; simpa using this
  have hbi := congrArg (fun l => l[i]?) hborn
  simp only [List.getElem?_map, List.getElem?_eq_getElem hi, List.getElem?_eq_getElem (show i < es.toList.length by omega), Option.map_some, Option.some.injEq] at hbi
  obtain ⟨e, hee⟩ : ∃ e, e = es.toList[i]'(by omega) := ⟨_, rfl⟩
  rw [← hee, hia, hab] at hbi
  have hein : e ∈ es.toList := by rw [hee]; exact List.getElem_mem _
  obtain ⟨k, v, hkv, hk, hv⟩ := MR_get hm i e (by rw [hee]; exact List.getElem?_eq_getElem _)
  rw [List.getElem?_map, List.getElem?_eq_getElem hi, Option.map_some, Option.some.injEq] at hkv
  rw [hia] at hkv
  injection hkv with e1 e2
  have hr := run_entry_at (P := P) w ib mb since seen'.toArray es clock e (by rw [hib, hseen, ← hbi]; simp) hb hein (hok.1.imp fun h => Nat.ne_of_lt h)
  have hrun : (execOp ρ o).run P w = .ok (.value (.tuple #[e.key, e.val])) w := by
    simp only [execOp, ho, he, Sem.run_bind, hr, Result.andThen_ok, Sem.run_pure]
  rw [hrun]
  exact ⟨_, _, fun _ hq => AllN_iff.1 hq _ _ (List.mem_singleton.2 rfl), .pure hrel (by rw [VR]; exact ⟨_, rfl, e.key, [e.val], rfl, by rw [e1]; exact hk, e.val, [], rfl, by rw [e2]; exact hv, rfl⟩)⟩
theorem row_over (hrel : Rel β K σ m w) {pos gen b c e off : Nat} {els new : List (List AV)} {us : List Value} (hobj : m.obj pos gen = some (.row e 1 els)) (hg : σ[gen]? = some (some b, c)) (hle : off + new.length ≤ els.length)
    (h1 : ∀ x ∈ new, x.length = 1) (hVus : VRs σ K w new.flatten us) (hone : ∀ u ∈ us, u.oneCell' = true) :
    ∃ w', (storeCells ⟨b, off, none⟩ us 0).run P w = .ok () w' ∧ Rel β K σ (m.put pos gen (.row e 1 (els.take off ++ new ++ els.drop (off + new.length)))) w' ∧ ∀ p b, K p b → w'.heap[b]? = w.heap[b]? := by
  obtain ⟨cur, hheap, hcs, hcap, hmax, hpos, hl⟩ := hrel.obj_row hobj hg
  obtain ⟨hlens, hcr⟩ := LR_flat.1 hl
  have hfl : ∀ l : List (List AV), (∀ c ∈ l, c.length = 1) → l.flatten.length = l.length := fun l hl => by
    have := flatten_length hl; simpa using this
  have hul : us.length = new.length := by rw [VRs_length hVus, hfl _ h1]
  have hfit : off + us.length ≤ cur.size := by rw [hul, hcs]; omega
  have hst := run_storeCells_at P b off e us 0 cur w hheap (by simpa using hfit) hone
  refine ⟨_, hst, ?_⟩
  simp only [Nat.add_zero]
  have hgr := setRow_grown w b (cur.toList.take off ++ us ++ cur.toList.drop (off + us.length)).toArray
  have hK := hrel.kept_same hgr (hrel.not_kept hobj hg)
  have hb' := setRow_heap w b cur (cur.toList.take off ++ us ++ cur.toList.drop (off + us.length)).toArray e _ hheap
  have hstored := setRow_stored (w := w) (o := off) hheap hfit
  refine ⟨hrel.put (Mem.obj_some hobj) hg hgr ⟨_, hb', ?_, ?_, hmax, hpos, LR_flat.2 ⟨?_, ?_⟩⟩, hK⟩
  · rw [← hcs]
    simp only [List.size_toArray, List.length_append, List.length_take, List.length_drop, Array.length_toList]
    omega
  · simp only [List.length_append, List.length_take, List.length_drop]; omega
  · intro c hc
    simp only [List.mem_append] at hc
    rcases hc with (hc | hc) | hc
    · exact hlens c (List.mem_of_mem_take hc)
    · exact h1 c hc
    · exact hlens c (List.mem_of_mem_drop hc)
  · have hT : ∀ k, (els.take k).flatten.length = (els.take k).length := fun k => hfl _ fun c hc => hlens c (List.mem_of_mem_take hc)
    have hnt := hfl _ h1
    have hsplit : els.flatten = (els.take off).flatten ++ ((els.drop off).take new.length).flatten ++ (els.drop (off + new.length)).flatten := by
      rw [← List.flatten_append, ← List.flatten_append]
      congr 1
      rw [List.append_assoc, ← List.drop_drop, List.take_append_drop, List.take_append_drop]
    have hov : (els.take off ++ new ++ els.drop (off + new.length)).flatten = over els.flatten off new.flatten := by
      have h2 : (els.take off).flatten.length = off := by rw [hT, List.length_take]; omega
      have h3 : (((els.drop off).take new.length).flatten).length = new.length := by
        rw [hfl _ fun c hc => hlens c (List.mem_of_mem_drop (List.mem_of_mem_take hc)), List.length_take, List.length_drop]; omega
      have e1 : ∀ A B C : List AV, A.length = off → List.take off (A ++ B ++ C) = A := fun A B C h => by
        rw [List.append_assoc]; exact List.take_left' h
      have e2 : ∀ A B C : List AV, A.length = off → B.length = new.length → List.drop (off + new.length) (A ++ B ++ C) = C := fun A B C h h' => by
        exact List.drop_left' (by rw [List.length_append, h, h'])
      unfold over
      rw [hnt, hsplit, List.flatten_append, List.flatten_append, e1 _ _ _ h2, e2 _ _ _ h2 h3]
    rw [hov]
    exact CR_over (o' := 0) (by rw [Nat.zero_add]; exact hstored) hK hcr hVus hone (by rw [hnt, hfl _ hlens]; omega)
theorem says_clear {o : Oper} {t e : TypeId} {ts : Array TypeId} {i : TypeInfo} {z : AV} {a : Operand} (ho : o.op = .call ⟨.builtin .clear, #[a], ts⟩) (ht : ts[0]? = some t) (hu : P.underlying t = some (.slice e)) (hi : P.info? e = some i) (hz : zeroA P e = some z)
    : Says P (.clear z.cells) o := by
  intro β σ K w m m' v ρ xs hrel hx h
  rw [show Op.args o.op = [a] by rw [ho]; rfl] at hx
  obtain ⟨x, rfl, hV⟩ := one_of hx
  replace h := run_write rfl h
  cases x <;> simp only [writeK, reduceCtorEq] at h
  rename_i pos gen sz off n
  split at h
  case h_2 => cases h
  rename_i e' sz' els hobj
  simp only [Option.ite_none_right_eq_some, Option.some.injEq, Prod.mk.injEq] at h
  obtain ⟨⟨rfl, rfl, hl1, hone, hle⟩, rfl, rfl⟩ := h
  obtain ⟨i', zv, hi', hzv, hVz⟩ := zeroA_spec hz
  rw [hi] at hi'; injection hi' with hi'; subst hi'
  have hVc := (hVz σ K w).cells hone
  have hzc1 : zv.cells.toList.length = 1 := by rw [VRs_length hVc]; exact hl1
  obtain ⟨z0, hz0⟩ : ∃ z0, zv.cells = #[z0] := by
    cases hc : zv.cells with
    | mk l =>
      rw [hc] at hzc1
      match l, hzc1 with
      | [z0], _ => exact ⟨z0, rfl⟩
  have hzl : (Builtin.zeroCells zv.cells n).toList = List.replicate n z0 := by
    rw [hz0]
    simp [Builtin.zeroCells]
    apply List.ext_getElem
    · simp
    · intro i h1 h2
      simp [Nat.mod_one]
  have hrun : ∀ (base : Option Addr) (cap : Nat) (w' : World), ρ a = .slice base n cap → (n ≠ 0 → ∃ ad, base = some ad ∧ (storeCells ad (List.replicate n z0) 0).run P w = .ok () w') → (n = 0 → w' = w) → (execOp ρ o).run P w = .ok (.value (.tuple #[])) w' := by
    intro base cap w' hbase hst h00
    have : (Builtin.clear_ ts o.type #[ρ a]).run P w = .ok (.tuple #[]) w' := by
      by_cases hn : n = 0
      · subst hn
        rw [h00 rfl, hbase]
        cases base <;> simp [Builtin.clear_, ht, run_underlying hu]
      · obtain ⟨ad, rfl, hst2⟩ := hst hn
        clear hst
        obtain ⟨k, rfl⟩ : ∃ k, n = k + 1 := ⟨n - 1, by omega⟩
        rw [hbase]
        simp [Builtin.clear_, ht, run_underlying hu, run_zeroValue hi hzv, hzl, hst2]
    simp [execOp, ho, resolve, invoke, builtin, this]
  rw [VR] at hV
  have hres : ∀ w', VR σ K w' (.tuple []) (.tuple #[]) := fun w' => by rw [VR]; exact ⟨#[], rfl, rfl⟩
  by_cases h0 : n = 0
  · subst h0
    have hsame : m.put pos gen (.row e' 1 (els.take off ++ List.replicate 0 z.cells ++ els.drop (off + 0))) = m := by
      simp only [List.replicate_zero, List.append_nil, Nat.add_zero, List.take_append_drop]
      exact Mem.put_same (Mem.obj_some hobj)
    rw [hsame]
    rcases hV with ⟨b, c, hg, hoc, he⟩ | ⟨hg, hn0, _, he⟩ | ⟨hn0, _, _, ad, cap, he⟩
    · rw [hrun _ _ w he (fun h => absurd rfl h) (fun _ => rfl)]; exact .pure hrel (hres w)
    · rw [hrun none 0 w he (fun h => absurd rfl h) (fun _ => rfl)]; exact .pure hrel (hres w)
    · rw [hrun _ _ w he (fun h => absurd rfl h) (fun _ => rfl)]; exact .pure hrel (hres w)
  · rcases hV with ⟨b, c, hg, hoc, he⟩ | ⟨hg, hn0, _, he⟩ | ⟨hn0, _⟩
    · have hz0V : VRs σ K w z.cells [z0] := by have := hVc; rw [hz0] at this; exact this
      have hVn : ∀ k, VRs σ K w (List.replicate k z.cells).flatten (List.replicate k z0) := by
        intro k
        induction k with
        | zero => rfl
        | succ k ih =>
          rw [List.replicate_succ, List.replicate_succ, List.flatten_cons]
          match hzz : z.cells, hl1 with
          | [y], _ =>
            rw [hzz] at hz0V ih
            obtain ⟨u, us, h1, h2, h3⟩ := hz0V
            injection h1 with h1 _
            exact ⟨z0, _, rfl, by rw [h1]; exact h2, ih⟩
      have hone0 : z0.oneCell' = true := by
        match hzz : z.cells, hl1 with
        | [y], _ =>
          rw [hzz] at hz0V hone
          obtain ⟨u, us, h1, h2, h3⟩ := hz0V
          injection h1 with h1 _
          rw [h1]
          exact VR.oneCell h2 (by simpa using hone)
      obtain ⟨w', hst, hrel', hK⟩ := row_over (P := P) hrel (off := off) (new := List.replicate n z.cells) (us := List.replicate n z0) hobj hg (by simpa using hle) (fun x hx => by rw [List.eq_of_mem_replicate hx]; exact hl1) (hVn n) (fun u hu => by rw [List.eq_of_mem_replicate hu]; exact hone0)
      rw [List.length_replicate] at hrel'
      rw [hrun _ _ w' he (fun _ => ⟨_, rfl, by rw [Nat.mul_one]; exact hst⟩) (fun h => absurd h h0)]
      exact ⟨_, σ, _, _, rfl, .inl rfl, List.prefix_refl _, hres w', hrel', hK⟩
    · exact absurd hn0 h0
    · exact absurd hn0 h0
theorem run_equalIn_arr2 {d : Nat} {t e : TypeId} {kk : SKind} {us vs : Array Value} {x0 x1 y0 y1 : AV} {r : Bool} (hu : P.underlying t = some (.array 2 e)) (hk : skindOf P e = some kk) (h1 : (sizeOf e).run P w = .ok 1 w) (hx : VRs σ K w [x0, x1] us.toList) (hy : VRs σ K w [y0, y1] vs.toList) (h : scalarsEq [kk, kk] [x0, x1] [y0, y1] = some r) :
    (Op.equalIn (d + 2) t (.agg us) (.agg vs)).run P w = .ok r w := by
  obtain ⟨a0, us', hus, hx0, a1, us2, rfl, hx1, hus3⟩ := hx
  rw [VRs] at hus3
  subst hus3
  obtain ⟨b0, vs', hvs, hy0, b1, vs2, rfl, hy1, hvs3⟩ := hy
  rw [VRs] at hvs3
  subst hvs3
  have p0 := run_part_scalar (w := w) (us := us) (o := 0) (u := a0) hk (by have := congrArg (fun l => l[0]?) hus; simpa using this)
  have p1 := run_part_scalar (w := w) (us := us) (o := 1) (u := a1) hk (by have := congrArg (fun l => l[1]?) hus; simpa using this)
  have q0 := run_part_scalar (w := w) (us := vs) (o := 0) (u := b0) hk (by have := congrArg (fun l => l[0]?) hvs; simpa using this)
  have q1 := run_part_scalar (w := w) (us := vs) (o := 1) (u := b1) hk (by have := congrArg (fun l => l[1]?) hvs; simpa using this)
  unfold Op.equalIn
  rw [Sem.run_bind, run_underlying hu]
  simp only [Result.andThen_ok, Sem.run_bind, h1]
  simp only [scalarsEq] at h
  split at h
  · rename_i he0
    have r0 := run_equal_scalar (d := d) hk hx0 hy0 he0
    split at h
    · rename_i he1
      injection h with h; subst h
      have r1 := run_equal_scalar (d := d) hk hx1 hy1 he1
      simp [Std.Legacy.Range.forIn_eq_forIn_range', List.range', p0, p1, q0, q1, r0, r1]
    · rename_i he1
      injection h with h; subst h
      have r1 := run_equal_scalar (d := d) hk hx1 hy1 he1
      simp [Std.Legacy.Range.forIn_eq_forIn_range', List.range', p0, p1, q0, q1, r0, r1]
    · cases h
  · rename_i he0
    injection h with h; subst h
    have r0 := run_equal_scalar (d := d) hk hx0 hy0 he0
    simp [Std.Legacy.Range.forIn_eq_forIn_range', List.range', p0, q0, r0]
  · cases h
theorem says_eqPair {o : Oper} {op : BinOp} {t t' e : TypeId} {y z : Operand} {neg : Bool} {kk : SKind} {i : TypeInfo} (ho : o.op = .binOp op t y z t') (hop : op = if neg then .neq else .eql) (hu : P.underlying t = some (.array 2 e))
    (hk : skindOf P e = some kk) (hi : P.info? e = some i) (hi1 : i.size = 1) (hm : P.eqGuardType P.depth t = false) : Says P (.eqPair neg kk) o := by
  intro β σ K w m m' v ρ xs hrel hx h
  rw [show Op.args o.op = [y, z] by rw [ho]; rfl] at hx
  obtain ⟨x1, x2, rfl, hV, hV'⟩ := map2 hx
  replace h := run_local rfl h
  obtain ⟨h, rfl⟩ := h
  simp only [localK] at h
  split at h
  case h_2 => cases h
  rename_i x0 x1' y0 y1' hp1 hp2
  obtain rfl := pairA_some hp1
  obtain rfl := pairA_some hp2
  simp only [Option.map_eq_some_iff] at h
  obtain ⟨r, h, rfl⟩ := h
  rw [VR] at hV hV'
  obtain ⟨us, hus, hV⟩ := hV
  obtain ⟨vs, hvs, hV'⟩ := hV'
  have heq : (Op.equalIn 10000 t (.agg us) (.agg vs)).run P w = .ok r w := run_equalIn_arr2 (d := 9998) hu hk (by rw [run_sizeOf' hi, hi1]) hV hV' h
  have hrun : (execOp ρ o).run P w = .ok (.value (.bool (if neg then !r else r))) w := by
    cases neg
    · simp only [Bool.false_eq_true, if_false] at hop ⊢
      subst hop
      simp only [execOp, ho, hus, hvs, Sem.run_bind, run_eqGuard_agg w _ t y z us vs hm, Result.andThen_ok, run_eql_struct, heq, Sem.run_pure]
    · simp only [if_true] at hop ⊢
      subst hop
      simp only [execOp, ho, hus, hvs, Sem.run_bind, run_eqGuard_agg w _ t y z us vs hm, Result.andThen_ok, run_neq_struct, heq, Sem.run_pure]
  rw [hrun]
  exact .pure hrel (by rw [VR])
theorem compN_says {o : Oper} {k : NK} (h : compN P o.op = some k) : NSays P k o := by
  unfold compN at h
  split at h
  · rename_i hop
    split at h
    · rename_i hu; injection h with h; subst h; exact nsays_range hop hu
    · cases h
  · rename_i hop; injection h with h; subst h; exact nsays_next hop
  · rename_i hop; injection h with h; subst h; exact nsays_entry hop
  · rename_i hop
    split at h
    · rename_i hu
      split at h
      · injection h with h; subst h; exact nsays_isNil (neg := false) hop hu
      · injection h with h; subst h; exact nsays_isNil (neg := true) hop hu
      · cases h
    · cases h
  · cases h
end
end Go.Pm
