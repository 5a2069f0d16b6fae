/- PmJ: plain operations, continued: maps, slice literals, make, copy, texts. -/
import Derived.Test.YtmcogjekcefjoaaGreatDoorPmI
namespace Go.Pm
open Go
section
variable {P : Program} {β : Base} {σ : Sig} {K : Bool → Nat → Prop} {w w' : World} {m m' : Mem} {v : AV} {ρ : Operand → Value}
theorem beq_bytes (a b : ByteArray) : (a == b) = true ↔ a = b := by
  obtain ⟨x⟩ := a
  obtain ⟨y⟩ := b
  constructor
  · intro h
    have e : x = y := by simpa using (show (x == y) = true from h)
    rw [e]
  · intro h
    cases h
    show (x == x) = true
    simp
def FindR (σ : Sig) (K : Bool → Nat → Prop) (w : World) : Option AV → Option (Nat × Value) → Prop
  | none, none => True
  | some v, some (_, y) => VR σ K w v y
  | _, _ => False
theorem mkMap_sound (hrel : Rel β K σ m w) {t : TypeId} {o : Oper} (ho : o.op = .makeMap t none) : Done β K σ w (m.new (.map [])) (.map m.store.length m.next) ((execOp ρ o).run P w) := by
  have : (execOp ρ o).run P w = .ok (.value (.map (some w.heap.size))) (w.alloc (.map #[] 0)) := by
    simp [execOp, ho, Instr.makeMap]
  rw [this]
  have hpre : σ <+: σ ++ [(some w.heap.size, 0)] := List.prefix_append _ _
  refine ⟨_, σ ++ [(some w.heap.size, 0)], _, _, rfl, .inl rfl, hpre, ?_, ?_, alloc_same hrel _⟩
  · rw [VR]; exact ⟨w.heap.size, 0, by rw [← hrel.next]; simp, rfl⟩
  · refine hrel.new (grownBy_alloc' w _) (fun b c e => ?_) ?_
    · injection e with e1 e2; injection e1 with e1; subst e1; simp
    · exact ⟨#[], 0, heap_alloc_new w _, rfl, by simp [BornOk]⟩
def kindFits : SKind → TypeDesc → Bool
  | .int, .int _ => true
  | .str, .string => true
  | .bool, .bool => true
  | _, _ => false
theorem skindOf_spec {t : TypeId} {kk : SKind} (h : skindOf P t = some kk) : ∃ d, P.underlying t = some d ∧ kindFits kk d = true := by
  unfold skindOf at h
  split at h <;> first | (injection h with h; subst h; exact ⟨_, by assumption, rfl⟩) | cases h
theorem keyEq_sound {kk : SKind} {d : TypeDesc} {x y : AV} {u u' : Value} {r : Bool} (hd : kindFits kk d = true) (hk : isKey kk x = true) (hx : VR σ K w x u) (hy : VR σ K w y u') (h : keyEq x y = some r) :
    Instr.sameNow d u u' = some r ∧ (r = true → u' = u ∧ Instr.sameBits 10000 u' u = true) := by
  cases x <;> cases y <;> simp only [keyEq, reduceCtorEq, Option.some.injEq] at h <;> rw [VR] at hx hy <;> subst hx <;> subst hy <;> cases kk <;> simp only [isKey, Bool.false_eq_true] at hk <;> cases d <;> simp only [kindFits, Bool.false_eq_true] at hd
  case int.int =>
    split at h
    · rename_i hkk; subst hkk
      injection h with h; subst h
      refine ⟨by simp [Instr.sameNow], fun h => ?_⟩
      have h := (beq_iff_eq).1 h; subst h
      exact ⟨rfl, by unfold Instr.sameBits; simp⟩
    · cases h
  case str.str =>
    subst h
    refine ⟨rfl, fun h => ?_⟩
    have h' := h
    rw [beq_bytes] at h; subst h
    exact ⟨rfl, by unfold Instr.sameBits; exact h'⟩
  case bool.bool =>
    subst h
    refine ⟨rfl, fun h => ?_⟩
    have h := (beq_iff_eq).1 h; subst h
    exact ⟨rfl, by unfold Instr.sameBits; simp⟩
theorem checkKey_run {kt : TypeId} {kk : SKind} {d : TypeDesc} {u : Value} (hu : P.underlying kt = some d) (hd : kindFits kk d = true) (e : Bool) : (Instr.checkKey e 10000 kt u).run P w = .ok () w := by
  show (Instr.checkKey e (9999 + 1) kt u).run P w = _
  unfold Instr.checkKey
  rw [Sem.run_bind, run_underlying hu]
  cases kk <;> cases d <;> simp only [kindFits, Bool.false_eq_true] at hd <;> rfl
theorem find_sound {kk : SKind} {d : TypeDesc} {x : AV} {u : Value} (hd : kindFits kk d = true) (hk : isKey kk x = true) (hx : VR σ K w x u) :
    ∀ (kv : List (AV × AV)) (es : List MapEntry) (i : Nat) (r : Option AV), MR σ K w kv es → findA x kv = some r →
      ∃ r', Instr.findNow d u es i = some r' ∧ FindR σ K w r r'
  | [], es, i, r, hm, h => by
    rw [MR] at hm; subst hm
    simp only [findA, Option.some.injEq] at h; subst h
    exact ⟨none, rfl, trivial⟩
  | (k, y) :: kv, es, i, r, hm, h => by
    obtain ⟨e, es', rfl, h1, h2, hm⟩ := hm
    unfold findA at h
    split at h
    · rename_i hke
      injection h with h; subst h
      obtain ⟨hs, _⟩ := keyEq_sound hd hk hx h1 hke
      exact ⟨some (i, e.val), by simp [Instr.findNow, hs], h2⟩
    · rename_i hke
      obtain ⟨hs, _⟩ := keyEq_sound hd hk hx h1 hke
      obtain ⟨r', hr, hm'⟩ := find_sound hd hk hx kv es' (i + 1) r hm h
      exact ⟨r', by simp [Instr.findNow, hs, hr], hm'⟩
    · cases h
theorem lookup_sound (hrel : Rel β K σ m w) {t kt e : TypeId} {kk : SKind} {z : AV} {ok : Bool} {x k : AV} {o : Oper} {a d : Operand} (ho : o.op = .lookup t a d ok) (ht : P.underlying t = some (.map kt e)) (hkk : skindOf P kt = some kk)
    (hz : zeroA P e = some z) (hx : VR σ K w x (ρ a)) (hk : VR σ K w k (ρ d)) (hkey : isKey kk k = true) {r : Option AV}
    (h : lookA m x k = some r) : Done β K σ w m (if ok then .tuple [r.getD z, .bool r.isSome] else r.getD z) ((execOp ρ o).run P w) := by
  obtain ⟨i, zv, hi, hzv, hV⟩ := zeroA_spec hz
  obtain ⟨dd, hdd, hfit⟩ := skindOf_spec hkk
  have fin : ∀ (es : Array MapEntry) (r' : Option (Nat × Value)), FindR σ K w r r' → Instr.findNow dd (ρ d) es.toList 0 = some r' →
      ((∃ b clock, ρ a = .map (some b) ∧ w.heap[b]? = some (.map es clock)) ∨ (ρ a = .map none ∧ es = #[])) →
      Done β K σ w m (if ok then .tuple [r.getD z, .bool r.isSome] else r.getD z) ((execOp ρ o).run P w) := by
    intro es r' hm hf hmap
    have hfind : (Instr.findKey kt (ρ d) es.toList).run P w = .ok r' w := by
      simp [Instr.findKey, run_underlying hdd, hf]
    have hck : ∀ e, (Instr.checkKey e 10000 kt (ρ d)).run P w = .ok () w := fun e => checkKey_run hdd hfit e
    obtain ⟨y, hy⟩ : ∃ y, y = match r' with | some (_, v) => v | none => zv := ⟨_, rfl⟩
    have hres : (execOp ρ o).run P w = .ok (.value (if ok then .tuple #[y, .bool r.isSome] else y)) w := by
      rcases hmap with ⟨b, clock, he, hb⟩ | ⟨he, rfl⟩
      · cases r <;> cases r' <;> simp only [FindR] at hm
        · simp [execOp, ho, Instr.lookup, run_underlying ht, he, getObj, Sem.run, hb, hck, hfind, run_zeroValue hi hzv, hy]
        · simp [execOp, ho, Instr.lookup, run_underlying ht, he, getObj, Sem.run, hb, hck, hfind, hy]
      · cases r <;> cases r' <;> simp only [FindR] at hm
        · simp [execOp, ho, Instr.lookup, run_underlying ht, he, hck, hfind, run_zeroValue hi hzv, hy]
        · simp [execOp, ho, Instr.lookup, run_underlying ht, he, hck, hfind, hy]
    rw [hres]
    have hVy : VR σ K w (r.getD z) y := by
      cases r <;> cases r' <;> simp only [FindR] at hm <;> subst hy
      · exact hV σ K w
      · exact hm
    refine .pure hrel ?_
    cases ok
    · exact hVy
    · simp only [if_true]; rw [VR]; exact ⟨_, rfl, y, _, rfl, hVy, .bool r.isSome, [], rfl, by rw [VR], rfl⟩
  cases x <;> simp only [lookA, reduceCtorEq] at h
  case const c =>
    split at h
    · rename_i heq
      injection h with h; subst h
      rw [VR] at hx
      exact fin #[] none trivial rfl (.inr ⟨by rw [hx, AV.const.inj heq], rfl⟩)
    · rename_i heq; cases heq
    · rename_i heq; cases heq
    · cases h
  case map pos gen =>
    split at h
    · rename_i kv hobj
      rw [VR] at hx
      obtain ⟨b, c, hg, he⟩ := hx
      obtain ⟨s, hs', ho'⟩ := hrel.objs pos gen _ (Mem.obj_some hobj)
      rw [hg] at hs'; injection hs' with hs'; subst hs'
      obtain ⟨es, clock, hb, hm, _⟩ := ho'
      obtain ⟨r', hr, hm'⟩ := find_sound hfit hkey hk kv es.toList 0 r hm h
      exact fin es r' hm' hr (.inl ⟨b, clock, he, hb⟩)
    · cases h
  case kmap s y =>
    split at h
    · rename_i t
      split at h
      · rename_i hst
        injection h with h; subst h
        rw [beq_bytes] at hst; subst hst
        rw [VR] at hk
        rw [VR] at hx
        obtain ⟨b, he, _, es, clock, hb, j, z, hf, hz⟩ := hx
        have hd : dd = .string := by
          cases kk <;> simp only [isKey, Bool.false_eq_true] at hkey
          cases dd <;> simp only [kindFits, Bool.false_eq_true] at hfit
          rfl
        subst hd
        exact fin es (some (j, z)) hz (by rw [hk]; exact hf) (.inl ⟨b, clock, he, hb⟩)
      · cases h
    · cases h
theorem BornOk.push {bs : List Nat} {clock : Nat} (h : BornOk bs clock) : BornOk (bs ++ [clock]) (clock + 1) := by
  refine ⟨List.pairwise_append.2 ⟨h.1, by simp, fun a ha b hb => ?_⟩, fun b hb => ?_⟩
  · rw [List.mem_singleton.1 hb]; exact h.2 a ha
  · rcases List.mem_append.1 hb with hb | hb
    · have := h.2 b hb; omega
    · rw [List.mem_singleton.1 hb]; omega
theorem MR_append {kv kv' : List (AV × AV)} {es es' : List MapEntry} (h : MR σ K w kv es) (h' : MR σ K w kv' es') : MR σ K w (kv ++ kv') (es ++ es') := by
  induction kv generalizing es with
  | nil => rw [MR] at h; subst h; exact h'
  | cons p kv ih => obtain ⟨k, v⟩ := p; obtain ⟨e, es2, rfl, h1, h2, h⟩ := h; exact ⟨e, _, rfl, h1, h2, ih h⟩
theorem upd_sound {kk : SKind} {d : TypeDesc} {x v : AV} {u y : Value} (hd : kindFits kk d = true) (hk : isKey kk x = true) (hx : VR σ K w x u) (hy : VR σ K w v y) :
    ∀ (kv : List (AV × AV)) (es : List MapEntry) (i : Nat) (kv' : List (AV × AV)), MR σ K w kv es → updA x v kv = some kv' →
      (Instr.findNow d u es i = some none ∧ kv' = kv ++ [(x, v)]) ∨ (∃ j val e, Instr.findNow d u es i = some (some (i + j, val)) ∧ es[j]? = some e ∧ e.key = u ∧ Instr.sameBits 10000 e.key u = true ∧
        ∀ e', e'.key = u → e'.val = y → MR σ K w kv' (es.set j e'))
  | [], es, i, kv', hm, h => by
    rw [MR] at hm; subst hm
    simp only [updA, Option.some.injEq] at h; subst h
    exact .inl ⟨rfl, rfl⟩
  | (k, z) :: kv, es, i, kv', hm, h => by
    obtain ⟨e, es', rfl, h1, h2, hm⟩ := hm
    unfold updA at h
    split at h
    · rename_i hke
      injection h with h; subst h
      obtain ⟨hs, hsame⟩ := keyEq_sound hd hk hx h1 hke
      obtain ⟨he, hb⟩ := hsame rfl
      exact .inr ⟨0, e.val, e, by simp [Instr.findNow, hs], rfl, he, hb, fun e' h3 h4 => ⟨e', es', rfl, by rw [h3]; exact hx, by rw [h4]; exact hy, hm⟩⟩
    · rename_i hke
      obtain ⟨hs, _⟩ := keyEq_sound hd hk hx h1 hke
      simp only [Option.map_eq_some_iff] at h
      obtain ⟨kv2, hu, rfl⟩ := h
      rcases upd_sound hd hk hx hy kv es' (i + 1) kv2 hm hu with ⟨h3, rfl⟩ | ⟨j, val, e2, h3, h4, h5, h6, h7⟩
      · exact .inl ⟨by simp [Instr.findNow, hs, h3], rfl⟩
      · exact .inr ⟨j + 1, val, e2, by simp [Instr.findNow, hs, h3]; omega, by simpa using h4, h5, h6, fun e' h8 h9 => ⟨e, _, rfl, h1, h2, h7 e' h8 h9⟩⟩
    · cases h
theorem mapUpdate_sound (hrel : Rel β K σ m w) {t kt e : TypeId} {kk : SKind} {pos gen : Nat} {k v : AV} {kv kv' : List (AV × AV)} {o : Oper} {a b d : Operand} (ho : o.op = .mapUpdate t a b d) (ht : P.underlying t = some (.map kt e)) (hkk : skindOf P kt = some kk)
    (hx : VR σ K w (.map pos gen) (ρ a)) (hk : VR σ K w k (ρ b)) (hv : VR σ K w v (ρ d)) (hkey : isKey kk k = true) (hobj : m.obj pos gen = some (.map kv)) (hupd : updA k v kv = some kv') :
    Done β K σ w (m.put pos gen (.map kv')) .any ((execOp ρ o).run P w) := by
  obtain ⟨dd, hdd, hfit⟩ := skindOf_spec hkk
  rw [VR] at hx
  obtain ⟨bl, c, hg, he⟩ := hx
  obtain ⟨s, hs', ho'⟩ := hrel.objs pos gen _ (Mem.obj_some hobj)
  rw [hg] at hs'; injection hs' with hs'; subst hs'
  obtain ⟨es, clock, hb, hm, hborn⟩ := ho'
  have hck : ∀ e, (Instr.checkKey e 10000 kt (ρ b)).run P w = .ok () w := fun e => checkKey_run hdd hfit e
  have hset : ∀ o', (setObj bl o').run P w = .ok () { w with heap := w.heap.setIfInBounds bl o' } := fun o' => by simp [setObj, Sem.run, hb]
  have fin : ∀ (es' : Array MapEntry) (clock' : Nat), MR σ K w kv' es'.toList → BornOk (es'.toList.map (·.born)) clock' → (execOp ρ o).run P w = .ok .skip { w with heap := w.heap.setIfInBounds bl (.map es' clock') } →
      Done β K σ w (m.put pos gen (.map kv')) .any ((execOp ρ o).run P w) := by
    intro es' clock' hm' hb' hr
    rw [hr]
    have hlt : bl < w.heap.size := (Array.getElem?_eq_some_iff.1 hb).1
    have hgr : w.grownBy { w with heap := w.heap.setIfInBounds bl (.map es' clock') } (some bl) := ⟨rfl, rfl, rfl, by simp, fun k _ hk => by
      have : bl ≠ k := fun e => hk (by rw [e])
      simp [this]⟩
    have hK := hrel.kept_same hgr (hrel.not_kept hobj hg)
    refine .skip (hrel.put (Mem.obj_some hobj) hg hgr ⟨es', clock', by simp [hlt], MR.mono (List.prefix_refl _) (fun _ _ h => h) hK _ _ hm', hb'⟩) hK
  rcases upd_sound hfit hkey hk hv kv es.toList 0 kv' hm hupd with ⟨h3, rfl⟩ | ⟨j, val, e2, h3, h4, h5, h6, h7⟩
  · have hfind : (Instr.findKey kt (ρ b) es.toList).run P w = .ok none w := by simp [Instr.findKey, run_underlying hdd, h3]
    refine fin (es.push { key := ρ b, val := ρ d, born := clock }) (clock + 1) (by simpa using MR_append (kv' := [(k, v)]) (es' := [{ key := ρ b, val := ρ d, born := clock }]) hm ⟨_, [], rfl, hk, hv, rfl⟩) (by simpa using hborn.push) ?_
    simp [execOp, ho, Instr.mapUpdate, run_underlying ht, he, getObj, Sem.run, hb, hck, hfind, hset]
  · rw [Nat.zero_add] at h3
    have hfind : (Instr.findKey kt (ρ b) es.toList).run P w = .ok (some (j, val)) w := by simp [Instr.findKey, run_underlying hdd, h3]
    have h4' : es[j]? = some e2 := by simpa using h4
    have hstay : (Instr.keyThatStays e2.key (ρ b)).run P w = .ok (ρ b) w := by simp [Instr.keyThatStays, h6]
    refine fin (es.modify j fun e => { e with key := ρ b, val := ρ d }) clock ?_ ?_ ?_
    · have := h7 { e2 with key := ρ b, val := ρ d } rfl rfl
      have e : (es.modify j fun e => { e with key := ρ b, val := ρ d }).toList = es.toList.set j { e2 with key := ρ b, val := ρ d } := by
        apply List.ext_getElem?
        intro i
        rw [List.getElem?_set]
        by_cases hi : j = i
        · subst hi
          obtain ⟨hj, hv'⟩ := Array.getElem?_eq_some_iff.1 h4'
          simp [hj, hv']
        · simp [hi]
      rw [e]; exact this
    · have e : (es.modify j fun e => { e with key := ρ b, val := ρ d }).toList.map (·.born) = es.toList.map (·.born) := by
        apply List.ext_getElem?
        intro i
        rw [List.getElem?_map, List.getElem?_map]
        by_cases hi : j = i
        · subst hi
          obtain ⟨hj, hv'⟩ := Array.getElem?_eq_some_iff.1 h4'
          simp [hj]
        · simp [hi]
      rw [e]; exact hborn
    · simp [execOp, ho, Instr.mapUpdate, run_underlying ht, he, getObj, Sem.run, hb, hck, hfind, hset, h4', hstay]
end
end Go.Pm
