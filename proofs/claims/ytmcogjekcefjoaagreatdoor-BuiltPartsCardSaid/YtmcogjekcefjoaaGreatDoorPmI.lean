/- PmI: plain operations, continued: maps, literals, append. -/
import Derived.Lib.AppendStr
import Derived.Test.YtmcogjekcefjoaaGreatDoorPmH
namespace Go.Pm
open Go
section
variable {P : Program} {β : Base} {σ : Sig} {K : Bool → Nat → Prop} {w w' : World} {m m' : Mem} {v : AV} {ρ : Operand → Value}
theorem build_sound (hrel : Rel β K σ m w) {t : TypeId} {parts : Array (Nat × Operand)} {fs : Array Field} {z : AV} {offs : List (Nat × Nat)} {xs cs : List AV} {o : Oper} (ho : o.op = .build t parts) (hu : P.underlying t = some (.struct fs))
    (hz : zeroA P t = some z) (hone : z.cells.all AV.one = true) (hf : fieldsAt P fs (parts.toList.map (·.1)) = some offs) (hall : fs.all (fun f => (P.info? f.type).isSome) = true)
    (hx : VRs σ K w xs ((parts.toList.map (·.2)).map ρ)) (h : fillA z.cells offs xs = some cs) : Done β K σ w m (.agg cs) ((execOp ρ o).run P w) := by
  obtain ⟨i, zv, hi, hzv, hV⟩ := zeroA_spec hz
  have hVc := (hV σ K w).cells hone
  have hplace : ∀ (l : List Nat) (offs : List (Nat × Nat)), fieldsAt P fs l = some offs → l.map (fun j => (fs.map fun f => (f.offset, P.cellsOf f.type))[j]?) = offs.map some := by
    intro l
    induction l with
    | nil => intro offs h; simp [fieldsAt] at h; subst h; rfl
    | cons j l ih =>
      intro offs h
      unfold fieldsAt at h
      split at h
      · rename_i f r h1 h2
        injection h with h; subst h
        simp [h1]
        simpa using ih r h2
      · cases h
  have hp := hplace _ _ hf
  obtain ⟨us', hfill, hV'⟩ := fill_sound (place := fun j => (fs.map fun f => (f.offset, P.cellsOf f.type))[j]?) (parts.toList.map fun p => (p.1, ρ p.2)) offs xs z.cells cs zv.cells
    (by rw [← hp]; simp [Function.comp_def]) (by simpa [Function.comp_def] using hx) hVc h
  have hpl : (fs.mapM (m := Sem) fun f => do pure (f.offset, ← sizeOf f.type)).run P w = .ok (fs.map fun f => (f.offset, P.cellsOf f.type)) w := by
    have := run_places (P := P) w fs.toList (fun f hf => by simp at hall; obtain ⟨j, hj, rfl⟩ := Array.mem_iff_getElem.1 (Array.mem_toList_iff.1 hf); exact hall j hj)
    have e : (fs.mapM (m := Sem) fun f => do pure (f.offset, ← sizeOf f.type)) = (do pure (← fs.toList.mapM (m := Sem) fun f => do pure (f.offset, ← sizeOf f.type)).toArray) := by
      simp [Array.mapM_eq_mapM_toList]
    rw [e, Sem.run_bind, this]
    simp only [Result.andThen_ok, Sem.run_pure]
    congr 1
    apply Array.ext'
    simp
  have : (execOp ρ o).run P w = .ok (.value (.agg us')) w := by
    simp only [execOp, ho, Instr.build, Sem.run_bind, run_zeroValue hi hzv, Result.andThen_ok, run_underlying hu, hpl, Sem.run_pure]
    simp only [Array.toList_map, hfill, Sem.run_pure, Result.andThen_ok]
  rw [this]
  exact .pure hrel (by rw [VR]; exact ⟨_, rfl, hV'⟩)
theorem CR_append {b : Nat} : ∀ {xs ys : List AV} {o : Nat}, CR σ K w b o (xs ++ ys) ↔ CR σ K w b o xs ∧ CR σ K w b (o + xs.length) ys
  | [], ys, o => by simp [CR]
  | x :: xs, ys, o => by
    rw [List.cons_append, CR, CR, CR_append (xs := xs), and_assoc, List.length_cons, show o + 1 + xs.length = o + (xs.length + 1) by omega]
theorem LR_flat {b sz : Nat} : ∀ {els : List (List AV)} {o : Nat}, LR σ K w b o sz els ↔ (∀ c ∈ els, c.length = sz) ∧ CR σ K w b o els.flatten
  | [], o => by simp [LR, CR]
  | c :: els, o => by
    rw [LR, LR_flat (els := els), List.flatten_cons, CR_append]
    constructor
    · rintro ⟨h1, h2, h3, h4⟩; exact ⟨by simpa using ⟨h1, h3⟩, h2, by rwa [h1]⟩
    · rintro ⟨h1, h2, h3⟩
      have h1' := h1 c (by simp)
      exact ⟨h1', h2, fun d hd => h1 d (by simp [hd]), by rwa [h1'] at h3⟩
theorem flatten_length {sz : Nat} : ∀ {els : List (List AV)}, (∀ c ∈ els, c.length = sz) → els.flatten.length = els.length * sz
  | [], _ => by simp
  | c :: els, h => by
    have ih := flatten_length (els := els) (fun d hd => h d (List.mem_cons_of_mem _ hd))
    have h0 := h c List.mem_cons_self
    simp only [List.flatten_cons, List.length_append, ih, h0, List.length_cons, Nat.add_mul]; omega
theorem elsOf_sound (hrel : Rel β K σ m w) {sz : Nat} {x : AV} {u : Value} {els : List (List AV)} (hx : VR σ K w x u) (h : elsOf m sz x = some els) :
    (∀ c ∈ els, c.length = sz) ∧ ∃ ad cap, u = .slice ad els.length cap ∧ (els = [] ∨ ∃ b o, ad = some ⟨b, o, none⟩ ∧ CR σ K w b o els.flatten) := by
  cases x <;> simp only [elsOf, reduceCtorEq, Option.some.injEq] at h
  case nilS => subst h; rw [VR] at hx; exact ⟨by simp, _, _, hx, .inl rfl⟩
  case list p sz' els' =>
    split at h
    · rename_i hsz; subst hsz
      injection h with h; subst h
      rw [VR] at hx
      obtain ⟨ad, cap, b, o, he, _, hk, hl⟩ := hx
      obtain ⟨h1, h2⟩ := LR_flat.1 hl
      refine ⟨h1, ad, cap, he, ?_⟩
      rcases hk with rfl | ⟨hk, _⟩
      · exact .inl rfl
      · exact .inr ⟨b, o, hk, h2⟩
    · cases h
  case row pos gen sz' off n =>
    split at h
    · rename_i hsz; subst hsz
      split at h
      · rename_i e sz'' els' hobj
        split at h
        · rename_i hc
          obtain ⟨hsz, hle⟩ := hc
          subst hsz
          injection h with h; subst h
          have hlen : ((els'.drop off).take n).length = n := by simp; omega
          rw [VR] at hx
          rcases hx with ⟨b, c, hg, _, he⟩ | ⟨hg, hn, _, he⟩ | ⟨hn, _, _, ad, c, he⟩
          · obtain ⟨cur, _, _, _, _, _, hl⟩ := hrel.obj_row hobj hg
            have hp := LR_part hl off n
            rw [Nat.zero_add] at hp
            obtain ⟨h1, h2⟩ := LR_flat.1 hp
            exact ⟨h1, _, _, by rw [hlen]; exact he, .inr ⟨b, _, rfl, h2⟩⟩
          · subst hn
            exact ⟨by simp, _, _, by simpa using he, .inl (by simp)⟩
          · subst hn
            exact ⟨by simp, _, _, by simpa using he, .inl (by simp)⟩
        · cases h
      · cases h
    · cases h
theorem src_cells (hrel : Rel β K σ m w) {sz : Nat} {x : AV} {u : Value} {els : List (List AV)} (hx : VR σ K w x u) (h : elsOf m sz x = some els) :
    (∀ c ∈ els, c.length = sz) ∧ ∃ ad cap us, u = .slice ad els.length cap ∧ us.length = els.length * sz ∧ VRs σ K w els.flatten us ∧ (∀ y ∈ us, y.oneCell' = true) ∧
      (els = [] ∨ ∃ a, ad = some a ∧ ∀ (j : Nat) (y : Value), us[j]? = some y → w.cell? (a.add j) = some y) := by
  obtain ⟨h1, ad, cap, he, hc⟩ := elsOf_sound hrel hx h
  refine ⟨h1, ad, cap, ?_⟩
  rcases hc with rfl | ⟨b, o, ha, hc⟩
  · exact ⟨[], he, by simp, rfl, by simp, .inl rfl⟩
  · obtain ⟨us, h2, h3, h4⟩ := CR_cells hc
    exact ⟨us, he, by rw [VRs_length h2, flatten_length h1], h2, h3, .inr ⟨_, ha, fun j y hj => by rw [Addr.add_lit]; exact h4 j y hj⟩⟩
theorem new_row (hrel : Rel β K σ m w) {w' : World} {e sz cap : Nat} {els : List (List AV)} {us : List Value} {cur : Array Value} {u : Value} (hw : w' = w.alloc (.cells cur e) ∨ w' = w.drew.alloc (.cells cur e))
    (hu : u = .slice (some ⟨w.heap.size, 0, none⟩) els.length cap) (hlens : ∀ c ∈ els, c.length = sz) (hcs : cur.size = cap * sz) (hcap : els.length ≤ cap) (hmax : cap ≤ maxLen) (hpos : 0 < sz)
    (hv : VRs σ K w els.flatten us) (h1 : ∀ y ∈ us, y.oneCell' = true) (hcur : ∀ (j : Nat) (y : Value), us[j]? = some y → cur[j]? = some y) :
    Done β K σ w (m.new (.row e sz els)) (.row m.store.length m.next sz 0 els.length) (.ok (.value u) w') := by
  have hheap : w'.heap = (w.alloc (.cells cur e)).heap := by rcases hw with rfl | rfl <;> rfl
  have hb : w'.heap[w.heap.size]? = some (.cells cur e) := by rw [hheap]; exact heap_alloc_new w _
  have hg : w.grownBy w' none := by
    rcases hw with rfl | rfl
    · exact grownBy_alloc' w _
    · exact ⟨rfl, rfl, rfl, by simp, fun k hk _ => heap_alloc_old w _ hk⟩
  have hsame : ∀ p b, K p b → w'.heap[b]? = w.heap[b]? := fun p b hb => hg.block b (hrel.kept p b hb).2 (by simp)
  have hpre : σ <+: σ ++ [(some w.heap.size, cap)] := List.prefix_append _ _
  have hv' := VRs.mono (σ' := σ ++ [(some w.heap.size, cap)]) hpre (fun _ _ h => h) hsame _ _ hv
  refine ⟨_, σ ++ [(some w.heap.size, cap)], _, _, rfl, .inl rfl, hpre, ?_, ?_, hsame⟩
  · rw [VR]; left; exact ⟨w.heap.size, cap, by rw [← hrel.next]; simp, by omega, by rw [hu]; simp⟩
  · refine hrel.new hg (fun b c e => ?_) ?_
    · injection e with e1 e2; injection e1 with e1; subst e1
      exact ⟨Nat.le_refl _, (Array.getElem?_eq_some_iff.1 hb).1⟩
    · exact ⟨cur, hb, hcs, hcap, hmax, hpos, LR_flat.2 ⟨hlens, CR_of_VRs hb hv' h1 (fun j y hj => by rw [Nat.zero_add]; exact hcur j y hj)⟩⟩
theorem new_nil_row (hrel : Rel β K σ m w) {e sz : Nat} (hpos : 0 < sz) : Done β K σ w (m.new (.row e sz [])) (.row m.store.length m.next sz 0 0) (.ok (.value (.slice none 0 0)) w) := by
  have hg : w.grownBy w none := ⟨rfl, rfl, rfl, Nat.le_refl _, fun _ _ _ => rfl⟩
  refine ⟨_, σ ++ [(none, 0)], _, _, rfl, .inl rfl, List.prefix_append _ _, ?_, ?_, fun _ _ _ => rfl⟩
  · rw [VR]; right; left; exact ⟨by rw [← hrel.next]; simp, rfl, rfl, rfl⟩
  · exact hrel.new hg (fun b c e => by cases e) ⟨rfl, rfl, hpos⟩
theorem toArray_get {α : Type} (l : List α) (r : Array α) (j : Nat) (y : α) (h : l[j]? = some y) : (l.toArray ++ r)[j]? = some y := by
  have hj := (List.getElem?_eq_some_iff.1 h).1
  rw [Array.getElem?_append_left (by simpa using hj)]
  simpa using h
theorem run_append {ty : TypeId} {ts : Array TypeId} {o : Oper} {a d : Operand} {r : Value} (ho : o.op = .call ⟨.builtin .append, #[a, d], ts⟩) (hty : o.type = ty) (h : (Builtin.append_ ts ty #[ρ a, ρ d]).run P w = .ok r w') :
    (execOp ρ o).run P w = .ok (.value r) w' := by
  subst hty
  simp [execOp, ho, resolve, invoke, builtin, h]
theorem run_append_empty {t ty e : TypeId} {i : TypeInfo} (ht : P.underlying t = some (.slice e)) (hi : P.info? e = some i) (s : Option Addr) (n c c' : Nat) (x : Option Addr) (hn : n ≤ c) :
    (Builtin.append_ #[t, t] ty #[.slice s n c, .slice x 0 c']).run P w = .ok (.slice s n c) w := by
  cases s <;> cases x <;> simp [Builtin.append_, run_underlying ht, sizeOf, typeInfo, hi, Builtin.lenOf, hn, Builtin.firstCells, loadCells, loadCellsFrom, storeCells]
structure AppRun (P : Program) (t tx e : TypeId) (i : TypeInfo) (zv : Value) (d : Value) (n : Nat) (us : List Value) (w : World) : Prop where
  empty : n = 0 → ∀ (ty : TypeId) (s : Option Addr) (k c : Nat), k ≤ c → (Builtin.append_ #[t, tx] ty #[.slice s k c, d]).run P w = .ok (.slice s k c) w
  nil : 0 < n → (n : Int) ≤ 9223372036854775807 → n * i.bytes ≤ 281474976710656 → ∀ ty : TypeId, (Builtin.append_ #[t, tx] ty #[.slice none 0 0, d]).run P w =
      .ok (.slice (some ⟨w.heap.size, 0, none⟩) n (grownCap w n 0 e)) (w.drew.alloc (.cells (us.toArray ++ Builtin.zeroCells zv.cells (grownCap w n 0 e - n)) e))
  grow : ∀ (ty : TypeId) (b : Addr) (sLen sCap : Nat) (olds : List Value), olds.length = sLen * i.size → (∀ j v, olds[j]? = some v → w.cell? (b.add j) = some v) → sCap < sLen + n → ((sLen + n : Nat) : Int) ≤ 9223372036854775807 → Builtin.nextslicecap (sLen + n) sCap * i.bytes ≤ 281474976710656 →
      (Builtin.append_ #[t, tx] ty #[.slice (some b) sLen sCap, d]).run P w = .ok (.slice (some ⟨w.heap.size, 0, none⟩) (sLen + n) (grownCap w (sLen + n) sCap e))
        (w.drew.alloc (.cells (olds.toArray ++ us.toArray ++ Builtin.zeroCells zv.cells (grownCap w (sLen + n) sCap e - (sLen + n))) e))
  room : ∀ (ty : TypeId) (g sLen sCap : Nat) (cur : Array Value), w.heap[g]? = some (.cells cur e (0, 0)) → 0 < n → sLen + n ≤ sCap → sLen * i.size + us.length ≤ cur.size →
      (Builtin.append_ #[t, tx] ty #[.slice (some ⟨g, 0, none⟩) sLen sCap, d]).run P w =
      .ok (.slice (some ⟨g, 0, none⟩) (sLen + n) sCap) (w.setRow g (cur.toList.take (sLen * i.size) ++ us ++ cur.toList.drop (sLen * i.size + us.length)).toArray)
theorem appRun_slice {t e : TypeId} {i : TypeInfo} {zv : Value} {n capx : Nat} {us : List Value} {ad : Option Addr} (ht : P.underlying t = some (.slice e)) (hi : P.info? e = some i) (hzv : i.zero = some zv)
    (husl : us.length = n * i.size) (hones : ∀ y ∈ us, y.oneCell' = true) (hcells : n = 0 ∨ ∃ a, ad = some a ∧ ∀ (j : Nat) (y : Value), us[j]? = some y → w.cell? (a.add j) = some y) : AppRun P t t e i zv (.slice ad n capx) n us w := by
  refine ⟨?_, ?_, ?_, ?_⟩
  · rintro rfl ty s k c hk; exact run_append_empty ht hi s k c capx ad hk
  · intro hn h1 h2 ty
    rcases hcells with h | ⟨a, rfl, hcells⟩
    · omega
    · exact run_append_nil (P := P) w t ty e i zv ht hi hzv a n capx us husl hcells hn h1 h2
  · intro ty b sLen sCap olds h1 h2 h3 h4 h5
    rcases hcells with h | ⟨a, rfl, hcells⟩
    · subst h
      have hus : us = [] := List.eq_nil_of_length_eq_zero (by rw [husl]; simp)
      subst hus
      have hn : ¬ (sLen + 0 ≤ sCap) := by omega
      have h63' : ¬ (9223372036854775807 < ((sLen : Int) + ((0 : Nat) : Int))) := by omega
      have h48' : ¬ (281474976710656 < Builtin.nextslicecap (sLen + 0) sCap * i.bytes) := by omega
      have hfo := run_firstCells_some (P := P) w.drew i.size sLen b sLen sCap olds h1 (by simpa using h2)
      have hf : ∀ w' : World, (Builtin.firstCells i.size 0 (.slice ad 0 capx)).run P w' = .ok #[] w' := fun w' => by cases ad <;> simp [Builtin.firstCells, loadCells, loadCellsFrom]
      simp at hn h63' h48'
      have hn' : ¬ (sLen ≤ sCap) := by omega
      have h63'' : ¬ (9223372036854775807 < (sLen : Int)) := by omega
      have h48'' : ¬ (281474976710656 < Builtin.nextslicecap sLen sCap * i.bytes) := by omega
      simp [Builtin.append_, run_underlying ht, sizeOf, typeInfo, zeroValue, hi, hzv, Builtin.lenOf, hn', h63'', h48'', Question.forced, hf, hfo, newRow, grownCap]
    · exact run_append_grow (P := P) w t ty e i zv ht hi hzv b sLen sCap olds h1 h2 a n capx us husl hcells h3 h4 h5
  · intro ty g sLen sCap cur h1 hn h2 h3
    rcases hcells with h | ⟨a, rfl, hcells⟩
    · omega
    · exact run_append_room (P := P) w t ty e i ht hi g sLen sCap cur h1 a n capx us husl hcells hones h2 h3
theorem appRun_string {t tx e : TypeId} {i : TypeInfo} {zv : Value} {s : ByteArray} (ht : P.underlying t = some (.slice e)) (hx : P.underlying tx = some .string) (hi : P.info? e = some i) (hzv : i.zero = some zv) (hs1 : i.size = 1) :
    AppRun P t tx e i zv (.string s) s.size (Lib.strCells s) w := by
  have hl := Lib.strCells_length s
  refine ⟨?_, ?_, ?_, ?_⟩
  · intro h ty a k c hk
    have hs : s = ⟨#[]⟩ := by
      cases s with
      | mk d => have : d.size = 0 := h; rw [Array.size_eq_zero_iff] at this; rw [this]
    subst hs
    have hz : ByteArray.size ⟨#[]⟩ = 0 := rfl
    cases a <;> simp [Builtin.append_, run_underlying ht, run_underlying hx, sizeOf, typeInfo, hi, Builtin.lenOf, hz, hk, Builtin.firstCells, loadCells, storeCells]
  · intro hn h1 h2 ty
    have := run_append_nil_string (P := P) w t tx ty e i zv ht hx hi hzv s hn h1 h2
    have he : s.data.map (fun b => Value.int .u8 b.toNat) = (Lib.strCells s).toArray := by
      apply Array.ext'
      simp [Lib.strCells]
    rw [this, he]
  · intro ty b sLen sCap olds h1 h2 h3 h4 h5
    exact Lib.run_append_grow_string (P := P) w t tx ty e i zv ht hx hi hzv b sLen sCap olds h1 h2 s h3 h4 h5
  · intro ty g sLen sCap cur h1 hn h2 h3
    have h3' : sLen + s.size ≤ cur.size := by rw [hs1, hl] at h3; omega
    have := Lib.run_append_room_string (P := P) w t tx ty e i ht hx hi hs1 g sLen sCap cur h1 s h2 h3'
    rw [this, hs1, hl, Nat.mul_one]
theorem append_core (hrel : Rel β K σ m w) {t tx e : TypeId} {i : TypeInfo} {zv : Value} {new : List (List AV)} {us : List Value} {x : AV} {o : Oper} {a d : Operand} (ho : o.op = .call ⟨.builtin .append, #[a, d], #[t, tx]⟩)
    (hzs : zv.cells.size = i.size) (hpos : 0 < i.size) (hx : VR σ K w x (ρ a)) (hlens : ∀ c ∈ new, c.length = i.size) (husl : us.length = new.length * i.size) (hVus : VRs σ K w new.flatten us) (hones : ∀ y ∈ us, y.oneCell' = true)
    (hap : AppRun P t tx e i zv (ρ d) new.length us w) (h : appendN e i.size i.bytes m x new = some (v, m')) :
    Done β K σ w m' v ((execOp ρ o).run P w) := by
  unfold appendN at h
  have hempty : new = [] → us = [] := fun e => List.eq_nil_of_length_eq_zero (by rw [husl, e]; simp)
  cases x <;> simp only [reduceCtorEq] at h
  case nilS =>
    split at h
    · rename_i hb
      obtain ⟨hb1, hb2⟩ := hb
      injection h with h; injection h with h1 h2; subst h1; subst h2
      rw [VR] at hx
      by_cases hn : new = []
      · subst hn
        rw [run_append ho rfl (r := .slice none 0 0) (w' := w) (by rw [hx]; exact hap.empty rfl _ none 0 0 (Nat.le_refl _))]
        exact new_nil_row hrel hpos
      · · have hn0 : 0 < new.length := List.length_pos_iff.2 hn
          have hr := hap.nil hn0 (by omega) (by omega) o.type
          rw [run_append ho rfl (by rw [hx]; exact hr)]
          have hge := grownCap_ge w new.length 0 e
          have hmax := grownCap_le_maxLen w new.length 0 e (by unfold maxLen; omega)
          refine new_row hrel (.inr rfl) rfl hlens ?_ hge hmax hpos hVus hones (fun j y hj => toArray_get _ _ _ _ hj)
          simp only [Array.size_append, List.size_toArray, size_zeroCells, hzs, husl, ← Nat.add_mul]
          congr 1; omega
    · cases h
  case row pos gen sz' off len =>
    split at h
    · rename_i e' sz'' els hobj
      split at h
      · rename_i hc
        obtain ⟨rfl, rfl, rfl, rfl, rfl, hb1, hb2⟩ := hc
        injection h with h; injection h with h1 h2; subst h1; subst h2
        rw [VR] at hx
        have hlensE : ∀ c ∈ els, c.length = i.size := by
          obtain ⟨s, hs, hor⟩ := hrel.objs pos gen _ (Mem.obj_some hobj)
          obtain ⟨b, c⟩ := s
          cases b with
          | none => have := hor.1; subst this; simp
          | some b => obtain ⟨_, _, _, _, _, _, hl⟩ := hor; exact (LR_flat.1 hl).1
        have hlensEN : ∀ c ∈ els ++ new, c.length = i.size := by
          intro c hc; rcases List.mem_append.1 hc with hc | hc
          · exact hlensE c hc
          · exact hlens c hc
        rcases hx with ⟨b, c, hg, hle, he⟩ | ⟨hg, hn0, _, he⟩ | ⟨_, h0, _⟩
        · -- a row with a block
          obtain ⟨cur, hheap, hcs, hcap, hmax, _, hl⟩ := hrel.obj_row hobj hg
          obtain ⟨_, hcr⟩ := LR_flat.1 hl
          obtain ⟨olds, hVo, honeo, hco⟩ := CR_cells hcr
          have hol : olds.length = els.length * i.size := by rw [VRs_length hVo, flatten_length hlensE]
          rw [Nat.zero_mul, Nat.sub_zero] at he
          have hVall : VRs σ K w (els ++ new).flatten (olds ++ us) := by rw [List.flatten_append]; exact VRs_append hVo hVus
          have honeall : ∀ y ∈ olds ++ us, y.oneCell' = true := by
            intro y hy; rcases List.mem_append.1 hy with hy | hy
            · exact honeo y hy
            · exact hones y hy
          have hlenall : (els ++ new).length = els.length + new.length := List.length_append
          by_cases hn : new = []
          · -- nothing new
            subst hn
            rw [run_append ho rfl (r := .slice (some ⟨b, 0, none⟩) els.length c) (w' := w) (by rw [he]; exact hap.empty rfl _ _ _ _ hcap)]
            have hgr : w.grownBy w (some b) := ⟨rfl, rfl, rfl, Nat.le_refl _, fun _ _ _ => rfl⟩
            have hpre : σ <+: σ ++ [(some b, c)] := List.prefix_append _ _
            refine ⟨_, σ ++ [(some b, c)], _, _, rfl, .inl rfl, hpre, ?_, ?_, fun _ _ _ => rfl⟩
            · rw [VR]; left; exact ⟨b, c, by rw [← hrel.next]; simp, by simpa using hcap, by simp⟩
            · refine hrel.turn (Mem.obj_some hobj) hg hgr (fun b' c' e => ?_) ?_
              · injection e with e1 e2; exact .inl ⟨c, by rw [e1]⟩
              · refine ⟨cur, hheap, hcs, by simpa using hcap, hmax, hpos, ?_⟩
                rw [List.append_nil]
                exact LR.mono hpre (fun _ _ h => h) (fun _ _ _ => rfl) b rfl _ _ _ hl
          · by_cases hroom : els.length + new.length ≤ c
            · -- in place
              have hfit : els.length * i.size + us.length ≤ cur.size := by rw [husl, hcs, ← Nat.add_mul]; exact Nat.mul_le_mul_right _ hroom
              have hr := hap.room o.type b els.length c cur hheap (List.length_pos_iff.2 hn) hroom hfit
              rw [run_append ho rfl (by rw [he]; exact hr)]
              have hgr := setRow_grown w b (cur.toList.take (els.length * i.size) ++ us ++ cur.toList.drop (els.length * i.size + us.length)).toArray
              have hK := hrel.kept_same hgr (hrel.not_kept hobj hg)
              have hpre : σ <+: σ ++ [(some b, c)] := List.prefix_append _ _
              have hb' := setRow_heap w b cur (cur.toList.take (els.length * i.size) ++ us ++ cur.toList.drop (els.length * i.size + us.length)).toArray e' _ hheap
              refine ⟨_, σ ++ [(some b, c)], _, _, rfl, .inl rfl, hpre, ?_, ?_, hK⟩
              · rw [VR]; left; exact ⟨b, c, by rw [← hrel.next]; simp, by omega, by simp⟩
              · refine hrel.turn (Mem.obj_some hobj) hg hgr (fun b' c' e => ?_) ?_
                · injection e with e1 e2; exact .inl ⟨c, by rw [e1]⟩
                · refine ⟨_, hb', ?_, by rw [hlenall]; exact hroom, hmax, hpos, LR_flat.2 ⟨hlensEN, ?_⟩⟩
                  · rw [← hcs]
                    simp only [List.size_toArray, List.length_append, List.length_take, List.length_drop, Array.length_toList]
                    omega
                  · have hst := setRow_stored (w := w) (o := els.length * i.size) hheap hfit
                    rw [List.flatten_append, CR_append]
                    constructor
                    · have := CR_apart (o' := 0) hst hK hcr (.inl (by rw [flatten_length hlensE]; omega))
                      exact CR.mono hpre (fun _ _ h => h) (fun _ _ _ => rfl) b rfl _ _ this
                    · have hv' := VRs.mono (σ' := σ ++ [(some b, c)]) hpre (fun _ _ h => h) hK _ _ hVus
                      refine CR_of_VRs hb' hv' hones (fun j y hj => ?_)
                      have hjl := (List.getElem?_eq_some_iff.1 hj).1
                      have := over_get cur.toList us (els.length * i.size) (0 + els.flatten.length + j) (by simpa using hfit)
                      rw [flatten_length hlensE] at this ⊢
                      rw [if_pos ⟨by omega, by omega⟩, show 0 + els.length * i.size + j - els.length * i.size = j by omega] at this
                      simpa using this.trans hj
            · -- a new block
              have hcells' : ∀ (j : Nat) (y : Value), olds[j]? = some y → w.cell? ((⟨b, 0, none⟩ : Addr).add j) = some y := fun j y hj => by rw [Addr.add_lit]; exact hco j y hj
              have hr := hap.grow o.type ⟨b, 0, none⟩ els.length c olds hol hcells' (by omega) (by omega) (growslice_fits (by omega) hb1)
              rw [run_append ho rfl (by rw [he]; exact hr)]
              have hge := grownCap_ge w (els.length + new.length) c e'
              have hmax' := grownCap_le_maxLen w (els.length + new.length) c e' (by unfold maxLen; omega)
              obtain ⟨cur', hcur'⟩ : ∃ cur', cur' = olds.toArray ++ us.toArray ++ Builtin.zeroCells zv.cells (grownCap w (els.length + new.length) c e' - (els.length + new.length)) := ⟨_, rfl⟩
              rw [← hcur']
              have hgr : w.grownBy (w.drew.alloc (.cells cur' e')) none := ⟨rfl, rfl, rfl, by simp, fun k hk _ => heap_alloc_old w _ hk⟩
              have hK : ∀ p b, K p b → (w.drew.alloc (.cells cur' e')).heap[b]? = w.heap[b]? := fun p b hb => hgr.block b (hrel.kept p b hb).2 (by simp)
              have hpre : σ <+: σ ++ [(some w.heap.size, grownCap w (els.length + new.length) c e')] := List.prefix_append _ _
              have hb' : (w.drew.alloc (.cells cur' e')).heap[w.heap.size]? = some (.cells cur' e') := heap_alloc_new w.drew _
              refine ⟨_, σ ++ [(some w.heap.size, grownCap w (els.length + new.length) c e')], _, _, rfl, .inl rfl, hpre, ?_, ?_, hK⟩
              · rw [VR]; left; exact ⟨w.heap.size, grownCap w (els.length + new.length) c e', by rw [← hrel.next]; simp, by omega, by simp⟩
              · refine hrel.turn (Mem.obj_some hobj) hg (grownBy.weaken hgr) (fun b' c' e => ?_) ?_
                · injection e with e1 e2; injection e1 with e1; subst e1; exact .inr ⟨Nat.le_refl _, by simp⟩
                · refine ⟨cur', hb', ?_, by rw [hlenall]; exact hge, hmax', hpos, LR_flat.2 ⟨hlensEN, ?_⟩⟩
                  · rw [hcur']
                    simp only [Array.size_append, List.size_toArray, size_zeroCells, hzs, husl, hol, ← Nat.add_mul]
                    congr 1; omega
                  · refine CR_of_VRs hb' (VRs.mono hpre (fun _ _ h => h) hK _ _ hVall) honeall (fun j y hj => ?_)
                    rw [Nat.zero_add, hcur']
                    have : olds.toArray ++ us.toArray = (olds ++ us).toArray := by simp
                    rw [this]
                    exact toArray_get _ _ _ _ hj
        · -- a nil row
          obtain ⟨hnil, _, _⟩ := hrel.obj_nil hobj hg
          subst hnil
          by_cases hn : new = []
          · subst hn
            rw [run_append ho rfl (r := .slice none 0 0) (w' := w) (by rw [he]; exact hap.empty rfl _ none 0 0 (Nat.le_refl _))]
            have hgr : w.grownBy w none := ⟨rfl, rfl, rfl, Nat.le_refl _, fun _ _ _ => rfl⟩
            have hpre : σ <+: σ ++ [(none, 0)] := List.prefix_append _ _
            refine ⟨_, σ ++ [(none, 0)], _, _, rfl, .inl rfl, hpre, ?_, ?_, fun _ _ _ => rfl⟩
            · rw [VR]; right; left; exact ⟨by rw [← hrel.next]; simp, by simp, rfl, rfl⟩
            · exact hrel.turn (Mem.obj_some hobj) hg hgr (fun b' c' e => by cases e) ⟨by simp, rfl, hpos⟩
          · · have hn0 : 0 < new.length := List.length_pos_iff.2 hn
              simp only [List.length_nil, Nat.zero_add, List.nil_append] at hb1 hb2 ⊢
              have hr := hap.nil hn0 (by omega) (by omega) o.type
              rw [run_append ho rfl (by rw [he]; exact hr)]
              have hge := grownCap_ge w new.length 0 e'
              have hmax := grownCap_le_maxLen w new.length 0 e' (by unfold maxLen; omega)
              obtain ⟨cur', hcur'⟩ : ∃ cur', cur' = us.toArray ++ Builtin.zeroCells zv.cells (grownCap w new.length 0 e' - new.length) := ⟨_, rfl⟩
              rw [← hcur']
              have hgr : w.grownBy (w.drew.alloc (.cells cur' e')) none := ⟨rfl, rfl, rfl, by simp, fun k hk _ => heap_alloc_old w _ hk⟩
              have hK : ∀ p b, K p b → (w.drew.alloc (.cells cur' e')).heap[b]? = w.heap[b]? := fun p b hb => hgr.block b (hrel.kept p b hb).2 (by simp)
              have hpre : σ <+: σ ++ [(some w.heap.size, grownCap w new.length 0 e')] := List.prefix_append _ _
              have hb' : (w.drew.alloc (.cells cur' e')).heap[w.heap.size]? = some (.cells cur' e') := heap_alloc_new w.drew _
              refine ⟨_, σ ++ [(some w.heap.size, grownCap w new.length 0 e')], _, _, rfl, .inl rfl, hpre, ?_, ?_, hK⟩
              · rw [VR]; left; exact ⟨w.heap.size, grownCap w new.length 0 e', by rw [← hrel.next]; simp, by omega, by simp⟩
              · refine hrel.turn (Mem.obj_some hobj) hg hgr (fun b' c' e => ?_) ?_
                · injection e with e1 e2; injection e1 with e1; subst e1; exact .inr ⟨Nat.le_refl _, by simp⟩
                · refine ⟨cur', hb', ?_, hge, hmax, hpos, LR_flat.2 ⟨hlens, ?_⟩⟩
                  · rw [hcur']
                    simp only [Array.size_append, List.size_toArray, size_zeroCells, hzs, husl, ← Nat.add_mul]
                    congr 1; omega
                  · refine CR_of_VRs hb' (VRs.mono hpre (fun _ _ h => h) hK _ _ hVus) hones (fun j y hj => ?_)
                    rw [Nat.zero_add, hcur']
                    exact toArray_get _ _ _ _ hj
        · omega
      · split at h
        · rename_i hc
          obtain ⟨rfl, rfl, rfl, rfl, hroom⟩ := hc
          injection h with h; injection h with h1 h2; subst h1; subst h2
          rw [VR] at hx
          rcases hx with ⟨b, c, hg, hle, he⟩ | ⟨hg, hn0, _, he⟩ | ⟨_, h0, _⟩
          · obtain ⟨cur, hheap, hcs, hcap, hmax, _, hl⟩ := hrel.obj_row hobj hg
            obtain ⟨hlensE, hcr⟩ := LR_flat.1 hl
            rw [Nat.zero_mul, Nat.sub_zero] at he
            have hlensEN : ∀ x ∈ els.take len ++ new ++ els.drop (len + new.length), x.length = i.size := by
              intro x hx
              simp only [List.mem_append] at hx
              rcases hx with (hx | hx) | hx
              · exact hlensE x (List.mem_of_mem_take hx)
              · exact hlens x hx
              · exact hlensE x (List.mem_of_mem_drop hx)
            by_cases hn : new = []
            · subst hn
              rw [run_append ho rfl (r := .slice (some ⟨b, 0, none⟩) len c) (w' := w) (by rw [he]; exact hap.empty rfl _ _ _ _ (by omega))]
              have hgr : w.grownBy w (some b) := ⟨rfl, rfl, rfl, Nat.le_refl _, fun _ _ _ => rfl⟩
              refine ⟨_, σ, _, _, rfl, .inl rfl, List.prefix_refl _, ?_, ?_, fun _ _ _ => rfl⟩
              · rw [VR]; left; exact ⟨b, c, hg, by simp only [List.length_nil]; omega, by simp⟩
              · refine hrel.put (Mem.obj_some hobj) hg hgr ⟨cur, hheap, hcs, ?_, hmax, hpos, ?_⟩
                · simp only [List.length_nil, List.append_nil, Nat.add_zero, List.take_append_drop]; exact hcap
                · simp only [List.length_nil, List.append_nil, Nat.add_zero, List.take_append_drop]; exact hl
            · have hroom' : len + new.length ≤ c := by omega
              have hfit : len * i.size + us.length ≤ cur.size := by rw [husl, hcs, ← Nat.add_mul]; exact Nat.mul_le_mul_right _ hroom'
              have hr := hap.room o.type b len c cur hheap (List.length_pos_iff.2 hn) hroom' hfit
              rw [run_append ho rfl (by rw [he]; exact hr)]
              have hgr := setRow_grown w b (cur.toList.take (len * i.size) ++ us ++ cur.toList.drop (len * i.size + us.length)).toArray
              have hK := hrel.kept_same hgr (hrel.not_kept hobj hg)
              have hb' := setRow_heap w b cur (cur.toList.take (len * i.size) ++ us ++ cur.toList.drop (len * i.size + us.length)).toArray e' _ hheap
              refine ⟨_, σ, _, _, rfl, .inl rfl, List.prefix_refl _, ?_, ?_, hK⟩
              · rw [VR]; left; exact ⟨b, c, hg, by omega, by simp⟩
              · refine hrel.put (Mem.obj_some hobj) hg hgr ⟨_, hb', ?_, ?_, hmax, hpos, LR_flat.2 ⟨hlensEN, ?_⟩⟩
                · rw [← hcs]
                  simp only [List.size_toArray, List.length_append, List.length_take, List.length_drop, Array.length_toList]
                  omega
                · simp only [List.length_append, List.length_take, List.length_drop]; omega
                · have hst := setRow_stored (w := w) (o := len * i.size) hheap hfit
                  have hfe : ∀ l : List (List AV), (∀ x ∈ l, x.length = i.size) → l.flatten.length = l.length * i.size := fun l hl => flatten_length hl
                  have hsplit : els.flatten = (els.take len).flatten ++ ((els.drop len).take new.length).flatten ++ (els.drop (len + new.length)).flatten := by
                    rw [← List.flatten_append, ← List.flatten_append]
                    congr 1
                    rw [List.append_assoc, ← List.drop_drop, List.take_append_drop, List.take_append_drop]
                  have h2 : (els.take len).flatten.length = len * i.size := by
                    rw [hfe _ fun x hx => hlensE x (List.mem_of_mem_take hx), List.length_take, Nat.min_eq_left (by omega)]
                  have h3 : (((els.drop len).take new.length).flatten).length = new.length * i.size := by
                    rw [hfe _ fun x hx => hlensE x (List.mem_of_mem_drop (List.mem_of_mem_take hx)), List.length_take, List.length_drop, Nat.min_eq_left (by omega)]
                  have h4 : new.flatten.length = new.length * i.size := hfe _ hlens
                  have hov : (els.take len ++ new ++ els.drop (len + new.length)).flatten = over els.flatten (len * i.size) new.flatten := by
                    have e1 : ∀ A B C : List AV, A.length = len * i.size → List.take (len * i.size) (A ++ B ++ C) = A := fun A B C h => by
                      rw [List.append_assoc]; exact List.take_left' h
                    have e2 : ∀ A B C : List AV, A.length = len * i.size → B.length = new.length * i.size → List.drop (len * i.size + new.length * i.size) (A ++ B ++ C) = C := fun A B C h h' => by
                      exact List.drop_left' (by rw [List.length_append, h, h'])
                    unfold over
                    rw [h4, hsplit, List.flatten_append, List.flatten_append, e1 _ _ _ h2, e2 _ _ _ h2 h3]
                  rw [hov]
                  refine CR_over (o' := 0) (by rw [Nat.zero_add]; exact hst) hK hcr hVus hones ?_
                  rw [h4, hfe _ hlensE, ← Nat.add_mul]
                  exact Nat.mul_le_mul_right _ hroom
          · obtain ⟨hnil, _, _⟩ := hrel.obj_nil hobj hg
            subst hnil
            have hn : new = [] := List.eq_nil_of_length_eq_zero (by rw [List.length_nil] at hroom; omega)
            subst hn
            subst hn0
            rw [run_append ho rfl (r := .slice none 0 0) (w' := w) (by rw [he]; exact hap.empty rfl _ none 0 0 (Nat.le_refl _))]
            have hgr : w.grownBy w none := ⟨rfl, rfl, rfl, Nat.le_refl _, fun _ _ _ => rfl⟩
            refine ⟨_, σ, _, _, rfl, .inl rfl, List.prefix_refl _, ?_, ?_, fun _ _ _ => rfl⟩
            · rw [VR]; right; left; exact ⟨hg, by simp, rfl, rfl⟩
            · exact hrel.put (Mem.obj_some hobj) hg hgr ⟨by simp, rfl, hpos⟩
          · omega
        · cases h
    · cases h
theorem append_sound (hrel : Rel β K σ m w) {t e : TypeId} {i : TypeInfo} {z : AV} {x y : AV} {o : Oper} {a d : Operand} (ho : o.op = .call ⟨.builtin .append, #[a, d], #[t, t]⟩) (ht : P.underlying t = some (.slice e)) (hi : P.info? e = some i)
    (hz : zeroA P e = some z) (hzl : z.cells.length = i.size) (hz1 : z.cells.all AV.one = true) (hpos : 0 < i.size) (hx : VR σ K w x (ρ a)) (hy : VR σ K w y (ρ d)) (h : appendA e i.size i.bytes m x y = some (v, m')) :
    Done β K σ w m' v ((execOp ρ o).run P w) := by
  obtain ⟨i', zv, hi', hzv, hV⟩ := zeroA_spec hz
  rw [hi] at hi'; injection hi' with hi'; subst hi'
  have hzs : zv.cells.size = i.size := by have := VRs_length ((hV σ K w).cells hz1); simpa [hzl] using this
  unfold appendA at h
  split at h
  · cases h
  rename_i new hnew
  obtain ⟨hlens, ad, capx, us, hyv, husl, hVus, hones, hcells⟩ := src_cells hrel hy hnew
  refine append_core hrel ho hzs hpos hx hlens husl hVus hones ?_ h
  rw [hyv]
  exact appRun_slice ht hi hzv husl hones (hcells.elim (fun h => Or.inl (by rw [h, List.length_nil])) Or.inr)
theorem appendS_sound (hrel : Rel β K σ m w) {t tx e : TypeId} {i : TypeInfo} {z : AV} {x : AV} {s : ByteArray} {o : Oper} {a d : Operand} (ho : o.op = .call ⟨.builtin .append, #[a, d], #[t, tx]⟩) (ht : P.underlying t = some (.slice e)) (htx : P.underlying tx = some .string) (hi : P.info? e = some i)
    (hz : zeroA P e = some z) (hzl : z.cells.length = i.size) (hz1 : z.cells.all AV.one = true) (hs1 : i.size = 1) (hx : VR σ K w x (ρ a)) (hy : VR σ K w (.str s) (ρ d)) (h : appendN e 1 i.bytes m x (bytesOf s) = some (v, m')) :
    Done β K σ w m' v ((execOp ρ o).run P w) := by
  obtain ⟨i', zv, hi', hzv, hV⟩ := zeroA_spec hz
  rw [hi] at hi'; injection hi' with hi'; subst hi'
  have hzs : zv.cells.size = i.size := by have := VRs_length ((hV σ K w).cells hz1); simpa [hzl] using this
  have hlen : (bytesOf s).length = s.size := by simp [bytesOf]
  rw [← hs1] at h
  refine append_core hrel ho hzs (by omega) hx (fun c hc => ?_) ?_ ?_ (Lib.strCells_oneCell s) ?_ h
  · unfold bytesOf at hc
    obtain ⟨b, _, rfl⟩ := List.mem_map.1 hc
    rw [hs1]; rfl
  · rw [Lib.strCells_length, hlen, hs1, Nat.mul_one]
  · unfold bytesOf Lib.strCells
    generalize s.data.toList = l
    induction l with
    | nil => rfl
    | cons b l ih => exact ⟨_, _, rfl, by rw [VR], ih⟩
  · rw [VR] at hy
    rw [hy, hlen]
    exact appRun_string ht htx hi hzv hs1
end
end Go.Pm
