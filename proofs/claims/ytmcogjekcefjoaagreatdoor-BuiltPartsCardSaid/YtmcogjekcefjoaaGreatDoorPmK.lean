/- PmK: every plain operation that is resolved does what is said of it. -/
import Derived.Test.YtmcogjekcefjoaaGreatDoorPmJ
namespace Go.Pm
open Go
section
variable {P : Program} {β : Base} {σ : Sig} {K : Bool → Nat → Prop} {w w' : World} {m m' : Mem} {v : AV} {ρ : Operand → Value}
theorem map1 {xs : List AV} {a : Operand} (h : VRs σ K w xs ([a].map ρ)) : ∃ x, xs = [x] ∧ VR σ K w x (ρ a) := by
  match xs, h with
  | [x], h => obtain ⟨u, he, hV⟩ := VRs1 h; injection he with he; subst he; exact ⟨x, rfl, hV⟩
  | [], h => exact absurd (VRs_length h) (by simp)
  | _ :: _ :: _, h => exact absurd (VRs_length h) (by simp)
theorem map2 {xs : List AV} {a b : Operand} (h : VRs σ K w xs ([a, b].map ρ)) : ∃ x y, xs = [x, y] ∧ VR σ K w x (ρ a) ∧ VR σ K w y (ρ b) := by
  match xs, h with
  | [x, y], h => obtain ⟨u, u', he, hV, hV'⟩ := VRs2 h; injection he with he he'; injection he' with he'; subst he; subst he'; exact ⟨x, y, rfl, hV, hV'⟩
  | [], h => exact absurd (VRs_length h) (by simp)
  | [_], h => exact absurd (VRs_length h) (by simp)
  | _ :: _ :: _ :: _, h => exact absurd (VRs_length h) (by simp)
theorem map3 {xs : List AV} {a b c : Operand} (h : VRs σ K w xs ([a, b, c].map ρ)) : ∃ x y z, xs = [x, y, z] ∧ VR σ K w x (ρ a) ∧ VR σ K w y (ρ b) ∧ VR σ K w z (ρ c) := by
  match xs, h with
  | [x, y, z], h => obtain ⟨u, u', u'', he, hV, hV', hV''⟩ := VRs3 h; injection he with he he'; injection he' with he' he''; injection he'' with he''; subst he; subst he'; subst he''; exact ⟨x, y, z, rfl, hV, hV', hV''⟩
  | [], h => exact absurd (VRs_length h) (by simp)
  | [_], h => exact absurd (VRs_length h) (by simp)
  | [_, _], h => exact absurd (VRs_length h) (by simp)
  | _ :: _ :: _ :: _ :: _, h => exact absurd (VRs_length h) (by simp)
def Says (P : Program) (k : SK) (o : Oper) : Prop :=
  ∀ {β : Base} {σ : Sig} {K : Bool → Nat → Prop} {w : World} {m m' : Mem} {v : AV} {ρ : Operand → Value} {xs : List AV}, Rel β K σ m w → VRs σ K w xs ((Op.args o.op).map ρ) → runK k m xs = some (v, m') → Done β K σ w m' v ((execOp ρ o).run P w)
theorem says_move {o : Oper} {y : Operand} (ho : o.op = .move y ∨ o.op = .assign y) : Says P .mv o := by
  intro β σ K w m m' v ρ xs hrel hx h
  have : Op.args o.op = [y] := by rcases ho with ho | ho <;> rw [ho] <;> rfl
  rw [this] at hx
  obtain ⟨x, rfl, hV⟩ := map1 hx
  replace h := run_local rfl h
  obtain ⟨h, rfl⟩ := h
  simp only [localK, Option.some.injEq] at h
  subst h
  exact mv_sound hrel ho hV
theorem says_pick {o : Oper} {a b c : Operand} (ho : o.op = .pick a b c) : Says P .pick o := by
  intro β σ K w m m' v ρ xs hrel hx h
  rw [show Op.args o.op = [a, b, c] by rw [ho]; rfl] at hx
  obtain ⟨x, y, z, rfl, h1, h2, h3⟩ := map3 hx
  replace h := run_local rfl h
  obtain ⟨h, rfl⟩ := h
  cases x <;> simp only [localK, reduceCtorEq, Option.some.injEq] at h
  subst h
  rw [VR] at h1
  exact pick_sound hrel ho h1 h2 h3
theorem nil_of_args {xs : List AV} (h : VRs σ K w xs (List.map ρ [])) : xs = [] := List.eq_nil_of_length_eq_zero (by simpa using (VRs_length h).symm)
theorem says_alloc {o : Oper} {t : TypeId} {z : AV} (ho : o.op = .alloc t) (hz : zeroA P t = some z) : Says P (.alloc z.cells) o := by
  intro β σ K w m m' v ρ xs hrel hx h
  rw [show Op.args o.op = [] by rw [ho]; rfl] at hx
  obtain rfl := nil_of_args hx
  replace h := run_alloc rfl h
  obtain ⟨f, ob, h, rfl, rfl⟩ := h
  simp only [allocK, Option.ite_none_right_eq_some, Option.some.injEq, Prod.mk.injEq] at h
  obtain ⟨h1, rfl, rfl⟩ := h
  exact alloc_sound hrel ho hz h1
theorem says_allocT {o : Oper} {t : TypeId} {z : AV} (ho : o.op = .alloc t) (hz : zeroA P t = some z) : Says P (.allocT t z.cells) o := by
  intro β σ K w m m' v ρ xs hrel hx h
  rw [show Op.args o.op = [] by rw [ho]; rfl] at hx
  obtain rfl := nil_of_args hx
  replace h := run_alloc rfl h
  obtain ⟨f, ob, h, rfl, rfl⟩ := h
  simp only [allocK, Option.ite_none_right_eq_some, Option.some.injEq, Prod.mk.injEq] at h
  obtain ⟨⟨h1, h0⟩, rfl, rfl⟩ := h
  exact allocT_sound hrel ho hz h1 h0
theorem says_box {o : Oper} {t : TypeId} {y : Operand} {sz : Nat} (ho : o.op = .box t y) : Says P (.box sz) o := by
  intro β σ K w m m' v ρ xs hrel hx h
  rw [show Op.args o.op = [y] by rw [ho]; rfl] at hx
  obtain ⟨x, rfl, hV⟩ := map1 hx
  replace h := run_alloc rfl h
  obtain ⟨f, ob, h, rfl, rfl⟩ := h
  simp only [allocK, Option.ite_none_right_eq_some, Option.some.injEq, Prod.mk.injEq] at h
  obtain ⟨⟨_, h1⟩, rfl, rfl⟩ := h
  exact box_sound hrel ho hV h1
theorem says_load {o : Oper} {t : TypeId} {y : Operand} {i : TypeInfo} (ho : o.op = .load t y) (hi : P.info? t = some i) (hu : (P.underlying t).isSome = true) (hs : isAggT P t = true ∨ i.size = 1) : Says P (.load (isAggT P t) i.size) o := by
  intro β σ K w m m' v ρ xs hrel hx h
  rw [show Op.args o.op = [y] by rw [ho]; rfl] at hx
  obtain ⟨x, rfl, hV⟩ := map1 hx
  replace h := run_read rfl h
  obtain ⟨h1, rfl⟩ := h
  simp only [readK] at h1
  exact load_sound hrel ho hi hu hs hV h1
theorem says_store {o : Oper} {t : TypeId} {y z : Operand} {i : TypeInfo} (ho : o.op = .store t y z) (hi : P.info? t = some i) : Says P (.store i.size) o := by
  intro β σ K w m m' v ρ xs hrel hx h
  rw [show Op.args o.op = [y, z] by rw [ho]; rfl] at hx
  obtain ⟨x, x', rfl, hV, hV'⟩ := map2 hx
  replace h := run_write rfl h
  simp only [writeK, Option.map_eq_some_iff, Prod.mk.injEq] at h
  obtain ⟨v', h1, rfl, rfl⟩ := h
  exact store_sound hrel ho hi hV hV' h1
theorem says_nilCheck {o : Oper} {y : Operand} (ho : o.op = .nilCheck y) : Says P .nilCheck o := by
  intro β σ K w m m' v ρ xs hrel hx h
  rw [show Op.args o.op = [y] by rw [ho]; rfl] at hx
  obtain ⟨x, rfl, hV⟩ := map1 hx
  replace h := run_local rfl h
  obtain ⟨h1, rfl⟩ := h
  simp only [localK] at h1
  exact nilCheck_sound hrel ho hV h1
theorem run_method {P : Program} {t : TypeId} {nm : String} {f : FuncId} (h : methOf P t nm = some f) (n : Nat) (u : Value) (w : World) : (method (n + 1) t u nm).run P w = .ok (f, u) w ∧ (nilAhead (n + 1) t u nm).run P w = .ok (some false) w := by
  unfold methOf at h
  split at h
  case h_2 => cases h
  rename_i i hi
  split at h
  case h_2 => cases h
  rename_i m hm
  split at h
  case h_2 => cases h
  rename_i f' hf
  split at h
  case isFalse => cases h
  rename_i hp
  have hpl : m.path.toList = [] := by simpa using hp
  split at h
  · cases h
  · rename_i d hnp hd
    injection h with h; subst h
    constructor
    · simp [method, typeInfo, hi, hm, hpl, follow, hf, receiverAt, run_underlying hd, Place.get]
    · simp [nilAhead, typeInfo, hi, hm, hpl, followBlind, hf, run_underlying hd]
      cases d <;> first | rfl | exact absurd rfl (hnp _)
  · cases h
theorem says_mkMeth {o : Oper} {nm : String} {first captured : Array Operand} (ho : o.op = .makeFunc (.method nm) first captured) (hf : first.size = 1) (hc : captured.size = 0) : Says P (.mkMeth nm) o := by
  intro β σ K w m m' v ρ xs hrel hx h
  rw [show Op.args o.op = first.toList by rw [ho]; rfl] at hx
  obtain ⟨y, hy⟩ : ∃ y, first = #[y] := by
    refine ⟨first[0], Array.ext (by simp [hf]) fun i h1 h2 => ?_⟩
    have : i = 0 := by omega
    subst this; simp
  subst hy
  rw [Array.size_eq_zero_iff] at hc; subst hc
  obtain ⟨x, rfl, hV⟩ := map1 hx
  replace h := run_local rfl h
  obtain ⟨h1, rfl⟩ := h
  simp only [localK, Option.some.injEq] at h1
  subst h1
  have : (execOp ρ o).run P w = .ok (.value (.func (.method nm) #[ρ y] #[])) w := by
    simp [execOp, ho, Instr.makeFunc]
  rw [this]; exact .pure hrel (by rw [VR]; exact ⟨_, rfl, hV⟩)
theorem says_nilCheckM {o : Oper} {nm : String} {y : Operand} (ho : o.op = .nilCheck y) : Says P (.nilCheckM nm (oksOf P nm)) o := by
  intro β σ K w m m' v ρ xs hrel hx h
  rw [show Op.args o.op = [y] by rw [ho]; rfl] at hx
  obtain ⟨x, rfl, hV⟩ := map1 hx
  replace h := run_local rfl h
  obtain ⟨h1, rfl⟩ := h
  simp only [localK] at h1
  unfold methChk at h1
  split at h1
  case h_2 => cases h1
  rename_i nm' t y'
  simp only [Option.ite_none_right_eq_some, Option.some.injEq] at h1
  obtain ⟨⟨rfl, hok⟩, rfl⟩ := h1
  have hmem : t ∈ oksOf P nm' := by simpa using hok
  unfold oksOf at hmem
  obtain ⟨f, hf⟩ := Option.isSome_iff_exists.1 (List.mem_filter.1 hmem).2
  have hV0 := hV
  rw [VR] at hV
  obtain ⟨u, hu, hI⟩ := hV
  rw [VR] at hI
  obtain ⟨u', rfl, _⟩ := hI
  have hnil : (nilAhead (P.types.size + 100) t u' nm').run P w = .ok (some false) w := (run_method hf (P.types.size + 99) u' w).2
  have : (execOp ρ o).run P w = .ok (.value (ρ y)) w := by
    simp only [execOp, ho, hu]
    simp [Made.depth, hnil]
  rw [this]; exact .pure hrel hV0
theorem says_bin {o : Oper} {op : BinOp} {t t' : TypeId} {y z : Operand} (ho : o.op = .binOp op t y z t') : Says P (.bin op) o := by
  intro β σ K w m m' v ρ xs hrel hx h
  rw [show Op.args o.op = [y, z] by rw [ho]; rfl] at hx
  obtain ⟨x, x', rfl, hV, hV'⟩ := map2 hx
  replace h := run_local rfl h
  obtain ⟨h1, rfl⟩ := h
  simp only [localK] at h1
  exact bin_sound hrel ho hV hV' h1
theorem says_eqBool {o : Oper} {op : BinOp} {t t' : TypeId} {y z : Operand} {neg : Bool} (ho : o.op = .binOp op t y z t') (hop : op = if neg then .neq else .eql) (hu : P.underlying t = some .bool) : Says P (.eqBool neg) o := by
  intro β σ K w m m' v ρ xs hrel hx h
  rw [show Op.args o.op = [y, z] by rw [ho]; rfl] at hx
  obtain ⟨x, x', rfl, hV, hV'⟩ := map2 hx
  replace h := run_local rfl h
  obtain ⟨h, rfl⟩ := h
  cases x <;> cases x' <;> simp only [localK, reduceCtorEq, Option.some.injEq] at h
  subst h
  rw [VR] at hV hV'
  exact eqBool_sound hrel ho hop hu hV hV'
theorem says_un {o : Oper} {op : UnOp} {t : TypeId} {y : Operand} (ho : o.op = .unOp op t y) : Says P (.un op) o := by
  intro β σ K w m m' v ρ xs hrel hx h
  rw [show Op.args o.op = [y] by rw [ho]; rfl] at hx
  obtain ⟨x, rfl, hV⟩ := map1 hx
  replace h := run_local rfl h
  obtain ⟨h1, rfl⟩ := h
  simp only [localK] at h1
  exact un_sound hrel ho hV h1
theorem says_convInt {o : Oper} {src dst : TypeId} {k k' : IntKind} {y : Operand} (ho : o.op = .convert src dst y) (h1 : P.underlying src = some (.int k')) (h2 : P.underlying dst = some (.int k)) : Says P (.convInt k) o := by
  intro β σ K w m m' v ρ xs hrel hx h
  rw [show Op.args o.op = [y] by rw [ho]; rfl] at hx
  obtain ⟨x, rfl, hV⟩ := map1 hx
  replace h := run_local rfl h
  obtain ⟨h, rfl⟩ := h
  cases x <;> simp only [localK, reduceCtorEq, Option.some.injEq] at h
  subst h
  rw [VR] at hV
  exact convInt_sound hrel ho h1 h2 hV
theorem says_mkFn {o : Oper} {f : FuncId} {first captured : Array Operand} (ho : o.op = .makeFunc (.func f) first captured) (hf : first.size = 0) : Says P (.mkFn f) o := by
  intro β σ K w m m' v ρ xs hrel hx h
  rw [show Op.args o.op = captured.toList by rw [ho]; rfl] at hx
  replace h := run_local rfl h
  obtain ⟨h, rfl⟩ := h
  simp only [localK, Option.some.injEq] at h
  subst h
  exact mkFn_sound hrel ho hf hx
theorem says_mkMap {o : Oper} {t : TypeId} (ho : o.op = .makeMap t none) : Says P .mkMap o := by
  intro β σ K w m m' v ρ xs hrel hx h
  rw [show Op.args o.op = [] by rw [ho]; rfl] at hx
  obtain rfl := nil_of_args hx
  replace h := run_alloc rfl h
  obtain ⟨f, ob, h, rfl, rfl⟩ := h
  simp only [allocK, Option.some.injEq, Prod.mk.injEq] at h
  obtain ⟨rfl, rfl⟩ := h
  exact mkMap_sound hrel ho
theorem says_sliceStr {o : Oper} {t : TypeId} {a : Operand} {lo hi : Option Operand} (ho : o.op = .slice t a lo hi none) (hu : P.underlying t = some .string) : Says P (.slice lo.isSome hi.isSome 0) o := by
  intro β σ K w m m' v ρ xs hrel hx h
  rw [show Op.args o.op = a :: (lo.toList ++ hi.toList) by rw [ho]; rfl] at hx
  replace h := run_local rfl h
  obtain ⟨h1, rfl⟩ := h
  simp only [localK] at h1
  exact sliceStr_sound hrel ho hu hx h1
theorem says_slice {o : Oper} {t e : TypeId} {i : TypeInfo} {a : Operand} {lo hi : Option Operand} (ho : o.op = .slice t a lo hi none) (hu : P.underlying t = some (.slice e)) (hi' : P.info? e = some i) (hpos : 0 < i.size) : Says P (.slice lo.isSome hi.isSome i.size) o := by
  intro β σ K w m m' v ρ xs hrel hx h
  rw [show Op.args o.op = a :: (lo.toList ++ hi.toList) by rw [ho]; rfl] at hx
  replace h := run_local rfl h
  obtain ⟨h1, rfl⟩ := h
  simp only [localK] at h1
  exact slice_sound hrel ho hu hi' hpos hx h1
theorem says_fieldAddr {o : Oper} {s : TypeId} {a : Operand} {f : Nat} {fs : Array Field} {fd : Field} (ho : o.op = .fieldAddr s a f) (hu : P.underlying s = some (.struct fs)) (hf : fs[f]? = some fd) (hz : P.cellsOf fd.type ≠ 0) : Says P (.fieldAddr fd.offset) o := by
  intro β σ K w m m' v ρ xs hrel hx h
  rw [show Op.args o.op = [a] by rw [ho]; rfl] at hx
  obtain ⟨x, rfl, hV⟩ := map1 hx
  replace h := run_local rfl h
  obtain ⟨h1, rfl⟩ := h
  simp only [localK] at h1
  exact fieldAddr_sound hrel ho hu hf hz hV h1
theorem says_field {o : Oper} {t : TypeId} {a : Operand} {f : Nat} {fs : Array Field} {fd : Field} {i : TypeInfo} (ho : o.op = .field t a f) (hu : P.underlying t = some (.struct fs)) (hf : fs[f]? = some fd) (hi : P.info? fd.type = some i) (hu' : (P.underlying fd.type).isSome = true) :
    Says P (.field (isAggT P fd.type) fd.offset i.size) o := by
  intro β σ K w m m' v ρ xs hrel hx h
  rw [show Op.args o.op = [a] by rw [ho]; rfl] at hx
  obtain ⟨x, rfl, hV⟩ := map1 hx
  replace h := run_local rfl h
  obtain ⟨h, rfl⟩ := h
  cases x <;> simp only [localK, reduceCtorEq] at h
  exact field_sound hrel ho hu hf hi hu' hV h
theorem says_indexAddr {o : Oper} {t e : TypeId} {i : TypeInfo} {a d : Operand} (ho : o.op = .indexAddr t a d) (hu : P.underlying t = some (.slice e)) (hi : P.info? e = some i) : Says P (.indexAddr i.size) o := by
  intro β σ K w m m' v ρ xs hrel hx h
  rw [show Op.args o.op = [a, d] by rw [ho]; rfl] at hx
  obtain ⟨x, y, rfl, hV, hV'⟩ := map2 hx
  replace h := run_local rfl h
  obtain ⟨h1, rfl⟩ := h
  cases y <;> simp only [localK, reduceCtorEq] at h1
  rw [VR] at hV'
  exact indexAddr_sound hrel ho hu hi hV hV' h1
theorem says_indexArr {o : Oper} {t e : TypeId} {i : TypeInfo} {l : Nat} {a d : Operand} (ho : o.op = .indexAddr t a d) (hu : P.underlying t = some (.array l e)) (hi : P.info? e = some i) : Says P (.indexArr l i.size) o := by
  intro β σ K w m m' v ρ xs hrel hx h
  rw [show Op.args o.op = [a, d] by rw [ho]; rfl] at hx
  obtain ⟨x, y, rfl, hV, hV'⟩ := map2 hx
  replace h := run_local rfl h
  obtain ⟨h, rfl⟩ := h
  cases x <;> cases y <;> simp only [localK, reduceCtorEq, Option.ite_none_right_eq_some, Option.some.injEq] at h
  obtain ⟨h0, rfl⟩ := h
  rw [VR] at hV'
  exact indexArr_sound hrel ho hu hi hV hV' h0.1 h0.2
theorem says_index {o : Oper} {t : TypeId} {a d : Operand} (ho : o.op = .index t a d) (hu : P.underlying t = some .string) : Says P .index o := by
  intro β σ K w m m' v ρ xs hrel hx h
  rw [show Op.args o.op = [a, d] by rw [ho]; rfl] at hx
  obtain ⟨x, y, rfl, hV, hV'⟩ := map2 hx
  replace h := run_local rfl h
  obtain ⟨h, rfl⟩ := h
  cases x <;> cases y <;> simp only [localK, reduceCtorEq, Option.ite_none_right_eq_some, Option.map_eq_some_iff] at h
  obtain ⟨h0, b, hb, rfl⟩ := h
  simp only [VR] at hV hV'
  exact index_sound hrel ho hu hV hV' h0 hb
theorem says_indexAgg {o : Oper} {t e : TypeId} {i : TypeInfo} {l : Nat} {a d : Operand} (ho : o.op = .index t a d) (hu : P.underlying t = some (.array l e)) (hi : P.info? e = some i) (hu' : (P.underlying e).isSome = true) : Says P (.indexAgg l i.size (isAggT P e)) o := by
  intro β σ K w m m' v ρ xs hrel hx h
  rw [show Op.args o.op = [a, d] by rw [ho]; rfl] at hx
  obtain ⟨x, y, rfl, hV, hV'⟩ := map2 hx
  replace h := run_local rfl h
  obtain ⟨h1, rfl⟩ := h
  cases x <;> simp only [localK, reduceCtorEq] at h1
  rename_i cs
  cases y <;> simp only [reduceCtorEq] at h1
  rename_i k n
  rw [VR] at hV'
  simp only [Option.ite_none_right_eq_some] at h1
  obtain ⟨h0, h1⟩ := h1
  rw [VR] at hV
  obtain ⟨us, he, hv⟩ := hV
  obtain ⟨u, hr, hVu⟩ := part_sound hi hu' hv h1
  have : (execOp ρ o).run P w = .ok (.value u) w := by
    simp [execOp, ho, he, hV', Instr.index, asIntOf, run_underlying hu, run_sizeOf' hi, h0, hr]
  rw [this]; exact .pure hrel hVu
theorem says_lookup {o : Oper} {t kt e : TypeId} {kk : SKind} {z : AV} {ok : Bool} {a d : Operand} (ho : o.op = .lookup t a d ok) (ht : P.underlying t = some (.map kt e)) (hkk : skindOf P kt = some kk) (hz : zeroA P e = some z) : Says P (.lookup kk z ok) o := by
  intro β σ K w m m' v ρ xs hrel hx h
  rw [show Op.args o.op = [a, d] by rw [ho]; rfl] at hx
  obtain ⟨x, y, rfl, hV, hV'⟩ := map2 hx
  replace h := run_read rfl h
  obtain ⟨h, rfl⟩ := h
  simp only [readK, Option.ite_none_right_eq_some, Option.map_eq_some_iff] at h
  obtain ⟨hk, r, hr, rfl⟩ := h
  exact lookup_sound hrel ho ht hkk hz hV hV' hk hr
theorem says_mapUpdate {o : Oper} {t kt e : TypeId} {kk : SKind} {a b d : Operand} (ho : o.op = .mapUpdate t a b d) (ht : P.underlying t = some (.map kt e)) (hkk : skindOf P kt = some kk) : Says P (.mapUpdate kk) o := by
  intro β σ K w m m' v ρ xs hrel hx h
  rw [show Op.args o.op = [a, b, d] by rw [ho]; rfl] at hx
  obtain ⟨x, y, z, rfl, h1, h2, h3⟩ := map3 hx
  replace h := run_write rfl h
  cases x <;> simp only [writeK, reduceCtorEq] at h
  split at h
  · rename_i hk
    split at h
    · rename_i kv hobj
      split at h
      · rename_i kv' hu
        simp only [Option.some.injEq, Prod.mk.injEq] at h
        obtain ⟨rfl, rfl⟩ := h
        exact mapUpdate_sound hrel ho ht hkk h1 h2 h3 hk hobj hu
      · cases h
    · cases h
  · cases h
theorem says_insert {o : Oper} {t kt e : TypeId} {kk : SKind} {a b d : Operand} (ho : o.op = .insert t a b d) (ht : P.underlying t = some (.map kt e)) (hkk : skindOf P kt = some kk) : Says P (.mapUpdate kk) o := by
  intro β σ K w m m' v ρ xs hrel hx h
  rw [show Op.args o.op = [a, b, d] by rw [ho]; rfl] at hx
  obtain ⟨x, y, z, rfl, h1, h2, h3⟩ := map3 hx
  replace h := run_write rfl h
  cases x <;> simp only [writeK, reduceCtorEq] at h
  split at h
  · rename_i hk
    split at h
    · rename_i kv hobj
      split at h
      · rename_i kv' hu
        simp only [Option.some.injEq, Prod.mk.injEq] at h
        obtain ⟨rfl, rfl⟩ := h
        have he : execOp ρ o = execOp ρ { o with op := .mapUpdate t a b d } := by simp only [execOp, ho]
        rw [he]
        exact mapUpdate_sound (o := { o with op := .mapUpdate t a b d }) hrel rfl ht hkk h1 h2 h3 hk hobj hu
      · cases h
    · cases h
  · cases h
theorem says_extract {o : Oper} {a : Operand} {i : Nat} (ho : o.op = .extract a i) : Says P (.extract i) o := by
  intro β σ K w m m' v ρ xs hrel hx h
  rw [show Op.args o.op = [a] by rw [ho]; rfl] at hx
  obtain ⟨x, rfl, hV⟩ := map1 hx
  replace h := run_local rfl h
  obtain ⟨h, rfl⟩ := h
  cases x <;> simp only [localK, reduceCtorEq] at h
  exact extract_sound hrel ho hV h
theorem says_mkIface {o : Oper} {t : TypeId} {a : Operand} {d : TypeDesc} (ho : o.op = .makeInterface t a) (hu : P.underlying t = some d) (hd : ∀ ms, d ≠ .interface ms) : Says P (.mkIface t) o := by
  intro β σ K w m m' v ρ xs hrel hx h
  rw [show Op.args o.op = [a] by rw [ho]; rfl] at hx
  obtain ⟨x, rfl, hV⟩ := map1 hx
  replace h := run_local rfl h
  obtain ⟨h, rfl⟩ := h
  simp only [localK, Option.some.injEq] at h
  subst h
  exact mkIface_sound hrel ho hu hd hV
theorem says_len0 {o : Oper} {t : TypeId} {ts : Array TypeId} {a : Operand} (ho : o.op = .call ⟨.builtin .len, #[a], ts⟩) (ht : ts[0]? = some t) (hu : P.underlying t = some .string) : Says P (.len 0) o := by
  intro β σ K w m m' v ρ xs hrel hx h
  rw [show Op.args o.op = [a] by rw [ho]; rfl] at hx
  obtain ⟨x, rfl, hV⟩ := map1 hx
  replace h := run_local rfl h
  obtain ⟨h1, rfl⟩ := h
  simp only [localK] at h1
  exact len0_sound hrel ho ht hu hV h1
theorem says_len1 {o : Oper} {t e : TypeId} {ts : Array TypeId} {a : Operand} (ho : o.op = .call ⟨.builtin .len, #[a], ts⟩) (ht : ts[0]? = some t) (hu : P.underlying t = some (.slice e)) : Says P (.len 1) o := by
  intro β σ K w m m' v ρ xs hrel hx h
  rw [show Op.args o.op = [a] by rw [ho]; rfl] at hx
  obtain ⟨x, rfl, hV⟩ := map1 hx
  replace h := run_local rfl h
  obtain ⟨h1, rfl⟩ := h
  simp only [localK] at h1
  exact len1_sound hrel ho ht hu hV h1
theorem says_len2 {o : Oper} {t k e : TypeId} {ts : Array TypeId} {a : Operand} (ho : o.op = .call ⟨.builtin .len, #[a], ts⟩) (ht : ts[0]? = some t) (hu : P.underlying t = some (.map k e)) : Says P .lenMap o := by
  intro β σ K w m m' v ρ xs hrel hx h
  rw [show Op.args o.op = [a] by rw [ho]; rfl] at hx
  obtain ⟨x, rfl, hV⟩ := map1 hx
  replace h := run_read rfl h
  obtain ⟨h1, rfl⟩ := h
  simp only [readK] at h1
  exact len2_sound hrel ho ht hu hV h1
theorem says_min {o : Oper} {ts : Array TypeId} {a d : Operand} (ho : o.op = .call ⟨.builtin .min, #[a, d], ts⟩) : Says P .min2 o := by
  intro β σ K w m m' v ρ xs hrel hx h
  rw [show Op.args o.op = [a, d] by rw [ho]; rfl] at hx
  obtain ⟨x, y, rfl, hV, hV'⟩ := map2 hx
  replace h := run_local rfl h
  obtain ⟨h, rfl⟩ := h
  cases x <;> cases y <;> simp only [localK, reduceCtorEq, Option.ite_none_right_eq_some, Option.some.injEq] at h
  obtain ⟨rfl, rfl⟩ := h
  rw [VR] at hV hV'
  exact min_sound hrel ho hV hV'
theorem says_max {o : Oper} {ts : Array TypeId} {a d : Operand} (ho : o.op = .call ⟨.builtin .max, #[a, d], ts⟩) : Says P .max2 o := by
  intro β σ K w m m' v ρ xs hrel hx h
  rw [show Op.args o.op = [a, d] by rw [ho]; rfl] at hx
  obtain ⟨x, y, rfl, hV, hV'⟩ := map2 hx
  replace h := run_local rfl h
  obtain ⟨h, rfl⟩ := h
  cases x <;> cases y <;> simp only [localK, reduceCtorEq, Option.ite_none_right_eq_some, Option.some.injEq] at h
  obtain ⟨rfl, rfl⟩ := h
  rw [VR] at hV hV'
  exact max_sound hrel ho hV hV'
theorem says_append {o : Oper} {t e : TypeId} {i : TypeInfo} {z : AV} {a d : Operand} (ho : o.op = .call ⟨.builtin .append, #[a, d], #[t, t]⟩) (ht : P.underlying t = some (.slice e)) (hi : P.info? e = some i) (hz : zeroA P e = some z) (hzl : z.cells.length = i.size)
    (hz1 : z.cells.all AV.one = true) (hpos : 0 < i.size) : Says P (.append e i.size i.bytes) o := by
  intro β σ K w m m' v ρ xs hrel hx h
  rw [show Op.args o.op = [a, d] by rw [ho]; rfl] at hx
  obtain ⟨x, y, rfl, hV, hV'⟩ := map2 hx
  replace h := run_write rfl h
  exact append_sound hrel ho ht hi hz hzl hz1 hpos hV hV' h
theorem says_appendS {o : Oper} {t tx e : TypeId} {i : TypeInfo} {z : AV} {a d : Operand} (ho : o.op = .call ⟨.builtin .append, #[a, d], #[t, tx]⟩) (ht : P.underlying t = some (.slice e)) (htx : P.underlying tx = some .string) (hi : P.info? e = some i) (hz : zeroA P e = some z)
    (hzl : z.cells.length = i.size) (hz1 : z.cells.all AV.one = true) (hs1 : i.size = 1) : Says P (.appendS e i.bytes) o := by
  intro β σ K w m m' v ρ xs hrel hx h
  rw [show Op.args o.op = [a, d] by rw [ho]; rfl] at hx
  obtain ⟨x, y, rfl, hV, hV'⟩ := map2 hx
  replace h := run_write rfl h
  simp only [writeK] at h
  cases y <;> simp only [appendSA, reduceCtorEq] at h
  exact appendS_sound hrel ho ht htx hi hz hzl hz1 hs1 hV hV' h
theorem says_build {o : Oper} {t : TypeId} {parts : Array (Nat × Operand)} {fs : Array Field} {z : AV} {offs : List (Nat × Nat)} (ho : o.op = .build t parts) (hu : P.underlying t = some (.struct fs)) (hz : zeroA P t = some z) (hone : z.cells.all AV.one = true)
    (hf : fieldsAt P fs (parts.toList.map (·.1)) = some offs) (hall : fs.all (fun f => (P.info? f.type).isSome) = true) : Says P (.build z.cells offs) o := by
  intro β σ K w m m' v ρ xs hrel hx h
  rw [show Op.args o.op = parts.toList.map (·.2) by rw [ho]; rfl] at hx
  replace h := run_local rfl h
  obtain ⟨h1, rfl⟩ := h
  simp only [localK, Option.map_eq_some_iff] at h1
  obtain ⟨cs, h1, rfl⟩ := h1
  exact build_sound hrel ho hu hz hone hf hall hx h1
end
end Go.Pm
