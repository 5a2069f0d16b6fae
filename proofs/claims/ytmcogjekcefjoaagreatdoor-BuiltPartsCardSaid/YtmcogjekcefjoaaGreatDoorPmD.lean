/- PmD: operations, resolved; constants. -/
import Derived.Test.YtmcogjekcefjoaaGreatDoorPmC
namespace Go.Pm
open Go
def methOf (P : Program) (t : TypeId) (nm : String) : Option FuncId :=
  match P.info? t with
  | some i => match i.methods.find? (·.name == nm) with
    | some m => match m.func with
      | some (f, false) => if m.path.isEmpty then (match P.underlying t with
        | some (.pointer _) => none
        | some _ => some f
        | none => none) else none
      | _ => none
    | none => none
  | none => none
def oksOf (P : Program) (nm : String) : List Nat := (List.range P.types.size).filter fun t => (methOf P t nm).isSome
def constA1 : Value → Option AV
  | .bool b => some (.bool b)
  | .int k n => some (.int k n)
  | .string s => some (.str s)
  | .slice none 0 0 => some .nilS
  | .pointer none => some (.const (.pointer none))
  | .map none => some (.const (.map none))
  | .nilFunc => some (.const .nilFunc)
  | .nilIface => some (.const .nilIface)
  | .func (.func f) first captured => if first.size = 0 ∧ captured.size = 0 then some (.fn f []) else none
  | _ => none
def constA : Value → Option AV
  | .agg cs => (cs.toList.mapM constA1).map .agg
  | .iface t v => (constA1 v).map (.iface t)
  | v => constA1 v
def opnd : Operand → Option Opnd
  | .tmp t => some (.tmp t)
  | .const v => (constA v).map .lit
  | .func f => some (.lit (.fn f []))
  | .global _ => none
def isAggT (P : Program) (t : TypeId) : Bool :=
  match P.underlying t with
  | some (.struct _) | some (.array ..) => true
  | _ => false
def zeroA (P : Program) (t : TypeId) : Option AV := ((P.info? t).bind (·.zero)).bind constA
def skindOf (P : Program) (t : TypeId) : Option SKind :=
  match P.underlying t with
  | some (.int _) => some .int
  | some .string => some .str
  | some .bool => some .bool
  | _ => none
def selfPtr (P : Program) (t : TypeId) : Bool :=
  match P.underlying t with
  | some (.struct fs) => match fs[0]? with
    | some f => match P.underlying f.type with
      | some (.pointer u) => decide (u = t)
      | _ => false
    | none => false
  | _ => false
def flatKinds (P : Program) : List Field → Nat → Option (List SKind)
  | [], _ => some []
  | f :: fs, o => if f.offset = o ∧ f.name ≠ "_" then
      match skindOf P f.type, flatKinds P fs (o + 1) with
      | some k, some ks => some (k :: ks)
      | _, _ => none
    else none
def opnds : List Operand → Option (List Opnd)
  | [] => some []
  | x :: l => match opnd x, opnds l with
    | some y, some ys => some (y :: ys)
    | _, _ => none
def fieldsAt (P : Program) (fs : Array Field) : List Nat → Option (List (Nat × Nat))
  | [] => some []
  | i :: l => match fs[i]?, fieldsAt P fs l with
    | some f, some r => some ((f.offset, P.cellsOf f.type) :: r)
    | _, _ => none
def compK (P : Program) : Op → Option SK
  | .move _ | .assign _ => some .mv
  | .pick .. => some .pick
  | .alloc t => match zeroA P t with
    | some z => if selfPtr P t then some (.allocT t z.cells) else some (.alloc z.cells)
    | none => none
  | .box t _ => some (.box (P.cellsOf t))
  | .build t parts => match P.underlying t, zeroA P t with
    | some (.struct fs), some z => match fieldsAt P fs (parts.toList.map (·.1)) with
      | some l => if z.cells.all AV.one ∧ fs.all (fun f => (P.info? f.type).isSome) then some (.build z.cells l) else none
      | none => none
    | some (.array _ e), some z => match P.info? e with
      | some i => if z.cells.all AV.one then some (.build z.cells ((parts.toList.map (·.1)).map fun j => (j * i.size, i.size))) else none
      | none => none
    | _, _ => none
  | .load t _ => match P.info? t with
    | some i => if (P.underlying t).isSome ∧ (isAggT P t ∨ i.size = 1) then some (.load (isAggT P t) i.size) else none
    | none => none
  | .store t _ _ => match P.info? t with
    | some i => some (.store i.size)
    | none => none
  | .nilCheck _ => some .nilCheck
  | .binOp op t _ z _ => match P.underlying t with
    | some .bool => match op with
      | .eql => some (.eqBool false)
      | .neq => some (.eqBool true)
      | _ => none
    | some (.int _) | some .string => some (.bin op)
    | some (.struct fs) => match flatKinds P fs.toList 0 with
      | some ks => if P.stoodInHeld t = false ∧ P.eqGuardType P.depth t = false then match op with
          | .eql => some (.eqAgg false ks)
          | .neq => some (.eqAgg true ks)
          | _ => none
        else none
      | none => none
    | some (.array n e) => match skindOf P e, P.info? e with
      | some kk, some i => if n = 2 ∧ i.size = 1 ∧ P.eqGuardType P.depth t = false then match op with
          | .eql => some (.eqPair false kk)
          | .neq => some (.eqPair true kk)
          | _ => none
        else none
      | _, _ => none
    | some (.interface _) => match z with
      | .const .nilIface => match op with
        | .eql => some (.eqNil false false)
        | .neq => some (.eqNil false true)
        | _ => none
      | _ => none
    | some (.pointer _) => match z with
      | .const (.pointer none) => match op with
        | .eql => some (.eqNil true false)
        | .neq => some (.eqNil true true)
        | _ => none
      | _ => none
    | _ => none
  | .typeAssert _ _ t true => match P.underlying t with
    | some (.interface _) => none
    | some _ => (zeroA P t).map (.typeAssert t)
    | none => none
  | .unOp op _ _ => some (.un op)
  | .convert src dst _ => match P.underlying src, P.underlying dst with
    | some (.int _), some (.int k) => some (.convInt k)
    | some (.slice e), some .string => match P.underlying e with
      | some (.int .u8) => some .bytesToStr
      | _ => none
    | _, _ => none
  | .buildSlice t n parts => match P.underlying t with
    | some (.slice e) => match P.info? e, zeroA P e with
      | some i, some z => if z.cells.length = i.size ∧ z.cells.all AV.one ∧ 0 < i.size ∧ n * i.size ≤ 16777216 then some (.buildRow e i.size n z.cells (parts.toList.map (·.1))) else none
      | _, _ => none
    | _ => none
  | .makeSlice t _ _ => match P.underlying t with
    | some (.slice e) => match P.info? e, zeroA P e with
      | some i, some z => if z.cells.length = i.size ∧ z.cells.all AV.one ∧ 0 < i.size then some (.mkRow e z.cells i.bytes) else none
      | _, _ => none
    | _ => none
  | .makeFunc fn first captured => match fn with
    | .func f => if first.size = 0 then some (.mkFn f) else none
    | .method nm => if first.size = 1 ∧ captured.size = 0 then some (.mkMeth nm) else none
    | _ => none
  | .makeMap _ r => match r with
    | none => some .mkMap
    | some _ => none
  | .slice t _ lo hi mx => match mx, P.underlying t with
    | none, some .string => some (.slice lo.isSome hi.isSome 0)
    | none, some (.slice e) => if (P.info? e).isSome ∧ 0 < P.cellsOf e then some (.slice lo.isSome hi.isSome (P.cellsOf e)) else none
    | _, _ => none
  | .fieldAddr s _ f => match P.underlying s with
    | some (.struct fs) => match fs[f]? with
      | some fd => if P.cellsOf fd.type ≠ 0 then some (.fieldAddr fd.offset) else none
      | none => none
    | _ => none
  | .field t _ f => match P.underlying t with
    | some (.struct fs) => match fs[f]? with
      | some fd => match P.info? fd.type with
        | some i => if (P.underlying fd.type).isSome then some (.field (isAggT P fd.type) fd.offset i.size) else none
        | none => none
      | none => none
    | _ => none
  | .indexAddr t _ _ => match P.underlying t with
    | some (.slice e) => if (P.info? e).isSome then some (.indexAddr (P.cellsOf e)) else none
    | some (.array n e) => if (P.info? e).isSome then some (.indexArr n (P.cellsOf e)) else none
    | _ => none
  | .index t _ _ => match P.underlying t with
    | some .string => some .index
    | some (.array n e) => if (P.info? e).isSome ∧ (P.underlying e).isSome then some (.indexAgg n (P.cellsOf e) (isAggT P e)) else none
    | _ => none
  | .lookup t _ _ ok => match P.underlying t with
    | some (.map k e) => match skindOf P k, zeroA P e with
      | some sk, some z => some (.lookup sk z ok)
      | _, _ => none
    | _ => none
  | .mapUpdate t _ _ _ => match P.underlying t with
    | some (.map k _) => (skindOf P k).map .mapUpdate
    | _ => none
  | .insert t _ _ _ => match P.underlying t with
    | some (.map k _) => (skindOf P k).map .mapUpdate
    | _ => none
  | .extract _ i => some (.extract i)
  | .makeInterface t _ => match P.underlying t with
    | some (.interface _) => none
    | some _ => some (.mkIface t)
    | none => none
  | .call c => match c.callee with
    | .builtin .len => match c.args.size, c.argTypes[0]? with
      | 1, some t => match P.underlying t with
        | some .string => some (.len 0)
        | some (.slice _) => some (.len 1)
        | some (.map ..) => some .lenMap
        | _ => none
      | _, _ => none
    | .builtin .append => match c.args.size, c.argTypes.toList with
      | 2, [t, x] => match P.underlying t with
        | some (.slice e) => match P.info? e, zeroA P e, P.underlying x with
          | some i, some z, some (.slice _) => if x = t ∧ z.cells.length = i.size ∧ z.cells.all AV.one ∧ 0 < i.size then some (.append e i.size i.bytes) else none
          | some i, some z, some (.int _) => if z.cells.length = i.size ∧ z.cells.all AV.one ∧ 0 < i.size then some (.growNil e z.cells i.bytes) else none
          | some i, some z, some .string => if z.cells.length = i.size ∧ z.cells.all AV.one ∧ i.size = 1 then some (.appendS e i.bytes) else none
          | _, _, _ => none
        | _ => none
      | _, _ => none
    | .builtin .cap => match c.args.size, c.argTypes[0]? with
      | 1, some t => match P.underlying t with
        | some (.slice _) => some (.len 2)
        | _ => none
      | _, _ => none
    | .builtin .copy => match c.args.size, c.argTypes[0]? with
      | 2, some t => match P.underlying t with
        | some (.slice e) => if (P.info? e).map (·.size) = some 1 then some (.copy e 1) else none
        | _ => none
      | _, _ => none
    | .builtin .delete => match c.args.size, c.argTypes[0]? with
      | 2, some t => match P.underlying t with
        | some (.map k _) => (skindOf P k).map .mapDelete
        | _ => none
      | _, _ => none
    | .builtin .clear => match c.args.size, c.argTypes[0]? with
      | 1, some t => match P.underlying t with
        | some (.slice e) => match P.info? e, zeroA P e with
          | some _, some z => some (.clear z.cells)
          | _, _ => none
        | _ => none
      | _, _ => none
    | .builtin .min => if c.args.size = 2 then some .min2 else none
    | .builtin .max => if c.args.size = 2 then some .max2 else none
    | _ => none
  | _ => none
def Op.args : Op → List Operand
  | .build _ parts => parts.toList.map (·.2)
  | .buildSlice _ _ parts => parts.toList.map (·.2)
  | .slice _ x lo hi _ => x :: (lo.toList ++ hi.toList)
  | .store _ a v => [a, v]
  | .call c => c.args.toList
  | .makeFunc fn first captured => match fn with
    | .method _ => first.toList
    | _ => captured.toList
  | op => op.operands.toList
def compN (P : Program) : Op → Option NK
  | .range t _ => match P.underlying t with
    | some (.map ..) => some .rangeM
    | _ => none
  | .next _ false => some .next
  | .entry _ => some .entry
  | .binOp op t _ (.const (.slice none _ _)) _ => match P.underlying t with
    | some (.slice _) => match op with
      | .eql => some (.isNil false)
      | .neq => some (.isNil true)
      | _ => none
    | _ => none
  | _ => none
def compAct (P : Program) (o : Op) : Option SAct :=
  match o with
  | .panic _ => some .panic
  | .call c => match c.callee with
    | .value (.func f) => some (.call f)
    | .value (.tmp _) => some .callv
    | .invoke (.tmp _) nm => some (.inv nm)
    | _ => (compK P o).map .plain
  | _ => match compN P o with
    | some k => some (.many k)
    | none => (compK P o).map .plain
def compArgs (o : Op) : Option (List Opnd) :=
  match o with
  | .panic x => opnds [x]
  | .call c => match c.callee with
    | .value (.tmp f) => opnds (.tmp f :: c.args.toList)
    | .invoke (.tmp r) _ => opnds (.tmp r :: c.args.toList)
    | _ => opnds c.args.toList
  | _ => opnds (Op.args o)
section
variable {σ : Sig} {K : Bool → Nat → Prop} {w : World}
theorem constA1_sound {v : Value} {x : AV} (h : constA1 v = some x) : VR σ K w x v := by
  unfold constA1 at h
  split at h <;> first | (injection h with h; subst h; simp [VR]; done) | skip
  · rename_i f first captured
    split at h
    · rename_i hs
      injection h with h; subst h
      obtain ⟨h1, h2⟩ := hs
      rw [Array.size_eq_zero_iff] at h1 h2
      subst h1; subst h2
      simp [VR, VRs]
    · cases h
  · cases h
theorem mapM_constA1 : ∀ {vs : List Value} {xs : List AV}, vs.mapM constA1 = some xs → VRs σ K w xs vs
  | [], xs, h => by simp at h; subst h; rfl
  | v :: vs, xs, h => by
    simp only [List.mapM_cons, Option.pure_def, Option.bind_eq_bind, Option.bind_eq_some_iff] at h
    obtain ⟨x, hx, ys, hy, h⟩ := h
    injection h with h; subst h
    exact ⟨v, vs, rfl, constA1_sound hx, mapM_constA1 hy⟩
theorem constA_sound {v : Value} {x : AV} (h : constA v = some x) : VR σ K w x v := by
  unfold constA at h
  split at h
  · rename_i cs
    simp only [Option.map_eq_some_iff] at h
    obtain ⟨xs, hx, rfl⟩ := h
    rw [VR]; exact ⟨cs, rfl, mapM_constA1 hx⟩
  · simp only [Option.map_eq_some_iff] at h
    obtain ⟨x, hx, rfl⟩ := h
    rw [VR]; exact ⟨_, rfl, constA1_sound hx⟩
  · exact constA1_sound h
def EnvR (σ : Sig) (K : Bool → Nat → Prop) (w : World) (e : Env) (a : Act) : Prop := ∀ t, VR σ K w (e.get t) (a.tmps.getD t undef)
theorem opnd_sound {e : Env} {a : Act} (he : EnvR σ K w e a) {x : Operand} {y : Opnd} (h : opnd x = some y) : VR σ K w (y.eval e) (a.eval x) := by
  cases x with
  | tmp t => injection h with h; subst h; exact he t
  | const v =>
    simp only [opnd, Option.map_eq_some_iff] at h
    obtain ⟨x, hx, rfl⟩ := h
    exact constA_sound hx
  | func f => injection h with h; subst h; simp [Opnd.eval, VR, Act.eval, VRs]
  | global g => cases h
theorem opnds_sound {e : Env} {a : Act} (he : EnvR σ K w e a) : ∀ {l : List Operand} {r : List Opnd}, opnds l = some r → VRs σ K w (r.map (·.eval e)) (l.map a.eval)
  | [], r, h => by injection h with h; subst h; rfl
  | x :: l, r, h => by
    unfold opnds at h
    split at h
    · rename_i y ys h1 h2
      injection h with h; subst h
      exact ⟨_, _, rfl, opnd_sound he h1, opnds_sound he h2⟩
    · cases h
end
end Go.Pm
