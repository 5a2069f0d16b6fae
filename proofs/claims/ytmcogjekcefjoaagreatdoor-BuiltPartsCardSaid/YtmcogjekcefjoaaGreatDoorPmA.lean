/- PmA: abstract values, abstract memory, and what an operation does to them (definitions alone). -/
import Derived.Control
import Derived.Calls
import Derived.WalkKit
namespace Go.Pm
inductive AV where
  | any
  | bool (b : Bool)
  | int (k : IntKind) (n : Int)
  | str (s : ByteArray)
  | const (v : Value)
  | nilS
  | list (p : Bool) (sz : Nat) (els : List (List AV))
  | iptr (p : Bool) (cells : List AV)
  | ptr (pos gen off : Nat)
  | rptr (pos gen sz idx off : Nat)
  | row (pos gen sz off len : Nat)
  | map (pos gen : Nat)
  | fn (f : FuncId) (caps : List AV)
  | yield (pos gen : Nat)
  | iface (t : TypeId) (v : AV)
  | agg (cells : List AV)
  | tuple (vs : List AV)
  | kmap (key : ByteArray) (v : AV)
  | meth (nm : String) (v : AV)
  deriving Inhabited
inductive LoopSt where
  | ready
  | busy
  | ret
  | exit (id : Nat)
inductive AObj where
  | cells (vs : List AV)
  | row (e sz : Nat) (els : List (List AV))
  | map (kv : List (AV × AV))
  | emap (es : List (AV × AV × Nat)) (clock : Nat)
  | iter (pos gen since : Nat) (seen : List Nat) (last : Nat)
  | loop (st : LoopSt) (e : List (Nat × AV)) (ok : Loop → Prop)
  | hole
  deriving Inhabited
structure Mem where
  store : List (Nat × AObj)
  next : Nat
  deriving Inhabited
def Mem.empty : Mem := ⟨[], 0⟩
abbrev Env := List (Nat × AV)
def Env.get : Env → Nat → AV
  | [], _ => .any
  | (j, v) :: e, i => if j = i then v else Env.get e i
def Env.set : Env → Nat → AV → Env
  | [], i, x => [(i, x)]
  | (j, v) :: e, i, x => if i < j then (i, x) :: (j, v) :: e else if i = j then (i, x) :: e else (j, v) :: Env.set e i x
def Env.keep (e : Env) (l : List Nat) : Env := e.filter fun p => l.contains p.1
def Env.drop (e : Env) (l : List Nat) : Env := e.filter fun p => !l.contains p.1
inductive Opnd where
  | tmp (t : Nat)
  | lit (a : AV)
  deriving Inhabited
def Opnd.eval (e : Env) : Opnd → AV
  | .tmp t => e.get t
  | .lit a => a
def AV.cells : AV → List AV
  | .agg cs => cs
  | v => [v]
def AV.one : AV → Bool
  | .any | .agg _ | .tuple _ => false
  | .const c => c.oneCell'
  | _ => true
inductive SKind where
  | int | str | bool
  deriving DecidableEq, Inhabited
inductive SK where
  | mv
  | pick
  | alloc (zero : List AV)
  | box (sz : Nat)
  | build (zero : List AV) (offs : List (Nat × Nat))
  | buildRow (e sz len : Nat) (zero : List AV) (idxs : List Nat)
  | load (agg : Bool) (sz : Nat)
  | store (sz : Nat)
  | nilCheck
  | bin (op : BinOp)
  | eqBool (neg : Bool)
  | eqAgg (neg : Bool) (ks : List SKind)
  | eqPair (neg : Bool) (k : SKind)
  | un (op : UnOp)
  | convInt (k : IntKind)
  | bytesToStr
  | mkFn (f : FuncId)
  | mkMap
  | mkRow (e : Nat) (zero : List AV) (bytes : Nat)
  | slice (lo hi : Bool) (sz : Nat)
  | fieldAddr (off : Nat)
  | field (agg : Bool) (off sz : Nat)
  | indexAddr (sz : Nat)
  | indexArr (len sz : Nat)
  | index
  | indexAgg (len sz : Nat) (agg : Bool)
  | lookup (k : SKind) (zero : AV) (ok : Bool)
  | mapUpdate (k : SKind)
  | extract (i : Nat)
  | len (k : Nat)
  | lenMap
  | append (e sz bytes : Nat)
  | appendS (e bytes : Nat)
  | allocT (t : Nat) (zero : List AV)
  | copy (e sz : Nat)
  | min2
  | max2
  | mkIface (t : TypeId)
  | eqNil (ptr neg : Bool)
  | typeAssert (t : TypeId) (zero : AV)
  | growNil (e : Nat) (zero : List AV) (bytes : Nat)
  | mapDelete (k : SKind)
  | clear (zero : List AV)
  | mkMeth (nm : String)
  | nilCheckM (nm : String) (oks : List Nat)
  | stuck
  deriving Inhabited
inductive NK where
  | isNil (neg : Bool)
  | rangeM
  | next
  | entry
  deriving Inhabited
inductive SAct where
  | plain (k : SK)
  | many (k : NK)
  | call (f : FuncId)
  | callv
  | inv (nm : String)
  | panic
  deriving Inhabited
structure SOp where
  dst : Option Nat
  act : SAct
  args : List Opnd
  guard : Option (Nat × Bool)
  deriving Inhabited
def binInt (op : BinOp) (k : IntKind) (a b : Int) : Option AV :=
  match op with
  | .add => some (.int k (k.wrap (a + b)))
  | .sub => some (.int k (k.wrap (a - b)))
  | .mul => some (.int k (k.wrap (a * b)))
  | .quo => if b = 0 then none else some (.int k (k.wrap (a.tdiv b)))
  | .rem => if b = 0 then none else some (.int k (a.tmod b))
  | .and => some (.int k (k.wrap (BitVec.ofInt k.bits a &&& BitVec.ofInt k.bits b).toNat))
  | .or => some (.int k (k.wrap (BitVec.ofInt k.bits a ||| BitVec.ofInt k.bits b).toNat))
  | .xor => some (.int k (k.wrap (BitVec.ofInt k.bits a ^^^ BitVec.ofInt k.bits b).toNat))
  | .andNot => some (.int k (k.wrap (BitVec.ofInt k.bits a &&& ~~~BitVec.ofInt k.bits b).toNat))
  | .eql => some (.bool (a == b))
  | .neq => some (.bool (a != b))
  | .lss => some (.bool (a < b))
  | .leq => some (.bool (a ≤ b))
  | .gtr => some (.bool (a > b))
  | .geq => some (.bool (a ≥ b))
  | _ => none
def shInt (op : BinOp) (k : IntKind) (a b : Int) : Option AV :=
  if b < 0 then none else
  match op with
  | .shl => some (.int k (k.wrap (a * 2 ^ (min b.toNat k.bits))))
  | .shr => some (.int k (a.fdiv (2 ^ (min b.toNat k.bits))))
  | _ => none
def binStr (op : BinOp) (x y : ByteArray) : Option AV :=
  match op with
  | .add => if x.size + y.size ≤ 9223372036854775807 then some (.str (x ++ y)) else none
  | .eql => some (.bool (x.toList == y.toList))
  | .neq => some (.bool !(x.toList == y.toList))
  | .lss => some (.bool (Op.bytesLess x.toList y.toList))
  | .leq => some (.bool (Op.bytesLess x.toList y.toList || x.toList == y.toList))
  | .gtr => some (.bool !(Op.bytesLess x.toList y.toList || x.toList == y.toList))
  | .geq => some (.bool !(Op.bytesLess x.toList y.toList))
  | _ => none
def binA (op : BinOp) : AV → AV → Option AV
  | .int k a, .int k' b =>
    match op with
    | .shl | .shr => shInt op k a b
    | _ => if k = k' then binInt op k a b else none
  | .str a, .str b => binStr op a b
  | _, _ => none
def scalarEq : SKind → AV → AV → Option Bool
  | .int, .int k a, .int k' b => if k = k' then some (a == b) else none
  | .str, .str a, .str b => some (a == b)
  | .bool, .bool a, .bool b => some (a == b)
  | _, _, _ => none
def scalarsEq : List SKind → List AV → List AV → Option Bool
  | [], [], [] => some true
  | k :: ks, x :: xs, y :: ys => match scalarEq k x y with
    | some true => scalarsEq ks xs ys
    | some false => some false
    | none => none
  | _, _, _ => none
def unA (op : UnOp) : AV → Option AV
  | .int k n => match op with
    | .neg => some (.int k (k.wrap (0 - n)))
    | .xor => some (.int k (k.wrap (BitVec.ofInt k.bits (if k.signed then -1 else k.max) ^^^ BitVec.ofInt k.bits n).toNat))
    | _ => none
  | .bool b => match op with
    | .not => some (.bool !b)
    | _ => none
  | _ => none
def fillA : List AV → List (Nat × Nat) → List AV → Option (List AV)
  | cs, [], [] => some cs
  | cs, (off, sz) :: l, v :: vs =>
    if v.cells.length = sz ∧ off + sz ≤ cs.length ∧ v.cells.all AV.one then fillA (cs.take off ++ v.cells ++ cs.drop (off + sz)) l vs else none
  | _, _, _ => none
def Mem.obj (m : Mem) (pos gen : Nat) : Option AObj :=
  match m.store[pos]? with
  | some (g, o) => if g = gen then some o else none
  | none => none
def Mem.new (m : Mem) (o : AObj) : Mem := ⟨m.store ++ [(m.next, o)], m.next + 1⟩
def Mem.put (m : Mem) (pos gen : Nat) (o : AObj) : Mem := ⟨m.store.set pos (gen, o), m.next⟩
def Mem.turn (m : Mem) (pos : Nat) (o : AObj) : Mem := ⟨m.store.set pos (m.next, o), m.next + 1⟩
def cellsAt (m : Mem) : AV → Nat → Option (List AV)
  | .iptr _ cs, n => if n ≤ cs.length then some (cs.take n) else none
  | .ptr pos gen off, n => match m.obj pos gen with
    | some (.cells vs) => if off + n ≤ vs.length then some ((vs.drop off).take n) else none
    | _ => none
  | .rptr pos gen sz idx off, n => match m.obj pos gen with
    | some (.row _ sz' els) => match els[idx]? with
      | some cs => if sz = sz' ∧ off + n ≤ cs.length then some ((cs.drop off).take n) else none
      | none => none
    | _ => none
  | _, _ => none
def loadA (agg : Bool) (sz : Nat) (m : Mem) (a : AV) : Option AV :=
  if agg then (cellsAt m a sz).map .agg
  else match cellsAt m a 1 with
    | some [v] => some v
    | _ => none
def over (cs : List AV) (off : Nat) (vs : List AV) : List AV := cs.take off ++ vs ++ cs.drop (off + vs.length)
def storeA (sz : Nat) (m : Mem) (a v : AV) : Option Mem :=
  if v.cells.length = sz ∧ v.cells.all AV.one then
    match a with
    | .ptr pos gen off => match m.obj pos gen with
      | some (.cells vs) => if off + sz ≤ vs.length then some (m.put pos gen (.cells (over vs off v.cells))) else none
      | _ => none
    | .rptr pos gen sz' idx off => match m.obj pos gen with
      | some (.row e sz'' els) => match els[idx]? with
        | some cs => if sz' = sz'' ∧ off + sz ≤ cs.length then some (m.put pos gen (.row e sz'' (els.set idx (over cs off v.cells)))) else none
        | none => none
      | _ => none
    | _ => none
  else none
def elsOf (m : Mem) (sz : Nat) : AV → Option (List (List AV))
  | .nilS => some []
  | .list _ sz' els => if sz = sz' then some els else none
  | .row pos gen sz' off len => if sz = sz' then match m.obj pos gen with
      | some (.row _ sz'' els) => if sz = sz'' ∧ off + len ≤ els.length then some ((els.drop off).take len) else none
      | _ => none
    else none
  | _ => none
def bytesOf (s : ByteArray) : List (List AV) := s.data.toList.map fun b => [.int .u8 b.toNat]
def srcOf (m : Mem) (sz : Nat) : AV → Option (List (List AV))
  | .str s => if sz = 1 then some (bytesOf s) else none
  | a => elsOf m sz a
def appendN (e sz bytes : Nat) (m : Mem) (s : AV) (new : List (List AV)) : Option (AV × Mem) :=
  match s with
    | .nilS => if new.length * bytes ≤ 140737488355328 ∧ new.length ≤ 9223372036854775807 then some (.row m.store.length m.next sz 0 new.length, m.new (.row e sz new)) else none
    | .row pos gen sz' off len => match m.obj pos gen with
      | some (.row e' sz'' els) =>
        if e' = e ∧ sz' = sz ∧ sz'' = sz ∧ off = 0 ∧ len = els.length ∧ (els.length + new.length) * bytes ≤ 140737488355328 ∧ els.length + new.length ≤ 9223372036854775807 then
          some (.row pos m.next sz 0 (len + new.length), m.turn pos (.row e sz (els ++ new)))
        else if e' = e ∧ sz' = sz ∧ sz'' = sz ∧ off = 0 ∧ len + new.length ≤ els.length then
          some (.row pos gen sz 0 (len + new.length), m.put pos gen (.row e sz (els.take len ++ new ++ els.drop (len + new.length))))
        else none
      | _ => none
    | _ => none
def appendA (e sz bytes : Nat) (m : Mem) (s x : AV) : Option (AV × Mem) :=
  match elsOf m sz x with
  | none => none
  | some new => appendN e sz bytes m s new
def appendSA (e bytes : Nat) (m : Mem) (s : AV) : AV → Option (AV × Mem)
  | .str t => appendN e 1 bytes m s (bytesOf t)
  | _ => none
def boundsA (lo hi : Bool) (n : Nat) : List AV → Option (Int × Int)
  | [] => if lo = false ∧ hi = false then some (0, n) else none
  | [.int _ x] => if lo = true ∧ hi = false then some (x, n) else if lo = false ∧ hi = true then some (0, x) else none
  | [.int _ l, .int _ h] => if lo = true ∧ hi = true then some (l, h) else none
  | _ => none
def sliceA (lo hi : Bool) (sz : Nat) : List AV → Option AV
  | .str s :: rest => if sz = 0 then match boundsA lo hi s.size rest with
      | some (l, h) => if 0 ≤ l ∧ l ≤ h ∧ h ≤ s.size then some (.str (s.extract l.toNat h.toNat)) else none
      | none => none
    else none
  | .nilS :: rest => if sz = 0 then none else match boundsA lo hi 0 rest with
      | some (l, h) => if 0 ≤ l ∧ l ≤ h ∧ h ≤ 0 then some .nilS else none
      | none => none
  | .list p sz' els :: rest => if sz = 0 ∨ sz ≠ sz' then none else match boundsA lo hi els.length rest with
      | some (l, h) => if 0 ≤ l ∧ l ≤ h ∧ h ≤ els.length then some (.list p sz ((els.drop l.toNat).take (h.toNat - l.toNat))) else none
      | none => none
  | .row pos gen sz' off n :: rest => if sz = 0 ∨ sz ≠ sz' then none else match boundsA lo hi n rest with
      | some (l, h) => if 0 ≤ l ∧ l ≤ h ∧ h ≤ n then some (.row pos gen sz (off + l.toNat) (h.toNat - l.toNat)) else none
      | none => none
  | _ => none
def lenA (k : Nat) (x : AV) : Option AV :=
  match k with
  | 0 => match x with
    | .str s => some (.int .i64 s.size)
    | _ => none
  | 1 => match x with
    | .nilS => some (.int .i64 0)
    | .list _ _ els => some (.int .i64 els.length)
    | .row _ _ _ _ n => some (.int .i64 n)
    | _ => none
  | 2 => match x with
    | .nilS => some (.int .i64 0)
    | _ => none
  | _ => none
def lenMapA (m : Mem) : AV → Option AV
  | .const (.map none) => some (.int .i64 0)
  | .map pos gen => match m.obj pos gen with
    | some (.map kv) => some (.int .i64 kv.length)
    | _ => none
  | _ => none
def keyEq : AV → AV → Option Bool
  | .int k a, .int k' b => if k = k' then some (a == b) else none
  | .str a, .str b => some (a == b)
  | .bool a, .bool b => some (a == b)
  | _, _ => none
def findA (k : AV) : List (AV × AV) → Option (Option AV)
  | [] => some none
  | (k', v) :: l => match keyEq k k' with
    | some true => some (some v)
    | some false => findA k l
    | none => none
def updA (k v : AV) : List (AV × AV) → Option (List (AV × AV))
  | [] => some [(k, v)]
  | (k', v') :: l => match keyEq k k' with
    | some true => some ((k, v) :: l)
    | some false => (updA k v l).map ((k', v') :: ·)
    | none => none
def delA (k : AV) : List (AV × AV) → Option (List (AV × AV))
  | [] => some []
  | (k', v') :: l => match keyEq k k' with
    | some true => some l
    | some false => (delA k l).map ((k', v') :: ·)
    | none => none
def lookA (m : Mem) (x k : AV) : Option (Option AV) :=
  match x with
  | .const (.map none) => some none
  | .map pos gen => match m.obj pos gen with
    | some (.map kv) => findA k kv
    | _ => none
  | .kmap s v => match k with
    | .str t => if (s == t) = true then some (some v) else none
    | _ => none
  | _ => none
def isKey : SKind → AV → Bool
  | .int, .int .. => true
  | .str, .str _ => true
  | .bool, .bool _ => true
  | _, _ => false
def methChk (nm : String) (oks : List Nat) : AV → Option AV
  | .meth nm' (.iface t v) => if nm' = nm ∧ oks.contains t = true then some (.meth nm (.iface t v)) else none
  | _ => none
def nilCheckA : AV → Option AV
  | .ptr pos gen off => some (.ptr pos gen off)
  | .iptr p cs => some (.iptr p cs)
  | .rptr pos gen sz idx off => some (.rptr pos gen sz idx off)
  | .fn f cs => some (.fn f cs)
  | _ => none
def fieldAddrA (off : Nat) : AV → Option AV
  | .iptr p cs => if off ≤ cs.length then some (.iptr p (cs.drop off)) else none
  | .ptr pos gen o => some (.ptr pos gen (o + off))
  | .rptr pos gen sz idx o => some (.rptr pos gen sz idx (o + off))
  | _ => none
def indexAddrA (sz : Nat) (x : AV) (i : Int) : Option AV :=
  if 0 ≤ i then match x with
    | .list p sz' els => if sz = sz' then match els[i.toNat]? with
        | some cs => some (.iptr p cs)
        | none => none
      else none
    | .row pos gen sz' off n => if sz = sz' ∧ i < n then some (.rptr pos gen sz (off + i.toNat) 0) else none
    | _ => none
  else none
def nilOf : Bool → AV → Option Bool
  | true, .const (.pointer none) => some true
  | true, .ptr .. => some false
  | true, .iptr .. => some false
  | true, .rptr .. => some false
  | false, .const .nilIface => some true
  | false, .iface .. => some false
  | _, _ => none
def assertA (t : TypeId) (z : AV) : AV → Option AV
  | .iface t' x => some (if t' = t then .tuple [x, .bool true] else .tuple [z, .bool false])
  | .const .nilIface => some (.tuple [z, .bool false])
  | _ => none
def pairA : AV → Option (AV × AV)
  | .agg [x, y] => some (x, y)
  | _ => none
theorem pairA_some {v x y : AV} (h : pairA v = some (x, y)) : v = .agg [x, y] := by
  unfold pairA at h
  split at h
  · injection h with h; injection h with h1 h2; subst h1; subst h2; rfl
  · cases h
def isNilC : Bool → AV → Bool
  | true, .const (.pointer none) => true
  | false, .const .nilIface => true
  | _, _ => false
def kclass : SK → Nat
  | .load .. | .lookup .. | .bytesToStr | .lenMap => 1
  | .alloc _ | .allocT .. | .box _ | .buildRow .. | .mkMap | .mkRow .. | .growNil .. => 2
  | .store _ | .mapUpdate _ | .append .. | .appendS .. | .copy .. | .mapDelete _ | .clear _ => 3
  | _ => 0
def localK (k : SK) (xs : List AV) : Option AV :=
  match k, xs with
  | .mv, [x] => some x
  | .pick, [.bool c, a, b] => some (if c then a else b)
  | .build zero offs, vs => (fillA zero offs vs).map .agg
  | .nilCheck, [x] => nilCheckA x
  | .mkMeth nm, [x] => some (.meth nm x)
  | .nilCheckM nm oks, [x] => methChk nm oks x
  | .bin op, [x, y] => binA op x y
  | .eqBool neg, [.bool a, .bool b] => some (.bool (if neg then !(a == b) else a == b))
  | .eqAgg neg ks, [.agg xs, .agg ys] => (scalarsEq ks xs ys).map fun b => .bool (if neg then !b else b)
  | .eqPair neg kk, [x, y] => match pairA x, pairA y with
    | some (x0, x1), some (y0, y1) => (scalarsEq [kk, kk] [x0, x1] [y0, y1]).map fun b => .bool (if neg then !b else b)
    | _, _ => none
  | .un op, [x] => unA op x
  | .convInt k, [.int _ n] => some (.int k (k.wrap n))
  | .mkFn f, caps => some (.fn f caps)
  | .slice lo hi sz, xs => sliceA lo hi sz xs
  | .fieldAddr off, [x] => fieldAddrA off x
  | .field agg off sz, [.agg cs] =>
    if agg then (if off + sz ≤ cs.length then some (.agg ((cs.drop off).take sz)) else none)
    else cs[off]?
  | .indexAddr sz, [x, .int _ i] => indexAddrA sz x i
  | .indexArr n sz, [.ptr pos gen o, .int _ i] => if 0 ≤ i ∧ i < n then some (.ptr pos gen (o + i.toNat * sz)) else none
  | .index, [.str s, .int _ i] => if 0 ≤ i then (s[i.toNat]?).map fun b => .int .u8 b.toNat else none
  | .indexAgg n sz agg, [.agg cs, .int _ i] => if 0 ≤ i ∧ i < n then
      (if agg then (if i.toNat * sz + sz ≤ cs.length then some (.agg ((cs.drop (i.toNat * sz)).take sz)) else none) else cs[i.toNat * sz]?)
    else none
  | .extract i, [.tuple vs] => vs[i]?
  | .len k, [x] => lenA k x
  | .min2, [.int k a, .int k' b] => if k = k' then some (.int k (if b < a then b else a)) else none
  | .max2, [.int k a, .int k' b] => if k = k' then some (.int k (if b > a then b else a)) else none
  | .mkIface t, [x] => some (.iface t x)
  | .eqNil ptr neg, [x, y] => if isNilC ptr y then (nilOf ptr x).map fun b => .bool (if neg then !b else b) else none
  | .typeAssert t z, [x] => assertA t z x
  | _, _ => none
def byteOf : List AV → Option UInt8
  | [.int .u8 n] => some (UInt8.ofNat n.toNat)
  | _ => none
def readK (k : SK) (m : Mem) (xs : List AV) : Option AV :=
  match k, xs with
  | .load agg sz, [a] => loadA agg sz m a
  | .lookup kk zero ok, [x, k] => if isKey kk k then (lookA m x k).map fun r => if ok then .tuple [r.getD zero, .bool r.isSome] else r.getD zero else none
  | .lenMap, [x] => lenMapA m x
  | .bytesToStr, [x] => match elsOf m 1 x with
    | some els => (els.mapM byteOf).map fun bs => .str ⟨bs.toArray⟩
    | none => none
  | _, _ => none
def growA (e : Nat) (zero : List AV) (bytes : Nat) : AV → AV → Option ((Nat → Nat → AV) × AObj)
  | .nilS, .int .i64 l =>
    if zero.all AV.one ∧ 0 < zero.length ∧ 0 < l ∧ l.toNat * bytes ≤ 140737488355328 ∧ l ≤ 9223372036854775807 then some (fun p g => .row p g zero.length 0 l.toNat, .row e zero.length (List.replicate l.toNat zero)) else none
  | _, _ => none
def allocK (k : SK) (xs : List AV) : Option ((Nat → Nat → AV) × AObj) :=
  match k, xs with
  | .alloc zero, [] => if zero.all AV.one then some (fun p g => .ptr p g 0, .cells zero) else none
  | .allocT t zero, [] => if zero.all AV.one ∧ 0 < zero.length then some (fun p g => .rptr p g zero.length 0 0, .row t zero.length [zero]) else none
  | .box sz, [x] => if x.cells.length = sz ∧ x.cells.all AV.one then some (fun p g => .ptr p g 0, .cells x.cells) else none
  | .buildRow e sz n zero idxs, vs =>
    match fillA ((List.replicate n zero).flatten) (idxs.map fun i => (i * sz, sz)) vs with
    | some cs => if cs.length = n * sz ∧ cs.all AV.one then some (fun p g => .row p g sz 0 n, .row e sz ((List.range n).map fun i => (cs.drop (i * sz)).take sz)) else none
    | none => none
  | .mkMap, [] => some (fun p g => .map p g, .map [])
  | .mkRow e zero bytes, [.int .i64 l, .int .i64 c] =>
    if zero.all AV.one ∧ 0 < zero.length ∧ 0 ≤ l ∧ l = c ∧ l.toNat * bytes ≤ 140737488355328 ∧ l ≤ 9223372036854775807 then some (fun p g => .row p g zero.length 0 l.toNat, .row e zero.length (List.replicate l.toNat zero)) else none
  | .growNil e zero bytes, [s, n] => growA e zero bytes s n
  | _, _ => none
def writeK (k : SK) (m : Mem) (xs : List AV) : Option (AV × Mem) :=
  match k, xs with
  | .store sz, [a, v] => (storeA sz m a v).map fun m => (.any, m)
  | .mapUpdate kk, [.map pos gen, k, v] => if isKey kk k then match m.obj pos gen with
      | some (.map kv) => match updA k v kv with
        | some kv' => some (.any, m.put pos gen (.map kv'))
        | none => none
      | _ => none
    else none
  | .mapDelete kk, [.map pos gen, k] => if isKey kk k then match m.obj pos gen with
      | some (.map kv) => match delA k kv with
        | some kv' => some (.tuple [], m.put pos gen (.map kv'))
        | none => none
      | _ => none
    else none
  | .clear zero, [.row pos gen sz off n] => match m.obj pos gen with
    | some (.row e sz' els) =>
      if sz = 1 ∧ sz' = 1 ∧ zero.length = 1 ∧ zero.all AV.one ∧ off + n ≤ els.length then some (.tuple [], m.put pos gen (.row e 1 (els.take off ++ List.replicate n zero ++ els.drop (off + n)))) else none
    | _ => none
  | .append e sz bytes, [s, x] => appendA e sz bytes m s x
  | .appendS e bytes, [s, x] => appendSA e bytes m s x
  | .copy e sz, [.row pos gen sz' off n, x] => match srcOf m sz x, m.obj pos gen with
    | some new, some (.row e' sz'' els) =>
      if e' = e ∧ sz' = sz ∧ sz'' = sz ∧ off + n ≤ els.length then
        some (.int .i64 (min new.length n : Nat), m.put pos gen (.row e sz (els.take off ++ new.take (min new.length n) ++ els.drop (off + min new.length n))))
      else none
    | _, _ => none
  | _, _ => none
def nilPoss : AV → Option (List Bool)
  | .nilS => some [true]
  | .list _ _ els => some (if els.isEmpty then [true, false] else [false])
  | .row _ _ _ _ n => some (if n = 0 then [true, false] else [false])
  | _ => none
def AllN : List (AV × Mem) → (AV → Mem → Prop) → Prop
  | [], _ => True
  | (v, m) :: l, k => k v m ∧ AllN l k
def zipB : List (AV × AV) → List Nat → List (AV × AV × Nat)
  | (k, v) :: kv, b :: bs => (k, v, b) :: zipB kv bs
  | _, _ => []
def BornOk (bs : List Nat) (clock : Nat) : Prop := bs.Pairwise (· < ·) ∧ ∀ b ∈ bs, b < clock
def runN (k : NK) (m : Mem) (xs : List AV) : Option ((AV → Mem → Prop) → Prop) :=
  match k, xs with
  | .isNil neg, [x, .nilS] => (nilPoss x).map fun l => AllN (l.map fun b => (.bool (if neg then !b else b), m))
  | .rangeM, [.map pos gen] => match m.obj pos gen with
    | some (.emap _ clock) => some (AllN [(.ptr m.store.length m.next 0, m.new (.iter pos gen clock [] clock))])
    | some (.map kv) => some fun Q => ∀ (bs : List Nat) (clock : Nat), BornOk bs clock → bs.length = kv.length → Q (.ptr m.store.length m.next 0) ((m.put pos gen (.emap (zipB kv bs) clock)).new (.iter pos gen clock [] clock))
    | _ => none
  | .next, [.ptr ip ig 0] => match m.obj ip ig with
    | some (.iter pos gen since seen last) => match m.obj pos gen with
      | some (.emap es clock) =>
        if since ≤ last ∧ es.all (fun e => e.2.2 < since) then
          some (AllN (if (es.filter fun e => !seen.contains e.2.2).isEmpty then [(.tuple [.bool false], m)]
            else (es.filter fun e => !seen.contains e.2.2).map fun e => (.tuple [.bool true, e.1, e.2.1], m.put ip ig (.iter pos gen since (seen ++ [e.2.2]) clock))))
        else none
      | _ => none
    | _ => none
  | .entry, [.ptr ip ig 0] => match m.obj ip ig with
    | some (.iter pos gen _ seen last) => match m.obj pos gen, seen.getLast? with
      | some (.emap es clock), some b => if clock = last then (es.find? fun e => e.2.2 == b).map fun e => AllN [(.tuple [e.1, e.2.1], m)] else none
      | _, _ => none
    | _ => none
  | _, _ => none
def runK (k : SK) (m : Mem) (xs : List AV) : Option (AV × Mem) :=
  match kclass k with
  | 0 => (localK k xs).map fun v => (v, m)
  | 1 => (readK k m xs).map fun v => (v, m)
  | 2 => (allocK k xs).map fun (f, o) => (f m.store.length m.next, m.new o)
  | _ => writeK k m xs
theorem run_local {k : SK} {m m' : Mem} {xs : List AV} {v : AV} (hc : kclass k = 0) (h : runK k m xs = some (v, m')) : localK k xs = some v ∧ m' = m := by
  simp only [runK, hc, Option.map_eq_some_iff, Prod.mk.injEq] at h
  obtain ⟨v', h1, rfl, rfl⟩ := h
  exact ⟨h1, rfl⟩
theorem run_read {k : SK} {m m' : Mem} {xs : List AV} {v : AV} (hc : kclass k = 1) (h : runK k m xs = some (v, m')) : readK k m xs = some v ∧ m' = m := by
  simp only [runK, hc, Option.map_eq_some_iff, Prod.mk.injEq] at h
  obtain ⟨v', h1, rfl, rfl⟩ := h
  exact ⟨h1, rfl⟩
theorem run_alloc {k : SK} {m m' : Mem} {xs : List AV} {v : AV} (hc : kclass k = 2) (h : runK k m xs = some (v, m')) : ∃ f o, allocK k xs = some (f, o) ∧ v = f m.store.length m.next ∧ m' = m.new o := by
  simp only [runK, hc, Option.map_eq_some_iff, Prod.mk.injEq] at h
  obtain ⟨⟨f, o⟩, h1, h2, h3⟩ := h
  exact ⟨f, o, h1, h2.symm, h3.symm⟩
theorem run_write {k : SK} {m m' : Mem} {xs : List AV} {v : AV} (hc : kclass k = 3) (h : runK k m xs = some (v, m')) : writeK k m xs = some (v, m') := by
  simpa only [runK, hc] using h
end Go.Pm
