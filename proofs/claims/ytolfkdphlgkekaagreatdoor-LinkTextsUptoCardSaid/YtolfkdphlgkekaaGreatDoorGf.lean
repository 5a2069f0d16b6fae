/- ZkC16: contracts: slices.Grow and slices.Concat of objects; whether all are valid, as the linker says it. -/
import Derived.Test.YtolfkdphlgkekaaGreatDoorGe
import Derived.Test.YtolfkdphlgkekaaGreatDoorGd
import Derived.Shelf.SlSortCmp.WholeK
import Derived.Test.YtolfkdphlgkekaaGreatDoorGa
import Derived.Shelf.SlSortCmp.NoneTotal
namespace Go.Pm
open Go Go.Proofs
attribute [-simp] List.getElem?_map

def deck0 : List AV := [.str ⟨#[]⟩, .str ⟨#[]⟩, .nilS, .nilS, .nilS]

theorem call124 (n : Nat) (m : Mem) (h0 : 0 < n) (hn : n ≤ 4000000) : ACalls Zk.pg 124 [.nilS, .int .i64 n] m fun out m' => out = .ret (.row m.store.length m.next 5 0 0) ∧ m' = m.new (.row 27 5 (List.replicate n deck0)) := by
  refine ok124.acalls (by simp) ?_
  have hw : IntKind.i64.wrap n = n := wrap64 (by omega) (by omega)
  have hz : IntKind.i64.wrap 0 = 0 := wrap64 (by omega) (by omega)
  have hf : ltI n 0 = false := ltI_f.2 (by omega)
  have ht : ltI 0 n = true := ltI_t.2 (by omega)
  have hb : (n * 104 ≤ 140737488355328 ∧ (n : Int) ≤ 9223372036854775807) := ⟨by omega, by omega⟩
  simp [c124, cr124, hw, hz, hf, ht, hb, h0, deck0, sliceA, boundsA]

theorem call124z (n : Nat) (m : Mem) (h0 : n = 0) : ACalls Zk.pg 124 [.nilS, .int .i64 n] m fun out m' => out = .ret .nilS ∧ m' = m := by
  subst h0
  refine ok124.acalls (by simp) ?_
  have hz : IntKind.i64.wrap 0 = 0 := wrap64 (by omega) (by omega)
  have hf : ltI 0 0 = false := ltI_f.2 (by omega)
  simp [c124, cr124, hf, hz]

def libP (x : Bool × List Deck) : List AV := [.list x.1 5 (x.2.map Deck.av)]
def allOf (xs : List (Bool × List Deck)) : List Deck := (xs.map (·.2)).flatten

@[simp] theorem noref_libP : ∀ xs : List (Bool × List Deck), norefLL (xs.map libP) = true
  | [] => rfl
  | x :: xs => by simp only [List.map_cons, norefLL, noref_libP xs, libP, norefL, AV.noref, noref_decks, Bool.and_self]

theorem allOf_take (xs : List (Bool × List Deck)) {i : Nat} (h : i < xs.length) : allOf (xs.take (i + 1)) = allOf (xs.take i) ++ (ix xs i).2 := by
  unfold allOf
  rw [List.take_add_one, List.map_append, List.flatten_append]
  congr 1
  simp [h, ix, List.getD]
theorem allOf_le (xs : List (Bool × List Deck)) (i : Nat) : (allOf (xs.take i)).length ≤ (allOf xs).length := by
  have : allOf xs = allOf (xs.take i) ++ allOf (xs.drop i) := by
    unfold allOf
    rw [← List.flatten_append, ← List.map_append, List.take_append_drop]
  rw [this, List.length_append]; omega
theorem cat_append (A B : List Deck) (n g nx : Nat) (q : Bool) (h : A.length + B.length ≤ n) (hn : n ≤ 4000000) :
    ∃ g' nx', appendA 27 5 104 ⟨[(g, .row 27 5 (A.map Deck.av ++ List.replicate (n - A.length) deck0))], nx⟩ (.row 0 g 5 0 A.length) (.list q 5 (B.map Deck.av))
      = some (.row 0 g' 5 0 (A ++ B).length, ⟨[(g', .row 27 5 ((A ++ B).map Deck.av ++ List.replicate (n - (A ++ B).length) deck0))], nx'⟩) := by
  have hlen : (A.map Deck.av ++ List.replicate (n - A.length) deck0).length = n := by simp; omega
  by_cases hA : A.length = n
  · have hB : B = [] := List.eq_nil_of_length_eq_zero (by omega)
    subst hB
    refine ⟨nx, nx + 1, ?_⟩
    unfold appendA appendN
    simp only [elsOf, Mem.obj, if_true, List.getElem?_cons_zero, hlen]
    rw [if_pos ⟨trivial, trivial, trivial, trivial, hA, by simp; omega, by simp; omega⟩]
    simp [Mem.turn]
  · refine ⟨g, nx, ?_⟩
    unfold appendA appendN
    simp only [elsOf, Mem.obj, if_true, List.getElem?_cons_zero, hlen]
    rw [if_neg (fun h => hA h.2.2.2.2.1), if_pos ⟨trivial, trivial, trivial, trivial, by simp; omega⟩]
    have e1 : (A.map Deck.av ++ List.replicate (n - A.length) deck0).take A.length = A.map Deck.av := List.take_left' (by simp)
    have e2 : (A.map Deck.av ++ List.replicate (n - A.length) deck0).drop (A.length + (B.map Deck.av).length) = List.replicate (n - (A ++ B).length) deck0 := by
      rw [← List.drop_drop, List.drop_left' (by simp), List.drop_replicate]
      congr 1
      simp; omega
    rw [e1, e2]
    simp [Mem.put]

theorem call88 (p : Bool) (xs : List (Bool × List Deck)) (hl : xs.length ≤ 4000000) (hs : (allOf xs).length ≤ 4000000) :
    PCalls Zk.pg 88 [.list p 1 (xs.map libP)] fun out => out = .ret (.list true 5 ((allOf xs).map Deck.av)) := by
  refine ok88.pcalls (by simp) ?_
  simp [c88]
  refine wpS_loop (ι := Nat) (fun i => [(0, .list p 1 (xs.map libP)), (3, .int .i64 (allOf (xs.take i)).length), (9, .list p 1 (xs.map libP)), (10, .int .i64 xs.length), (11, .int .i64 i)]) (fun _ => ⟨[], 0⟩) (fun i => xs.length - i)
    (fun i => i ≤ xs.length) 0 (by simp) (Env.le_of (by simp [allOf])) (by simp) ?_
  intro i hi
  have hw : IntKind.i64.wrap (i + 1) = i + 1 := wrap64 (by omega) (by omega)
  simp
  refine br_cond rfl (fun h => ?_) (fun h => ?_)
  · have hlt : i < xs.length := by have := ltI_t.1 h; omega
    have e1 := allOf_take xs hlt
    have e2 := allOf_le xs (i + 1)
    have e3 : (allOf (xs.take (i + 1))).length = (allOf (xs.take i)).length + (ix xs i).2.length := by rw [e1, List.length_append]
    have hws : IntKind.i64.wrap ((allOf (xs.take i)).length + (ix xs i).2.length) = (allOf (xs.take (i + 1))).length := by rw [e3]; rw [wrap64 (by omega) (by omega)]; simp
    have hneg : ltI (allOf (xs.take (i + 1))).length 0 = false := ltI_f.2 (by omega)
    simp [h, idxM, libP, hws, hneg, hw]
    exact ⟨i + 1, by omega, by omega, Env.le_of (by simp), Mem.le_of rfl (by simp)⟩
  · have hil : i = xs.length := by have := ltI_f.1 h; omega
    subst hil
    rw [List.take_length]
    simp [h]
    generalize hn : (allOf xs).length = n at *
    have step : ∀ fs Q, (∀ g nx, wpS Zk.pg Zk.imp .skip fs Q [(0, .list p 1 (xs.map libP)), (6, .row 0 g 5 0 n)] ⟨[(g, .row 27 5 ((allOf xs).map Deck.av))], nx⟩) → True := fun _ _ _ => trivial
    have loop2 : ∀ (e : Env) (m : Mem) a fs Q, Sim [(6, .row 0 0 5 0 0), (25, .list p 1 (xs.map libP)), (26, .int .i64 xs.length), (27, .int .i64 0)] ⟨[(0, .row 27 5 (List.replicate n deck0))], 1⟩ e m →
        (∀ i g nx, i ≤ xs.length → wpS Zk.pg Zk.imp a (.loop (fun e m => ∃ s' : Nat × Nat × Nat, s'.1 ≤ xs.length ∧ xs.length - s'.1 < xs.length - i ∧ Sim [(6, .row 0 s'.2.1 5 0 (allOf (xs.take s'.1)).length), (25, .list p 1 (xs.map libP)), (26, .int .i64 xs.length), (27, .int .i64 s'.1)]
          ⟨[(s'.2.1, .row 27 5 ((allOf (xs.take s'.1)).map Deck.av ++ List.replicate (n - (allOf (xs.take s'.1)).length) deck0))], s'.2.2⟩ e m) :: fs) Q [(6, .row 0 g 5 0 (allOf (xs.take i)).length), (25, .list p 1 (xs.map libP)), (26, .int .i64 xs.length), (27, .int .i64 i)]
          ⟨[(g, .row 27 5 ((allOf (xs.take i)).map Deck.av ++ List.replicate (n - (allOf (xs.take i)).length) deck0))], nx⟩) → wpS Zk.pg Zk.imp (.loop a) fs Q e m := by
      intro e m a fs Q hsim hstep
      exact wpS_loopS (ι := Nat × Nat × Nat) (fun s => [(6, .row 0 s.2.1 5 0 (allOf (xs.take s.1)).length), (25, .list p 1 (xs.map libP)), (26, .int .i64 xs.length), (27, .int .i64 s.1)])
        (fun s => ⟨[(s.2.1, .row 27 5 ((allOf (xs.take s.1)).map Deck.av ++ List.replicate (n - (allOf (xs.take s.1)).length) deck0))], s.2.2⟩) (fun s => xs.length - s.1) (fun s => s.1 ≤ xs.length) (0, 0, 1) (Nat.zero_le _) (by simpa [allOf] using hsim) (fun s hs => hstep s.1 s.2.1 s.2.2 hs)
    rcases Nat.eq_zero_or_pos n with h0 | h0
    refine xcall_a (call124z n _ h0) ?_
    simp
    refine loop2 _ _ _ _ _ (by rw [h0]; exact Sim.trans (Sim.of_le (Env.le_of (by simp)) (Mem.le_of rfl (by simp))) (Sim.nil_env 6 27 (sz := 5) (by omega) (by simp))) ?_
    rotate_left
    refine xcall_a (call124 n _ h0 hs) ?_
    simp
    refine loop2 _ _ _ _ _ (Sim.of_le (Env.le_of (by simp)) (Mem.le_of rfl (by simp))) ?_
    all_goals clear step loop2
    all_goals intro i g nx hi
    all_goals have hw : IntKind.i64.wrap (i + 1) = i + 1 := wrap64 (by omega) (by omega)
    all_goals simp
    all_goals refine br_cond rfl (fun h => ?_) (fun h => ?_)
    all_goals simp [h]
    iterate 2
      · have hlt : i < xs.length := by have := ltI_t.1 h; omega
        have e1 := allOf_take xs hlt
        have e2 := allOf_le xs (i + 1)
        rw [e1, List.length_append] at e2
        obtain ⟨g', nx', ha⟩ := cat_append (allOf (xs.take i)) (ix xs i).2 n g nx (ix xs i).1 (by omega) hs
        simp [h, idxM, libP, ha, hw]
        exact ⟨i + 1, by omega, by omega, g', nx', Sim.of_le (Env.le_of (by simp [e1])) (Mem.le_of rfl (by simp [e1]))⟩
      · have hil : i = xs.length := by have := ltI_f.1 h; omega
        subst hil
        rw [List.take_length, hn]
        simp [cr88, ← hn]

theorem all_mid {α : Type} [Inhabited α] {p : α → Bool} {l : List α} {i : Nat} (h : i < l.length) (hf : p (ix l i) = false) : l.all p = false := by
  cases ha : l.all p with
  | false => rfl
  | true => rw [List.all_eq_true] at ha; rw [ha _ (ix_mem h)] at hf; cases hf

theorem call33 (p q : Bool) (l : List Deck) (libs : List (List Deck)) (hl : SmallL l) (hb : SmallLL libs) (hlib : libs.length ≤ 2000000) (hsum : l.length + libs.flatten.length ≤ 2000000) :
    PCalls Zk.pg 33 [.list p 5 (l.map Deck.av), .list q 1 (libs.map libAV)] fun out => out = .ret (.bool (allF l libs)) := by
  refine ok33.pcalls (by simp) ?_
  have hc : (1 + libs.length) * 24 ≤ 140737488355328 ∧ 1 + libs.length ≤ 9223372036854775807 := ⟨by omega, by omega⟩
  obtain ⟨xs, hxs⟩ : ∃ xs : List (Bool × List Deck), xs = (p, l) :: libs.map fun x => (true, x) := ⟨_, rfl⟩
  have hx1 : [AV.list p 5 (l.map Deck.av)] :: libs.map libAV = xs.map libP := by
    rw [hxs, List.map_cons, List.map_map]; rfl
  have hx2 : allOf xs = l ++ libs.flatten := by
    rw [hxs]
    unfold allOf
    rw [List.map_cons, List.flatten_cons, List.map_map]
    congr 2
    exact List.map_id _
  have hxl : xs.length = 1 + libs.length := by rw [hxs]; simp; omega
  have hall : allF l libs = (l ++ libs.flatten).all deckOk := by
    unfold allF
    rw [List.all_append]
    congr 1
    induction libs with
    | nil => rfl
    | cons x libs ih => simp [List.all_append] at ih ⊢
  have hds : ∀ o ∈ l ++ libs.flatten, o.Small := by
    intro o ho
    rcases List.mem_append.1 ho with ho | ho
    · exact hl.each o ho
    · obtain ⟨x, hx, ho⟩ := List.mem_flatten.1 ho
      exact (hb.each x hx).each o ho
  simp [c33, appendA, hc, List.range_succ]
  rw [hx1, show 1 + libs.length = xs.length from hxl.symm]
  refine xcall_p (call88 false xs (by omega) (by rw [hx2, List.length_append]; omega)) (by simp) ?_
  rw [hx2]
  rw [hall]
  have hdl : (l ++ libs.flatten).length ≤ 2000000 := by rw [List.length_append]; exact hsum
  generalize hd : l ++ libs.flatten = ds at *
  simp
  refine wpS_loopS (ι := Nat × Nat) (fun s => [(11, .list true 5 (ds.map Deck.av)), (12, .int .i64 ds.length), (13, .int .i64 s.1)]) (fun s => ⟨[], s.2⟩) (fun s => ds.length - s.1)
    (fun s => s.1 ≤ ds.length ∧ ds.all deckOk = (ds.drop s.1).all deckOk) (0, 2) (by simp) (Sim.of_le (Env.le_of (by simp)) (Mem.le_of rfl (by simp))) ?_
  intro ⟨i, nx⟩ ⟨hi, hia⟩
  simp only at hi hia
  have hw : IntKind.i64.wrap (i + 1) = i + 1 := wrap64 (by omega) (by omega)
  simp
  refine br_cond rfl (fun h => ?_) (fun h => ?_)
  · have hlt : i < ds.length := by have := ltI_t.1 h; omega
    rw [drop_ix hlt, List.all_cons] at hia
    simp [h, idxM, deck_take]
    refine xcall_p (call27 (ix ds i) (hds _ (ix_mem hlt))) (by simp) ?_
    simp
    refine br_cond rfl (fun h1 => ?_) (fun h1 => ?_)
    · have h1' : deckOk (ix ds i) = false := by simpa using h1
      rw [h1'] at hia
      simp [cr33, hia]
    · have h1' : deckOk (ix ds i) = true := by simpa using h1
      rw [h1', Bool.true_and] at hia
      simp [hw]
      exact ⟨i + 1, ⟨by omega, hia⟩, by omega, nx + 1, Sim.of_le (Env.le_of (by simp)) (Mem.le_of rfl (by simp))⟩
  · have hil : i = ds.length := by have := ltI_f.1 h; omega
    rw [hil, List.drop_length] at hia
    simp [h, cr33, hia]
end Go.Pm

/- ZkL: the linker's state, as values and in memory. -/
namespace Go.Pm
open Go Go.Proofs
attribute [-simp] List.getElem?_map

section
variable {α : Type} (p q : List α) (k : Nat) (x : α)
@[simp] theorem preL_get0 : (p ++ q)[p.length]? = q[0]? := by simp [List.getElem?_append_right]
@[simp] theorem preL_get : (p ++ q)[p.length + k]? = q[k]? := by simp [List.getElem?_append_right]
@[simp] theorem preL_set0 : (p ++ q).set p.length x = p ++ q.set 0 x := by simp
@[simp] theorem preL_set : (p ++ q).set (p.length + k) x = p ++ q.set k x := by simp
@[simp] theorem preL_take : (p ++ q).take (p.length + k) = p ++ q.take k := by rw [List.take_append, List.take_of_length_le (by omega)]; simp
end

theorem Sim.after {e'' e' e : Env} {m'' m' m : Mem} (h1 : Sim e' m' e m) (h2 : Sim e'' m'' e' m') : Sim e'' m'' e m := h2.trans h1

theorem ACalls.forget {P : Prg} {f : FuncId} {xs : List AV} {m : Mem} {R : AOut → Mem → Prop} (h : ACalls P f xs m fun out m' => ∃ m'', Mem.le m'' m' ∧ R out m'') : ACalls P f xs m R :=
  h.sim fun out m' ⟨m'', h1, h2⟩ => ⟨out, m'', h2, SimO.forget h1⟩

/-- Names with their places, as a map. -/
def namesM (l : List DDef) : List (AV × AV) := l.map fun d => (.str d.name, .int .i64 d.at_)
theorem findN (n : ByteArray) : ∀ l : List DDef, findA (.str n) (namesM l) = some ((outerF l n).map (AV.int .i64))
  | [] => rfl
  | d :: l => by
    have ih := findN n l
    unfold namesM outerF at ih ⊢
    rw [List.map_cons, findA]
    simp only [keyEq, beq_eqS, List.find?_cons]
    rcases Bool.eq_false_or_eq_true (eqS d.name n) with h | h
    · simp [h]
    · simpa [h] using ih
theorem updN (n : ByteArray) (v : Int) : ∀ l : List DDef, outerF l n = none → updA (.str n) (.int .i64 v) (namesM l) = some (namesM (l ++ [⟨n, v⟩]))
  | [], _ => rfl
  | d :: l, h => by
    have hd : eqS d.name n = false := by
      rcases Bool.eq_false_or_eq_true (eqS d.name n) with h1 | h1
      · simp [outerF, h1] at h
      · exact h1
    have hl : outerF l n = none := by simpa [outerF, hd] using h
    have ih := updN n v l hl
    unfold namesM at ih ⊢
    rw [List.map_cons, updA]
    simp only [keyEq, beq_eqS, hd]
    rw [ih]; rfl

/-- What the linker has put together so far. -/
structure LSt where
  objs : List Deck
  places : List DDef
  nmap : List DDef
  own : List ByteArray
  defs : List DDef
  lines : List DLine
  end_ : Int

/-- Generations: of the first object (two maps and the struct), of the rows. -/
structure LG where
  a : Nat
  o : Nat
  n : Nat
  d : Nat
  l : Nat

def lkCells (L : Nat) (base : Int) (G : LG) (s : LSt) : List AV :=
  [.int .i64 base, .str ⟨#[]⟩, .row (L + 5) G.d 2 0 s.defs.length, .row (L + 6) G.l 2 0 s.lines.length, .row (L + 4) G.n 2 0 s.places.length, .row (L + 3) G.o 5 0 s.objs.length, .map L G.a, .map (L + 1) (G.a + 1), .int .i64 s.end_]
/-- The linker's objects behind L others. -/
def lkObjs (L : Nat) (base : Int) (G : LG) (s : LSt) : List (Nat × AObj) :=
  [(G.a, .map (namesM s.nmap)), (G.a + 1, .map (setS s.own)), (G.a + 2, .cells (lkCells L base G s)),
   (G.o, .row 27 5 (s.objs.map Deck.av)), (G.n, .row 65 2 (s.places.map DDef.av)), (G.d, .row 65 2 (s.defs.map DDef.av)), (G.l, .row 79 2 (s.lines.map DLine.av))]

def LSt.start (base : Int) : LSt := ⟨[], [], [], [], [], [], base⟩

def upF (n : Int) : Int := (n + 7) / 8 * 8

/-- The names that an object defines. -/
def putNames (at_ : Int) (once : Bool) : List DDef → LSt → Except ByteArray LSt
  | [], s => .ok s
  | d :: ds, s => if (outerF s.nmap d.name).isSome then (if once then .error d.name else putNames at_ once ds s)
    else putNames at_ once ds { s with nmap := s.nmap ++ [⟨d.name, at_ + d.at_⟩], defs := s.defs ++ [⟨d.name, at_ + d.at_⟩] }
def putL (once : Bool) (s : LSt) (o : Deck) : Except ByteArray LSt :=
  if once && ((outerF s.nmap o.name).isSome || hasS s.own o.name) then .error o.name else
  match putNames (upF s.end_) once (linkDefs o) { s with own := addS s.own o.name, objs := s.objs ++ [o], places := s.places ++ [⟨o.name, upF s.end_⟩] } with
  | .error n => .error n
  | .ok s' => .ok { s' with lines := s'.lines ++ o.lines.map (fun x => ⟨upF s.end_ + x.at_, x.stmt⟩), end_ := upF s.end_ + o.code.size }

structure Deck.Fit (o : Deck) : Prop where
  small : o.Small
  code : o.code.size ≤ 20000
  defs : ∀ d ∈ o.defs, 0 ≤ d.at_ ∧ d.at_ ≤ 1048576
  lines : ∀ d ∈ o.lines, 0 ≤ d.at_ ∧ d.at_ ≤ 1048576

/-- Numbers that the linker reckons with are small. -/
structure LSt.Small (s : LSt) : Prop where
  objs : s.objs.length ≤ 2000000
  fit : ∀ o ∈ s.objs, o.Fit
  places : s.places.length = s.objs.length
  defs : s.defs.length ≤ s.objs.length * 1048577
  lines : s.lines.length ≤ s.objs.length * 1048576
  end0 : 0 ≤ s.end_
  end1 : s.end_ ≤ 65536 + s.objs.length * 20008

theorem call70 (base : Int) (pre : List (Nat × AObj)) (nx : Nat) : ACalls Zk.pg 70 [.int .i64 base, .nilS] ⟨pre, nx⟩ fun out m => out = .ret (.ptr (pre.length + 2) (nx + 2) 0) ∧
    m = ⟨pre ++ lkObjs pre.length base ⟨nx, nx + 3, nx + 4, nx + 5, nx + 6⟩ (.start base), nx + 7⟩ := by
  refine ACalls.sim (R := fun out m => out = .ret (.ptr (pre.length + 2) (nx + 2) 0) ∧ m = ⟨pre ++ [(nx, .map []), (nx + 1, .map []), (nx + 2, .cells [.int .i64 base, .str ⟨#[]⟩, .nilS, .nilS, .nilS, .nilS, .map pre.length nx, .map (pre.length + 1) (nx + 1), .int .i64 base])], nx + 3⟩) ?_ ?_
  · refine ok70.acalls (by simp) ?_
    have hf : ltI 0 0 = false := ltI_f.2 (by omega)
    simp [c70]
    refine wpS_loop (ι := Unit) (fun _ => [(5, .ptr (pre.length + 2) (nx + 2) 0), (15, .nilS), (16, .int .i64 0), (17, .int .i64 0)]) (fun _ => ⟨pre ++ [(nx, .map []), (nx + 1, .map []), (nx + 2, .cells [.int .i64 base, .str ⟨#[]⟩, .nilS, .nilS, .nilS, .nilS, .map pre.length nx, .map (pre.length + 1) (nx + 1), .int .i64 base])], nx + 3⟩) (fun _ => 0) (fun _ => True) () trivial (Env.le_of (by simp)) (by simp) ?_
    intro _ _
    simp [hf, cr70]
  · rintro out m ⟨rfl, rfl⟩
    refine ⟨_, _, ⟨rfl, rfl⟩, ?_⟩
    have nilAt : ∀ (a b : Nat × AObj) (g : Nat) (vs : List AV) (rest : List (Nat × AObj)) (n i et : Nat) {sz : Nat}, 0 < sz → vs[i]? = some .nilS → ∀ out,
        SimO out ⟨pre ++ a :: b :: (g, .cells (vs.set i (.row (pre.length + (3 + rest.length)) n sz 0 0))) :: (rest ++ [(n, .row et sz [])]), n + 1⟩ out ⟨pre ++ a :: b :: (g, .cells vs) :: rest, n⟩ := by
      intro a b g vs rest n i et sz hsz hi out
      have h := SimO.nil_cell (out := out) (m := ⟨pre ++ a :: b :: (g, .cells vs) :: rest, n⟩) (pos := pre.length + 2) (g := g) i et hsz (by rw [preL_get]; rfl) hi
      have e : (pre ++ a :: b :: (g, AObj.cells vs) :: rest).length = pre.length + (3 + rest.length) := by simp; omega
      simp only [Mem.new, Mem.put, e, List.append_assoc, preL_set] at h
      exact h
    exact SimO.trans (nilAt _ _ _ _ [_, _, _] (nx + 6) 3 79 (by omega) rfl _) (SimO.trans (nilAt _ _ _ _ [_, _] (nx + 5) 2 65 (by omega) rfl _) (SimO.trans (nilAt _ _ _ _ [_] (nx + 4) 4 65 (by omega) rfl _) (nilAt _ _ _ _ [] (nx + 3) 5 27 (by omega) rfl _)))
end Go.Pm

/- ZkC17: contracts: an object is put behind the others. -/
namespace Go.Pm
open Go Go.Proofs
attribute [-simp] List.getElem?_map

theorem linkDefs_len (o : Deck) : (linkDefs o).length ≤ o.defs.length + 1 := by unfold linkDefs; split <;> simp
theorem linkDefs_fit {o : Deck} (h : o.Fit) : ∀ d ∈ linkDefs o, 0 ≤ d.at_ ∧ d.at_ ≤ 1048576 := by
  intro d hd
  unfold linkDefs at hd
  split at hd
  · exact h.defs d hd
  · rcases List.mem_cons.1 hd with rfl | hd
    · exact ⟨Int.le_refl _, by simp⟩
    · exact h.defs d hd

def wrongV (n : ByteArray) : AV := .iface 138 (.agg [.int .i64 6, .str n])

theorem postA_norm {rs : List Res} {R : AOut → Mem → Prop} {e : Env} {m : Mem} : postA rs R .norm e m = ∃ v, resA rs e m = some v ∧ R (.ret v) m := rfl
attribute [simp] updAdd findN nilCheckA postA_norm

def SC.fst : SC → SC
  | .seq a _ => a
  | s => s
def SC.snd : SC → SC
  | .seq _ b => b
  | s => s

def r27 : SC := c71.snd.snd
theorem p27 : c71 = .seq c71.fst (.seq c71.snd.fst r27) := rfl

/-- What a call of put leaves. -/
def put27 (pre : List (Nat × AObj)) (base : Int) (G : LG) (once : Bool) (s : LSt) (o : Deck) (out : AOut) (m : Mem) : Prop := match putL once s o with
  | .ok s' => out = .ret (.tuple []) ∧ ∃ o' n' d' l' nx', m = ⟨pre ++ lkObjs pre.length base ⟨G.a, o', n', d', l'⟩ s', nx'⟩
  | .error n => out = .panic (wrongV n) ∧ ∃ nx', m = ⟨pre, nx'⟩

theorem le_pre (pre q : List (Nat × AObj)) (k : Nat) : Mem.le ⟨pre, k⟩ ⟨pre ++ q, k⟩ := ⟨rfl, pre.length, by simp⟩

set_option maxHeartbeats 4000000 in
theorem rest27 (pre : List (Nat × AObj)) (base : Int) (G : LG) (s : LSt) (o : Deck) (once : Bool) (nx : Nat) (hs : s.Small) (ho : o.Fit) (x7 : AV) (hput : ∀ out m, (match putNames (upF s.end_) once (linkDefs o) { s with own := addS s.own o.name, objs := s.objs ++ [o], places := s.places ++ [⟨o.name, upF s.end_⟩] } with
      | .error n => out = .panic (wrongV n) ∧ ∃ nx', m = ⟨pre, nx'⟩
      | .ok s' => out = .ret (.tuple []) ∧ ∃ o' n' d' l' nx', m = ⟨pre ++ lkObjs pre.length base ⟨G.a, o', n', d', l'⟩ { s' with lines := s'.lines ++ o.lines.map (fun x => ⟨upF s.end_ + x.at_, x.stmt⟩), end_ := upF s.end_ + o.code.size }, nx'⟩) → put27 pre base G once s o out m) :
    wpS Zk.pg Zk.imp r27 [] (postA cr71 fun out m' => ∃ m'', Mem.le m'' m' ∧ put27 pre base G once s o out m'') [(0, .ptr (pre.length + 2) (G.a + 2) 0), (1, .agg o.av), (2, .bool once), (4, .ptr (pre.length + 7) nx 0), (7, x7), (37, .bool false)] ⟨pre ++ (lkObjs pre.length base G s ++ [(nx, .cells o.av)]), nx + 1⟩ := by
  have sl := hs.objs
  have s1 := hs.places
  have s2 : s.defs.length ≤ 3000000000000 := by have := hs.defs; omega
  have s3 : s.lines.length ≤ 3000000000000 := by have := hs.lines; omega
  have s4 := hs.end0
  have s5 : s.end_ ≤ 900000000000 := by have := hs.end1; omega
  have hsm := ho.small
  have d1 := hsm.defs
  have d2 := hsm.lines
  have d3 := hsm.code
  have d4 := linkDefs_len o
  have d5 := linkDefs_fit ho
  have h53 := call93 s.end_ s4 (by omega)
  have hup : upF s.end_ = (s.end_ + 7) / 8 * 8 := rfl
  have hup0 : 0 ≤ upF s.end_ := by rw [hup]; omega
  have hup1 : upF s.end_ ≤ 900000000100 := by rw [hup]; omega
  rw [show (s.end_ + 7) / 8 * 8 = upF s.end_ from rfl] at h53
  have b1 : (s.objs.length + 1) * 104 ≤ 140737488355328 ∧ s.objs.length + 1 ≤ 9223372036854775807 := ⟨by omega, by omega⟩
  have b2 : (s.places.length + 1) * 24 ≤ 140737488355328 ∧ s.places.length + 1 ≤ 9223372036854775807 := ⟨by omega, by omega⟩
  simp [r27, c71, SC.snd, lkObjs, lkCells, Deck.av]
  refine xcall_p h53 (by simp) ?_
  simp [appendA, b1, b2, List.range_succ]
  refine xcall_p (call112 o hsm) (by simp [Deck.av]) ?_
  simp
  obtain ⟨s0, hs0⟩ : ∃ s0 : LSt, s0 = { s with own := addS s.own o.name, objs := s.objs ++ [o], places := s.places ++ [⟨o.name, upF s.end_⟩] } := ⟨_, rfl⟩
  rw [← hs0] at hput
  have dd : ∀ i, i < (linkDefs o).length → IntKind.i64.wrap (upF s.end_ + (ix (linkDefs o) i).at_) = upF s.end_ + (ix (linkDefs o) i).at_ := fun i hi => by
    have := d5 _ (ix_mem hi)
    exact wrap64 (by omega) (by omega)
  refine wpS_loopS (ι := (Nat × List DDef × List DDef) × (Nat × Nat)) (fun g => [(0, .ptr (pre.length + 2) (G.a + 2) 0), (2, .bool once), (4, .ptr (pre.length + 7) nx 0), (8, .int .i64 (upF s.end_)), (79, .list true 2 ((linkDefs o).map DDef.av)), (80, .int .i64 (linkDefs o).length), (81, .int .i64 g.1.1)])
    (fun g => ⟨pre ++ (lkObjs pre.length base ⟨G.a, nx + 1 + 1, nx + 1 + 1 + 1 + 1, g.2.1, G.l⟩ { s0 with nmap := g.1.2.1, defs := g.1.2.2 } ++ [(nx, .cells o.av)]), g.2.2⟩) (fun g => (linkDefs o).length - g.1.1)
    (fun g => g.1.1 ≤ (linkDefs o).length ∧ putNames (upF s.end_) once (linkDefs o) s0 = putNames (upF s.end_) once ((linkDefs o).drop g.1.1) { s0 with nmap := g.1.2.1, defs := g.1.2.2 } ∧ g.1.2.2.length ≤ s.defs.length + g.1.1)
    ((0, s.nmap, s.defs), (G.d, nx + 1 + 1 + 1 + 1 + 1)) ⟨Nat.zero_le _, by rw [hs0]; rfl, by simp⟩ (Sim.of_le (Env.le_of (by simp)) (Mem.le_of rfl (by simp [lkObjs, lkCells, hs0, Deck.av, DDef.av]))) ?_
  intro ⟨⟨i, nm, df⟩, ⟨gd, ny⟩⟩ ⟨hi, hall, hdl⟩
  simp only at hi hall hdl
  have hw : IntKind.i64.wrap (i + 1) = i + 1 := wrap64 (by omega) (by omega)
  have b3 : (df.length + 1) * 24 ≤ 140737488355328 ∧ df.length + 1 ≤ 9223372036854775807 := ⟨by omega, by omega⟩
  simp
  refine br_cond rfl (fun h => ?_) (fun h => ?_)
  · have hlt : i < (linkDefs o).length := by have := ltI_t.1 h; omega
    have hwd := dd i hlt
    rw [drop_ix hlt, putNames] at hall
    generalize hd : ix (linkDefs o) i = d at *
    cases hz : outerF nm d.name with
    | some v =>
      rw [if_pos (by simp only [hz]; rfl)] at hall
      cases once with
      | true =>
        have hp := hput (.panic (wrongV d.name)) ⟨pre, ny + 1⟩ (by rw [hall]; exact ⟨rfl, _, rfl⟩)
        simp [h, idxM, hd, DDef.av, lkObjs, lkCells, hz, cr71, postA_panic]
        exact ⟨_, _, ⟨rfl, rfl⟩, _, le_pre _ _ _, hp⟩
      | false =>
        simp [h, idxM, hd, DDef.av, lkObjs, lkCells, hz, hw]
        exact ⟨i + 1, nm, df, ⟨by omega, hall, by omega⟩, by omega, gd, ny + 1, Sim.of_le (Env.le_of (by simp)) (Mem.le_of rfl (by simp [lkObjs, lkCells]))⟩
    | none =>
      rw [if_neg (by simp [hz])] at hall
      have hu := updN d.name (upF s.end_ + d.at_) nm hz
      simp [h, idxM, hd, DDef.av, lkObjs, lkCells, hz, hu, hwd, hw, appendA, b3, List.range_succ]
      exact ⟨i + 1, nm ++ [⟨d.name, upF s.end_ + d.at_⟩], df ++ [⟨d.name, upF s.end_ + d.at_⟩], ⟨by omega, hall, by simp; omega⟩, by omega, ny + 1 + 1, ny + 1 + 1 + 1, Sim.of_le (Env.le_of (by simp)) (Mem.le_of rfl (by simp [lkObjs, lkCells, DDef.av]))⟩
  · have hil : i = (linkDefs o).length := by have := ltI_f.1 h; omega
    rw [hil, List.drop_length, putNames] at hall
    rw [hall] at hput
    simp only at hput
    simp [h, lkObjs, lkCells, Deck.av]
    have hfl := ho.lines
    refine wpS_loopS (ι := (Nat × List DLine) × (Nat × Nat)) (fun g => [(0, .ptr (pre.length + 2) (G.a + 2) 0), (4, .ptr (pre.length + 7) nx 0), (8, .int .i64 (upF s.end_)), (131, .list true 2 (o.lines.map DLine.av)), (132, .int .i64 o.lines.length), (133, .int .i64 g.1.1)])
      (fun g => ⟨pre ++ (lkObjs pre.length base ⟨G.a, nx + 1 + 1, nx + 1 + 1 + 1 + 1, gd, g.2.1⟩ { s0 with nmap := nm, defs := df, lines := g.1.2 } ++ [(nx, .cells o.av)]), g.2.2⟩) (fun g => o.lines.length - g.1.1)
      (fun g => g.1.1 ≤ o.lines.length ∧ g.1.2 = s.lines ++ (o.lines.take g.1.1).map (fun x => ⟨upF s.end_ + x.at_, x.stmt⟩)) ((0, s.lines), (G.l, ny)) ⟨Nat.zero_le _, by simp⟩ (Sim.of_le (Env.le_of (by simp)) (Mem.le_of rfl (by simp [lkObjs, lkCells, hs0, Deck.av]))) ?_
    intro ⟨⟨k, ls⟩, ⟨gl, nz⟩⟩ ⟨hk, hls⟩
    simp only at hk hls
    have hwk : IntKind.i64.wrap (k + 1) = k + 1 := wrap64 (by omega) (by omega)
    have hlen : ls.length = s.lines.length + k := by rw [hls]; simp; omega
    have b4 : (ls.length + 1) * 16 ≤ 140737488355328 ∧ ls.length + 1 ≤ 9223372036854775807 := ⟨by omega, by omega⟩
    simp
    refine br_cond rfl (fun h2 => ?_) (fun h2 => ?_)
    · have hlk : k < o.lines.length := by have := ltI_t.1 h2; omega
      have hx := hfl _ (ix_mem hlk)
      have hwx : IntKind.i64.wrap (upF s.end_ + (ix o.lines k).at_) = upF s.end_ + (ix o.lines k).at_ := wrap64 (by omega) (by omega)
      have htk : o.lines.take (k + 1) = o.lines.take k ++ [ix o.lines k] := by rw [List.take_add_one, idx h2]; rfl
      simp [h2, idxM, DLine.av, lkObjs, lkCells, hwx, hwk, appendA, b4, List.range_succ]
      exact ⟨k + 1, ls ++ [⟨upF s.end_ + (ix o.lines k).at_, (ix o.lines k).stmt⟩], ⟨by omega, by rw [← List.map_take, htk, hls, List.map_append, List.append_assoc]; rfl⟩, by omega, nz + 1 + 1, nz + 1 + 1 + 1, Sim.of_le (Env.le_of (by simp)) (Mem.le_of rfl (by simp [lkObjs, lkCells, DLine.av]))⟩
    · have hkl : k = o.lines.length := by have := ltI_f.1 h2; omega
      rw [hkl, List.take_length] at hls
      have hwe : IntKind.i64.wrap (upF s.end_ + o.code.size) = upF s.end_ + o.code.size := wrap64 (by omega) (by omega)
      simp [h2, lkObjs, lkCells, Deck.av, cr71, hwe]
      refine ⟨⟨pre ++ lkObjs pre.length base ⟨G.a, nx + 1 + 1, nx + 1 + 1 + 1 + 1, gd, gl⟩ { s0 with nmap := nm, defs := df, lines := ls, end_ := upF s.end_ + o.code.size }, nz⟩, Mem.le_of rfl ?_, hput _ _ ⟨rfl, nx + 1 + 1, nx + 1 + 1 + 1 + 1, gd, gl, nz, ?_⟩⟩
      · simp [lkObjs, lkCells]
      · rw [hls, show s0.lines = s.lines by rw [hs0]]

set_option maxHeartbeats 4000000 in
theorem call71 (pre : List (Nat × AObj)) (base : Int) (G : LG) (s : LSt) (o : Deck) (once : Bool) (nx : Nat) (hs : s.Small) (ho : o.Fit) :
    ACalls Zk.pg 71 [.ptr (pre.length + 2) (G.a + 2) 0, .agg o.av, .bool once] ⟨pre ++ lkObjs pre.length base G s, nx⟩ (put27 pre base G once s o) := by
  refine ACalls.forget ?_
  refine ok71.acalls (by simp) ?_
  rw [p27]
  have rest := rest27 pre base G s o once nx hs ho
  cases once with
  | false =>
    simp [c71, SC.fst, SC.snd, lkObjs, lkCells, Deck.av]
    exact rest _ fun out m h => by
      unfold put27 putL
      cases hp : putNames (upF s.end_) false (linkDefs o) { s with own := addS s.own o.name, objs := s.objs ++ [o], places := s.places ++ [⟨o.name, upF s.end_⟩] } <;> rw [hp] at h <;> simpa [hp] using h
  | true =>
    cases hx : outerF s.nmap o.name with
    | some v =>
      have hput : put27 pre base G true s o (.panic (wrongV o.name)) ⟨pre, nx + 1⟩ := by unfold put27 putL; simp [hx]
      simp [c71, SC.fst, SC.snd, lkObjs, lkCells, Deck.av, hx, cr71, postA_panic]
      exact ⟨_, _, ⟨rfl, rfl⟩, _, le_pre _ _ _, hput⟩
    | none =>
      cases hy : hasS s.own o.name with
      | true =>
        have hput : put27 pre base G true s o (.panic (wrongV o.name)) ⟨pre, nx + 1⟩ := by unfold put27 putL; simp [hx, hy]
        simp [c71, SC.fst, SC.snd, lkObjs, lkCells, Deck.av, hx, hy, cr71, postA_panic]
        exact ⟨_, _, ⟨rfl, rfl⟩, _, le_pre _ _ _, hput⟩
      | false =>
        simp [c71, SC.fst, SC.snd, lkObjs, lkCells, Deck.av, hx, hy]
        exact rest _ fun out m h => by
          unfold put27 putL
          cases hp : putNames (upF s.end_) true (linkDefs o) { s with own := addS s.own o.name, objs := s.objs ++ [o], places := s.places ++ [⟨o.name, upF s.end_⟩] } <;> rw [hp] at h <;> simpa [hp, hx, hy] using h

/-- put, where names may be there. -/
theorem putNames_false (A : Int) : ∀ (ds : List DDef) (s : LSt), ∃ s', putNames A false ds s = .ok s'
  | [], s => ⟨s, rfl⟩
  | d :: ds, s => by
    rw [putNames]
    split
    · exact putNames_false A ds s
    · exact putNames_false A ds _
theorem putNames_same (A : Int) (once : Bool) : ∀ (ds : List DDef) (s s' : LSt), putNames A once ds s = .ok s' → s'.objs = s.objs ∧ s'.own = s.own ∧ s'.places = s.places ∧ s'.lines = s.lines ∧ s'.end_ = s.end_ ∧ s'.defs.length ≤ s.defs.length + ds.length
  | [], s, s', h => by simp only [putNames, Except.ok.injEq] at h; subst h; simp
  | d :: ds, s, s', h => by
    rw [putNames] at h
    split at h
    · split at h
      · cases h
      · obtain ⟨h1, h2, h3, h4, h5, h6⟩ := putNames_same A once ds s s' h
        exact ⟨h1, h2, h3, h4, h5, by simp; omega⟩
    · obtain ⟨h1, h2, h3, h4, h5, h6⟩ := putNames_same A once ds _ s' h
      exact ⟨h1, h2, h3, h4, h5, by simp at h6 ⊢; omega⟩
theorem putL_same {once : Bool} {s s' : LSt} {o : Deck} (h : putL once s o = .ok s') : s'.objs = s.objs ++ [o] ∧ s'.own = addS s.own o.name ∧ s'.places = s.places ++ [⟨o.name, upF s.end_⟩] ∧ s'.lines = s.lines ++ o.lines.map (fun x => ⟨upF s.end_ + x.at_, x.stmt⟩) ∧ s'.end_ = upF s.end_ + o.code.size ∧ s'.defs.length ≤ s.defs.length + (linkDefs o).length := by
  unfold putL at h
  split at h
  · cases h
  · split at h
    · cases h
    · rename_i s1 h1
      injection h with h; subst h
      obtain ⟨h1, h2, h3, h4, h5, h6⟩ := putNames_same _ _ _ _ _ h1
      exact ⟨h1, h2, h3, by simp only [h4], rfl, h6⟩
theorem putL_small {once : Bool} {s s' : LSt} {o : Deck} (hs : s.Small) (ho : o.Fit) (hl : s.objs.length < 2000000) (h : putL once s o = .ok s') : s'.Small := by
  obtain ⟨h1, h2, h3, h4, h5, h6⟩ := putL_same h
  have d1 := ho.small.defs
  have d2 := ho.small.lines
  have d3 := ho.code
  have d4 := linkDefs_len o
  have s1 := hs.places
  have s2 := hs.defs
  have s3 := hs.lines
  have s4 := hs.end0
  have s5 := hs.end1
  have hup : upF s.end_ = (s.end_ + 7) / 8 * 8 := rfl
  refine ⟨by rw [h1]; simp; omega, fun x hx => ?_, by rw [h1, h3]; simp [s1], by rw [h1]; simp only [List.length_append, List.length_singleton]; omega, by rw [h1, h4]; simp only [List.length_append, List.length_singleton, List.length_map]; omega, by rw [h5, hup]; omega, by rw [h5, h1, hup]; simp only [List.length_append, List.length_singleton]; omega⟩
  rw [h1] at hx
  rcases List.mem_append.1 hx with hx | hx
  · exact hs.fit x hx
  · rw [List.mem_singleton.1 hx]; exact ho
def putNF (s : LSt) (o : Deck) : LSt := match putL false s o with
  | .ok s' => s'
  | .error _ => s
theorem putL_false (s : LSt) (o : Deck) : putL false s o = .ok (putNF s o) := by
  obtain ⟨s1, h1⟩ := putNames_false (upF s.end_) (linkDefs o) { s with own := addS s.own o.name, objs := s.objs ++ [o], places := s.places ++ [⟨o.name, upF s.end_⟩] }
  unfold putNF putL
  simp only [Bool.false_and, Bool.false_eq_true, if_false, h1]
end Go.Pm

/- ZkS6: code, resolved. Written by gen.py out of what ShowSC.lean printed. -/
namespace Go.Pm
open Go Go.Proofs

/-- (*ironbark/link.linking).found$1 -/
def c145 : SC :=
  (.seq (.ops [⟨(some 2), .plain (.box 2), [.tmp 0], none⟩,
    ⟨(some 3), .plain .mv, [.lit (.bool false)], none⟩] [])
  (.seq (.ops [⟨(some 4), .plain (.fieldAddr 0), [.tmp 2], none⟩,
    ⟨(some 5), .plain (.load false 1), [.tmp 4], none⟩,
    ⟨(some 6), .plain (.load false 1), [.tmp 1], none⟩,
    ⟨(some 7), .plain (.bin .eql), [.tmp 5, .tmp 6], none⟩,
    ⟨(some 3), .plain .mv, [.tmp 7], none⟩] [4, 5, 6, 7])
  .ret))
def cr145 : List Res := [(3, none)]
theorem ok145 : FOk Zk.pg.toProgram Zk.imp 145 c145 cr145 Tryz.f145.ntmps := ⟨Tryz.f145, _, Tryz.func145, rfl, by kernel_rfl, by kernel_rfl, by kernel_rfl, rfl⟩

end Go.Pm

/- ZkC9: contracts: a number's bytes; names ascending. -/
namespace Go.Pm
open Go Go.Proofs
attribute [-simp] List.getElem?_map

theorem shr_c (n : Int) (k : Nat) (hk : k < 64) : binA .shr (.int .i64 n) (.int .u64 k) = some (.int .i64 (n.fdiv (2 ^ k))) := by
  rw [binA_shr, if_neg (by omega), Int.toNat_natCast, Nat.min_eq_left (by show k ≤ 64; omega)]

theorem call131 (n : Int) : PCalls Zk.pg 131 [.int .i64 n] fun out => out = .ret (.str (fourF n)) := by
  refine ok131.pcalls (by simp) ?_
  have h1 := shr_c n 24 (by omega)
  have h2 := shr_c n 16 (by omega)
  have h3 := shr_c n 8 (by omega)
  have h4 : byteF n 0 = UInt8.ofNat (IntKind.u8.wrap n).toNat := by simp [byteF]
  rw [show ((24 : Nat) : Int) = 24 from rfl] at h1
  rw [show ((16 : Nat) : Int) = 16 from rfl] at h2
  rw [show ((8 : Nat) : Int) = 8 from rfl] at h3
  unfold fourF
  rw [h4]
  unfold byteF
  generalize n.fdiv (2 ^ 24) = a at *
  generalize n.fdiv (2 ^ 16) = b at *
  generalize n.fdiv (2 ^ 8) = c at *
  simp [c131, -binA_shr, h1, h2, h3, cr131, byteOf, List.range_succ]

end Go.Pm

/- ZkC10: contracts: names ascending. -/
namespace Go.Pm
open Go Go.Proofs
attribute [-simp] List.getElem?_map

/-- Whatever is the one is the other, too. -/
def Sub (xs ys : List AV) : Prop := ∀ (K : Bool → Nat → Prop) (w : World) (us : List Value), VRs [] K w xs us → VRs [] K w ys us
theorem Sub.refl (xs : List AV) : Sub xs xs := fun _ _ _ h => h
theorem Sub.cons {x : AV} {xs ys : List AV} (h : Sub xs ys) : Sub (x :: xs) (x :: ys) := by
  intro K w us hv
  obtain ⟨u, us', rfl, h1, h2⟩ := hv
  exact ⟨u, us', rfl, h1, h K w us' h2⟩
theorem Sub.nil {p : Bool} {sz : Nat} {xs ys : List AV} (h : Sub xs ys) : Sub (.nilS :: xs) (.list p sz [] :: ys) := by
  intro K w us hv
  obtain ⟨u, us', rfl, h1, h2⟩ := hv
  refine ⟨u, us', rfl, ?_, h K w us' h2⟩
  simp only [VR] at h1 ⊢
  exact ⟨none, 0, 0, 0, h1, Nat.le_refl _, .inl trivial, by simp [LR]⟩
theorem PCalls.sub {P : Prg} {f : FuncId} {xs ys : List AV} {R : AOut → Prop} (h : PCalls P f ys R) (hs : Sub xs ys) : PCalls P f xs R :=
  ⟨h.1, fun K w vals hK hv hl => h.2 K w vals hK (hs K w vals hv) hl⟩

def insPos (l : List DDef) (n : ByteArray) : Nat := (l.takeWhile fun x => ltS x.name n).length
def definedF (l : List DDef) (d : DDef) : List DDef := if (insPos l d.name < l.length ∧ eqS (ix l (insPos l d.name)).name d.name = true) then l else l.take (insPos l d.name) ++ d :: l.drop (insPos l d.name)

theorem insPos_eq {n : ByteArray} : ∀ {l : List DDef} {k : Nat}, k ≤ l.length → (∀ j, j < k → ltS (ix l j).name n = true) → (k < l.length → ltS (ix l k).name n = false) → insPos l n = k
  | [], k, h, _, _ => by simp at h; subst h; rfl
  | x :: l, 0, _, _, h2 => by
    have := h2 (by simp)
    simp only [insPos, List.takeWhile_cons, show ltS x.name n = false from this]; rfl
  | x :: l, k + 1, h, h1, h2 => by
    have h0 : ltS x.name n = true := h1 0 (by omega)
    have ih := insPos_eq (n := n) (l := l) (k := k) (by simpa using h) (fun j hj => h1 (j + 1) (by omega)) (fun hk => h2 (by simpa using hk))
    simp only [insPos] at ih ⊢
    rw [List.takeWhile_cons, if_pos h0, List.length_cons, ih]

set_option maxHeartbeats 4000000 in
theorem call105 (l : List DDef) (d : DDef) (hl : l.length ≤ 4000000000000) : PCalls Zk.pg 105 [.list true 2 (l.map DDef.av), .agg d.av] fun out => out = .ret (.list true 2 ((definedF l d).map DDef.av)) := by
  refine ok105.pcalls (by simp) ?_
  simp [c105, DDef.av]
  refine wpS_loop (ι := Nat) (fun k => [(0, .list true 2 (l.map DDef.av)), (3, .ptr 0 0 0), (5, .int .i64 k)]) (fun _ => ⟨[(0, .cells d.av)], 1⟩) (fun k => l.length - k)
    (fun k => k ≤ l.length ∧ ∀ j, j < k → ltS (ix l j).name d.name = true) 0 (by simp) (Env.le_of (by simp)) (by simp [DDef.av]) ?_
  intro k ⟨hk, hall⟩
  have hw : IntKind.i64.wrap (k + 1) = k + 1 := wrap64 (by omega) (by omega)
  have fin : (k < l.length → ltS (ix l k).name d.name = false) → insPos l d.name = k := insPos_eq hk hall
  simp [DDef.av]
  refine br_dguard_t rfl (fun h => ?_) (fun h => ?_)
  · have hlt : k < l.length := by have := ltI_t.1 h; omega
    simp [h, idxM, DDef.av]
    refine br_cond rfl (fun h1 => ?_) (fun h1 => ?_)
    · simp [hw]
      exact ⟨k + 1, ⟨by omega, upto hall h1⟩, by omega, Env.le_of (by simp), Mem.le_of rfl (by simp)⟩
    have hp := fin fun _ => h1
    simp [h, idxM, DDef.av]
    refine br_cond rfl (fun h2 => ?_) (fun h2 => ?_)
    · have hd : definedF l d = l := by unfold definedF; rw [hp, if_pos ⟨hlt, h2⟩]
      simp [cr105, hd]
    have hd : definedF l d = l.take k ++ d :: l.drop k := by unfold definedF; rw [hp, if_neg (by rw [h2]; simp)]
    have hm : min k l.length = k := Nat.min_eq_left hk
    have hf1 : k * 24 ≤ 140737488355328 ∧ k ≤ 9223372036854775807 := ⟨by omega, by omega⟩
    have hf2 : (k + 1) * 24 ≤ 140737488355328 ∧ k + 1 ≤ 9223372036854775807 := ⟨by omega, by omega⟩
    have hf3 : (k + 1 + (l.length - k)) * 24 ≤ 140737488355328 ∧ k + 1 + (l.length - k) ≤ 9223372036854775807 := ⟨by omega, by omega⟩
    have hs1 : sliceA false true 2 [.list true 2 (l.map DDef.av), .int .i64 k] = some (.list true 2 ((l.take k).map DDef.av)) := by simp [sliceA, boundsA, hk, List.map_take]
    have hs2 : sliceA true false 2 [.list true 2 (l.map DDef.av), .int .i64 k] = some (.list true 2 ((l.drop k).map DDef.av)) := by
      simp [sliceA, boundsA, hk, List.map_drop]
      rw [List.take_of_length_le (by simp)]
    have e : (l.take k).map DDef.av ++ ([AV.str d.name, AV.int IntKind.i64 d.at_] :: (l.drop k).map DDef.av) = (l.take k ++ d :: l.drop k).map DDef.av := by simp [DDef.av]
    have e1 : k + 1 + (l.length - k) = (l.take k ++ d :: l.drop k).length := by simp [hm]; omega
    simp [hs1, hs2, appendA, hm, hf1, hf2, hf3, cr105, hd, DDef.av, List.range_succ]
    rw [if_pos (by omega), ← List.map_take, ← List.map_drop, e, e1, take_map]
    simp only [perm_defs, if_true]
  · have hid : k = l.length := by have := ltI_f.1 h; omega
    have hp := fin (fun hh => by omega)
    have hd : definedF l d = l.take k ++ d :: l.drop k := by unfold definedF; rw [hp, if_neg (fun hh => by omega)]
    simp [h]
    have hm : min k l.length = k := Nat.min_eq_left hk
    have hf1 : k * 24 ≤ 140737488355328 ∧ k ≤ 9223372036854775807 := ⟨by omega, by omega⟩
    have hf2 : (k + 1) * 24 ≤ 140737488355328 ∧ k + 1 ≤ 9223372036854775807 := ⟨by omega, by omega⟩
    have hf3 : (k + 1 + (l.length - k)) * 24 ≤ 140737488355328 ∧ k + 1 + (l.length - k) ≤ 9223372036854775807 := ⟨by omega, by omega⟩
    have hs1 : sliceA false true 2 [.list true 2 (l.map DDef.av), .int .i64 k] = some (.list true 2 ((l.take k).map DDef.av)) := by simp [sliceA, boundsA, hk, List.map_take]
    have hs2 : sliceA true false 2 [.list true 2 (l.map DDef.av), .int .i64 k] = some (.list true 2 ((l.drop k).map DDef.av)) := by
      simp [sliceA, boundsA, hk, List.map_drop]
      rw [List.take_of_length_le (by simp)]
    have e : (l.take k).map DDef.av ++ ([AV.str d.name, AV.int IntKind.i64 d.at_] :: (l.drop k).map DDef.av) = (l.take k ++ d :: l.drop k).map DDef.av := by simp [DDef.av]
    have e1 : k + 1 + (l.length - k) = (l.take k ++ d :: l.drop k).length := by simp [hm]; omega
    simp [hs1, hs2, appendA, hm, hf1, hf2, hf3, cr105, hd, DDef.av, List.range_succ]
    rw [if_pos (by omega), ← List.map_take, ← List.map_drop, e, e1, take_map]
    simp only [perm_defs, if_true]
end Go.Pm

/- ZkC11: contracts: what is taken of libraries, as the document says it. -/
namespace Go.Pm
open Go Go.Proofs
attribute [-simp] List.getElem?_map List.length_flatten

def refNames (l : List Deck) : List ByteArray := l.flatMap fun o => o.refs.map (·.name)
def scanF (root : List DDef) (l : List Deck) (libs : List (List Deck)) : List ByteArray → List ByteArray → List ByteArray × Option Deck
  | [], ms => (ms, none)
  | n :: ns, ms => if ((outerF root n).isSome || knownF l n) = true then scanF root l libs ns ms else match foundF l libs n with
    | some o => (ms, some o)
    | none => scanF root l libs ns (ms ++ [n])
def gathF (root : List DDef) (libs : List (List Deck)) : Nat → List Deck → List Deck × List ByteArray
  | 0, l => (l, [])
  | n + 1, l => match scanF root l libs (refNames l) [] with
    | (ms, none) => (l, ms)
    | (_, some o) => gathF root libs n (l ++ [o])

/-- How many objects of libraries are not there. -/
def away (libs : List (List Deck)) (l : List Deck) : Nat := (libs.flatten.filter fun o => !(l.any fun x => eqS x.name o.name)).length

theorem filter_le {α : Type} {p q : α → Bool} (h : ∀ x, q x = true → p x = true) : ∀ l : List α, (l.filter q).length ≤ (l.filter p).length
  | [] => Nat.le_refl _
  | x :: l => by
    have ih := filter_le h l
    simp only [List.filter_cons]
    by_cases hq : q x = true
    · rw [if_pos hq, if_pos (h x hq)]; simp only [List.length_cons]; omega
    · rw [if_neg hq]
      split
      · simp only [List.length_cons]; omega
      · exact ih
theorem filter_lt {α : Type} {p q : α → Bool} {o : α} (h : ∀ x, q x = true → p x = true) (hp : p o = true) (hq : q o = false) : ∀ {l : List α}, o ∈ l → (l.filter q).length < (l.filter p).length
  | [], hm => by cases hm
  | x :: l, hm => by
    simp only [List.filter_cons]
    rcases List.mem_cons.1 hm with rfl | hm
    · have := filter_le h l
      rw [hq, hp]
      simp only [Bool.false_eq_true, if_false, if_true, List.length_cons]; omega
    · have ih := filter_lt h hp hq hm
      by_cases hqx : q x = true
      · rw [if_pos hqx, if_pos (h x hqx)]; simp only [List.length_cons]; omega
      · rw [if_neg hqx]
        split
        · simp only [List.length_cons]; omega
        · exact ih

theorem away_less {libs : List (List Deck)} {l : List Deck} {n : ByteArray} {o : Deck} (h : foundF l libs n = some o) : away libs (l ++ [o]) < away libs l ∧ o ∈ libs.flatten := by
  have hm := List.mem_of_find?_eq_some h
  have ht := List.find?_some h
  simp only [takes, Bool.and_eq_true] at ht
  refine ⟨filter_lt (o := o) (fun x hx => ?_) ht.1 ?_ hm, hm⟩
  · simp only [List.any_append, Bool.not_or, Bool.and_eq_true] at hx
    exact hx.1
  · simp [eqS_t.2 rfl]

theorem scan_found {root : List DDef} {l : List Deck} {libs : List (List Deck)} {o : Deck} : ∀ {ns ms ms' : List ByteArray}, scanF root l libs ns ms = (ms', some o) → ∃ n, foundF l libs n = some o
  | [], ms, ms', h => by simp [scanF] at h
  | n :: ns, ms, ms', h => by
    unfold scanF at h
    split at h
    · exact scan_found h
    · split at h
      · rename_i o' ho
        injection h with _ h; injection h with h; subst h
        exact ⟨n, ho⟩
      · exact scan_found h

@[simp] theorem perm_texts : ∀ ms : List ByteArray, permLL (ms.map fun s => [AV.str s]) = true
  | [] => rfl
  | m :: ms => by simp only [List.map_cons, permLL, perm_texts ms, permL, AV.perm, Bool.and_self]
@[simp] theorem noref_texts : ∀ ms : List ByteArray, norefLL (ms.map fun s => [AV.str s]) = true
  | [] => rfl
  | m :: ms => by simp only [List.map_cons, norefLL, noref_texts ms, norefL, AV.noref, Bool.and_self]

@[simp] theorem noref_libs : ∀ l : List (List Deck), norefLL (l.map libAV) = true
  | [] => rfl
  | d :: l => by simp only [List.map_cons, norefLL, noref_libs l, libAV, decksAV, norefL, AV.noref, noref_decks, Bool.and_self]

/-- A list of texts as it is handed back: nothing where there is none. -/
def textsAV (ms : List ByteArray) : AV := match ms with
  | [] => .nilS
  | _ => .list true 1 (ms.map fun s => [.str s])

/-- What was missing so far, as it stands in memory. -/
def missAV (g : Nat) : List ByteArray → AV
  | [] => .nilS
  | _ :: ms => .row 3 g 1 0 (ms.length + 1)
def missMem (gj g : Nat) : List ByteArray → List (Nat × AObj)
  | [] => []
  | m :: ms => [(gj, .row 9 1 [[.str m]]), (g, .row 9 1 ([.str m] :: ms.map fun s => [.str s]))]

/-- Where a search for what is missing stands. -/
structure GState where
  i : Nat
  ms : List ByteArray
  tk : Option Deck
  gj : Nat
  g : Nat
  nx : Nat

/-- What is left to scan tells what the whole tells. -/
def GOk (root : List DDef) (l : List Deck) (libs : List (List Deck)) (S : List ByteArray × Option Deck) (rest : List ByteArray) (ms : List ByteArray) : Option Deck → Prop
  | none => S = scanF root l libs rest ms
  | some o => S = (ms, some o)

theorem refs_le : ∀ {l : List Deck}, (∀ o ∈ l, o.Small) → (refNames l).length ≤ l.length * 1048576
  | [], _ => by simp [refNames]
  | o :: l, h => by
    have ih := refs_le (l := l) fun x hx => h x (List.mem_cons_of_mem _ hx)
    have h0 := (h o List.mem_cons_self).refs
    simp only [refNames, List.flatMap_cons, List.length_append, List.length_map, List.length_cons] at ih ⊢
    omega
theorem refs_max {l : List Deck} (h : SmallL l) : (refNames l).length ≤ 3000000000000 := by
  have h1 := refs_le h.each
  have h2 := h.len
  omega

set_option maxHeartbeats 8000000 in
theorem call97 (p q r : Bool) (l0 : List Deck) (libs : List (List Deck)) (root : List DDef) (hl : SmallL l0) (hb : SmallLL libs) (hr : root.length ≤ 2000000) (hsum : l0.length + libs.flatten.length ≤ 2000000) :
    PCalls Zk.pg 97 [.list p 5 (l0.map Deck.av), .list q 1 (libs.map libAV), .list r 2 (root.map DDef.av)]
      fun out => out = .ret (.tuple [decksAV (gathF root libs (libs.flatten.length + 1) l0).1, textsAV (gathF root libs (libs.flatten.length + 1) l0).2]) := by
  refine ok97.pcalls (by simp) ?_
  have hc1 : l0.length * 104 ≤ 140737488355328 ∧ l0.length ≤ 9223372036854775807 := ⟨by omega, by omega⟩
  simp [c97, appendA, hc1]
  have haw : ∀ l, away libs l ≤ libs.flatten.length := fun l => List.length_filter_le _ _
  refine wpS_loop (ι := (Nat × List Deck) × (Nat × Nat)) (fun s => [(0, .row 0 s.2.1 5 0 s.1.2.length), (1, .list q 1 (libs.map libAV)), (2, .list r 2 (root.map DDef.av))])
    (fun s => ⟨[(s.2.1, .row 27 5 (s.1.2.map Deck.av))], s.2.2⟩) (fun s => s.1.1)
    (fun s => gathF root libs (libs.flatten.length + 1) l0 = gathF root libs s.1.1 s.1.2 ∧ away libs s.1.2 < s.1.1 ∧ SmallL s.1.2 ∧ s.1.2.length + away libs s.1.2 ≤ l0.length + libs.flatten.length)
    ((libs.flatten.length + 1, l0), (0, 1)) ⟨rfl, by have := haw l0; simp only; omega, hl, by have := haw l0; simp only; omega⟩ (Env.le_of (by simp)) (by simp) ?_
  intro ⟨⟨n, l⟩, ⟨g, nx⟩⟩ ⟨hg, haw1, hsl, hlen⟩
  simp only at hg haw1 hsl hlen
  have sl := hsl.len
  generalize gathF root libs (libs.flatten.length + 1) l0 = G at *
  obtain ⟨n, rfl⟩ : ∃ n', n = n' + 1 := ⟨n - 1, by omega⟩
  rw [gathF] at hg
  have hS : scanF root l libs (refNames l) [] = scanF root l libs (refNames l) [] := rfl
  generalize hSd : scanF root l libs (refNames l) [] = S at *
  have hkl : elsOf (⟨[(g, .row 27 5 (l.map Deck.av))], nx⟩ : Mem) 5 (.row 0 g 5 0 l.length) = some (l.map Deck.av) := by simp
  simp
  refine wpS_loop (ι := GState) (fun s => [(0, .row 0 g 5 0 l.length), (1, .list q 1 (libs.map libAV)), (2, .list r 2 (root.map DDef.av)), (8, missAV s.g s.ms), (9, .ptr 1 nx 0), (10, .bool s.tk.isSome), (11, .int .i64 s.i)])
    (fun s => ⟨(g, .row 27 5 (l.map Deck.av)) :: (nx, .cells (deckOr s.tk)) :: missMem s.gj s.g s.ms, s.nx⟩) (fun s => l.length - s.i)
    (fun s => s.i ≤ l.length ∧ GOk root l libs S (refNames (l.drop s.i)) s.ms s.tk ∧ s.ms.length + (refNames (l.drop s.i)).length ≤ (refNames l).length) ⟨0, [], none, 0, 0, nx + 1⟩ ⟨Nat.zero_le _, hSd.symm, by simp⟩ (Env.le_of (by simp [missAV])) (by simp [deckOr, missMem]) ?_
  intro ⟨i, ms, tk, gj, gm, ny⟩ ⟨hi, hall, hml⟩
  simp only at hi hall hml
  have hw : IntKind.i64.wrap (i + 1) = i + 1 := wrap64 (by omega) (by omega)
  simp
  refine br_guard_t rfl (fun h => ?_) (fun h => ?_)
  · cases tk with
    | none =>
      have hlt : i < l.length := by have := ltI_t.1 h; omega
      have hos := hsl.each _ (ix_mem hlt)
      have hrl := hos.refs
      have hrn : refNames (l.drop i) = (ix l i).refs.map (·.name) ++ refNames (l.drop (i + 1)) := by rw [drop_ix hlt]; rfl
      rw [hrn] at hall
      generalize hoi : ix l i = o at *
      rw [hrn, List.length_append, List.length_map] at hml
      simp [h]
      refine wpS_loop (ι := GState) (fun s => [(0, .row 0 g 5 0 l.length), (1, .list q 1 (libs.map libAV)), (2, .list r 2 (root.map DDef.av)), (8, missAV s.g s.ms), (9, .ptr 1 nx 0), (10, .bool s.tk.isSome), (11, .int .i64 i), (12, .int .i64 s.i)])
        (fun s => ⟨(g, .row 27 5 (l.map Deck.av)) :: (nx, .cells (deckOr s.tk)) :: missMem s.gj s.g s.ms, s.nx⟩) (fun s => o.refs.length - s.i)
        (fun s => s.i ≤ o.refs.length ∧ GOk root l libs S ((o.refs.drop s.i).map (·.name) ++ refNames (l.drop (i + 1))) s.ms s.tk ∧ s.ms.length + ((o.refs.length - s.i) + (refNames (l.drop (i + 1))).length) ≤ (refNames l).length) ⟨0, ms, none, gj, gm, ny⟩ ⟨Nat.zero_le _, hall, by simp only [Nat.sub_zero]; exact hml⟩ (Env.le_of (by simp)) (by simp) ?_
      clear hml
      have hmx := refs_max hsl
      intro ⟨k, ms, tk, gj, gm, ny⟩ ⟨hk, hka, hml⟩
      simp only at hk hka hml
      have hwk : IntKind.i64.wrap (k + 1) = k + 1 := wrap64 (by omega) (by omega)
      simp [h, idxM, Deck.av, hoi]
      refine br_guard_t rfl (fun h2 => ?_) (fun h2 => ?_)
      · cases tk with
        | none =>
          have hlk : k < o.refs.length := by have := ltI_t.1 h2; omega
          rw [drop_ix hlk, List.map_cons, List.cons_append] at hka
          have hka' : S = scanF root l libs ((ix o.refs k).name :: ((o.refs.drop (k + 1)).map (·.name) ++ refNames (l.drop (i + 1)))) ms := hka
          rw [scanF] at hka'
          generalize hnm : (ix o.refs k).name = nm at *
          simp [h, h2, idxM, Deck.av, DRef.av, hoi, hnm]
          refine xcall_p (call127 r root nm (by omega)) (by simp) ?_
          simp
          refine br_guard_f rfl (fun h3 => ?_) (fun h3 => ?_)
          · rw [if_pos (by rw [h3]; rfl)] at hka'
            simp [h3, hwk]
            exact ⟨⟨k + 1, ms, none, gj, gm, ny⟩, ⟨by simp only; omega, by show S = _; rw [← List.map_drop]; exact hka', by simp; omega⟩, by simp only; omega, Env.le_of (by simp), Mem.le_of rfl (by simp)⟩
          simp [h3]
          refine xcall_p (call128 false l hsl nm) (by simp) ?_
          simp
          refine br_cond rfl (fun h4 => ?_) (fun h4 => ?_)
          · rw [if_pos (by rw [h4]; simp)] at hka'
            simp [hwk]
            exact ⟨⟨k + 1, ms, none, gj, gm, ny⟩, ⟨by simp only; omega, by show S = _; rw [← List.map_drop]; exact hka', by simp; omega⟩, by simp only; omega, Env.le_of (by simp), Mem.le_of rfl (by simp)⟩
          rw [if_neg (by rw [h3, h4]; simp)] at hka'
          simp
          refine xcall_p (call129 false q l libs nm hsl hb) (by simp) ?_
          cases hf : foundF l libs nm with
          | some o' =>
            rw [hf] at hka'
            simp only at hka'
            simp [deckOr, hwk, List.take_of_length_le]
            exact ⟨⟨k + 1, ms, some o', gj, gm, ny⟩, ⟨by simp only; omega, hka', by simp only; omega⟩, by simp only; omega, Env.le_of (by simp), Mem.le_of rfl (by simp)⟩
          | none =>
            rw [hf] at hka'
            simp only at hka'
            cases ms with
            | nil =>
              simp [deckOr, hwk, appendA, List.range_succ, missAV, missMem]
              exact ⟨⟨k + 1, [nm], none, ny, ny + 1, ny + 1 + 1⟩, ⟨by simp only; omega, by show S = _; rw [← List.map_drop]; exact hka', by simp; omega⟩, by simp only; omega, Env.le_of (by simp [missAV]), Mem.le_of rfl (by simp [missMem])⟩
            | cons m ms =>
              have hmb : (ms.length + 1 + 1) * 16 ≤ 140737488355328 ∧ ms.length ≤ 9223372036854775805 := by simp only [List.length_cons] at hml; omega
              simp [deckOr, hwk, appendA, List.range_succ, missAV, missMem, hmb]
              exact ⟨⟨k + 1, m :: ms ++ [nm], none, gj, ny + 1, ny + 1 + 1⟩, ⟨by simp only; omega, by show S = _; rw [← List.map_drop]; exact hka', by simp at hml ⊢; omega⟩, by simp only; omega, Env.le_of (by simp [missAV]), Mem.le_of rfl (by simp [missMem])⟩
        | some o' =>
          have hka' : S = (ms, some o') := hka
          simp [h2, hw]
          exact ⟨⟨i + 1, ms, some o', gj, gm, ny⟩, ⟨by simp only; omega, hka', by simp only; omega⟩, by simp only; omega, Env.le_of (by simp), Mem.le_of rfl (by simp)⟩
      · have hkd : k = o.refs.length := by have := ltI_f.1 h2; omega
        simp [h2, hw]
        cases tk with
        | none =>
          have hka' : S = scanF root l libs ((o.refs.drop k).map (·.name) ++ refNames (l.drop (i + 1))) ms := hka
          rw [hkd, List.drop_length] at hka'
          exact ⟨⟨i + 1, ms, none, gj, gm, ny⟩, ⟨by simp only; omega, hka', by simp only; omega⟩, by simp only; omega, Env.le_of (by simp), Mem.le_of rfl (by simp)⟩
        | some o' =>
          have hka' : S = (ms, some o') := hka
          exact ⟨⟨i + 1, ms, some o', gj, gm, ny⟩, ⟨by simp only; omega, hka', by simp only; omega⟩, by simp only; omega, Env.le_of (by simp), Mem.le_of rfl (by simp)⟩
    | some o =>
      simp [h]
      have hSo : S = (ms, some o) := hall
      rw [hSo] at hg
      simp only at hg
      obtain ⟨nm, hfo⟩ := scan_found (hSd.trans hSo)
      have hal := away_less hfo
      have hc2 : (l.length + 1) * 104 ≤ 140737488355328 ∧ l.length + 1 ≤ 9223372036854775807 := ⟨by omega, by omega⟩
      have hos : o.Small := by
        obtain ⟨x, hx, ho⟩ := List.mem_flatten.1 hal.2
        exact (hb.each x hx).each o ho
      have hsl2 : SmallL (l ++ [o]) := ⟨by have := hal.1; simp; omega, fun y hy => by
        rcases List.mem_append.1 hy with hy | hy
        · exact hsl.each y hy
        · rw [List.mem_singleton.1 hy]; exact hos⟩
      have hl2 : (l ++ [o]).length + away libs (l ++ [o]) ≤ l0.length + libs.flatten.length := by have := hal.1; simp; omega
      simp [deckOr, deck_take, appendA, hc2, List.range_succ, List.take_of_length_le]
      exact ⟨n, l ++ [o], ⟨hg, by have := hal.1; omega, hsl2, hl2⟩, by omega, ny + 1, Env.le_of (by simp), ny + 1 + 1, Mem.le_of rfl (by simp)⟩
  · have hil : i = l.length := by have := ltI_f.1 h; omega
    cases tk with
    | none =>
      have hSn : S = (ms, none) := by
        have : S = scanF root l libs (refNames (l.drop i)) ms := hall
        rw [this, hil]; simp [refNames, scanF]
      rw [hSn] at hg
      simp only at hg
      subst hg
      cases ms with
      | nil => simp [h, cr97, missAV, missMem, textsAV, decksAV]
      | cons m ms =>
        simp [h, cr97, missAV, missMem, textsAV, decksAV]
    | some o =>
      simp [h]
      have hSo : S = (ms, some o) := hall
      rw [hSo] at hg
      simp only at hg
      obtain ⟨nm, hfo⟩ := scan_found (hSd.trans hSo)
      have hal := away_less hfo
      have hc2 : (l.length + 1) * 104 ≤ 140737488355328 ∧ l.length + 1 ≤ 9223372036854775807 := ⟨by omega, by omega⟩
      have hos : o.Small := by
        obtain ⟨x, hx, ho⟩ := List.mem_flatten.1 hal.2
        exact (hb.each x hx).each o ho
      have hsl2 : SmallL (l ++ [o]) := ⟨by have := hal.1; simp; omega, fun y hy => by
        rcases List.mem_append.1 hy with hy | hy
        · exact hsl.each y hy
        · rw [List.mem_singleton.1 hy]; exact hos⟩
      have hl2 : (l ++ [o]).length + away libs (l ++ [o]) ≤ l0.length + libs.flatten.length := by have := hal.1; simp; omega
      simp [deckOr, deck_take, appendA, hc2, List.range_succ, List.take_of_length_le]
      exact ⟨n, l ++ [o], ⟨hg, by have := hal.1; omega, hsl2, hl2⟩, by omega, ny + 1, Env.le_of (by simp), ny + 1 + 1, Mem.le_of rfl (by simp)⟩
end Go.Pm

/- ZkC15: contracts: texts in a list. -/
namespace Go.Pm
open Go Go.Proofs
attribute [-simp] List.getElem?_map

theorem call145 (d : DDef) (n : ByteArray) (q : Bool) : PCalls Zk.pg 145 [.agg d.av, .iptr q [.str n]] fun out => out = .ret (.bool (eqS d.name n)) := by
  refine ok145.pcalls (by simp) ?_
  simp [c145, cr145, DDef.av]

theorem call180 (p : Bool) (l : List ByteArray) (n : ByteArray) (hl : l.length ≤ 4000000000000) : PCalls Zk.pg 180 [.list p 1 (l.map fun s => [.str s]), .str n] fun out => out = .ret (.int .i64 (indexF (fun s => eqS n s) l 0)) := by
  refine ok180.pcalls (by simp) ?_
  simp [c180]
  refine wpS_loop (ι := Nat) (fun i => [(0, .list p 1 (l.map fun s => [.str s])), (1, .str n), (7, .int .i64 l.length), (8, .int .i64 i)]) (fun _ => ⟨[], 0⟩) (fun i => l.length - i)
    (fun i => i ≤ l.length ∧ indexF (fun s => eqS n s) l 0 = indexF (fun s => eqS n s) (l.drop i) i) 0 (by simp) (Env.le_of (by simp)) rfl ?_
  intro i ⟨hi, hall⟩
  have hw : IntKind.i64.wrap (i + 1) = i + 1 := wrap64 (by omega) (by omega)
  simp
  refine br_cond rfl (fun h => ?_) (fun h => ?_)
  · have hlt : i < l.length := by have := ltI_t.1 h; omega
    simp [h, idxM]
    refine br_cond rfl (fun h1 => ?_) (fun h1 => ?_)
    · have : indexF (fun s => eqS n s) (l.drop i) i = i := by
        rw [List.drop_eq_getElem_cons hlt]
        have e : l[i] = ix l i := by simp [ix, List.getD, hlt]
        rw [e, indexF, if_pos h1]
      simp [cr180, hall, this]
    · simp [hw]
      exact ⟨i + 1, ⟨by omega, by rw [hall]; exact indexF_shift hlt h1⟩, by omega, Env.le_of (by simp), Mem.le_of rfl (by simp)⟩
  · have hid : i = l.length := by have := ltI_f.1 h; omega
    subst hid
    simp [h, cr180, hall, indexF]

theorem call144 (p : Bool) (l : List ByteArray) (n : ByteArray) (hl : l.length ≤ 4000000000000) : PCalls Zk.pg 144 [.list p 1 (l.map fun s => [.str s]), .str n] fun out => out = .ret (.bool (l.any fun s => eqS n s)) := by
  refine ok144.pcalls (by simp) ?_
  simp [c144, -List.any_eq_true]
  refine xcall_p (call180 p l n hl) (by simp) ?_
  rw [← index_any l 0]
  simp [cr144]
end Go.Pm

/- ZkC18: contracts: which names are lacking; which object of a library is taken. -/
namespace Go.Pm
open Go Go.Proofs
attribute [-simp] List.getElem?_map

/-- The names that are lacking, each once. -/
def lackL (nm : List DDef) : List ByteArray → List ByteArray → List ByteArray
  | [], ms => ms
  | n :: ns, ms => if (outerF nm n).isSome then lackL nm ns ms else if ms.any (fun s => eqS n s) then lackL nm ns ms else lackL nm ns (ms ++ [n])
def textsR (ms : List ByteArray) : List (List AV) := ms.map fun s => [.str s]

set_option maxHeartbeats 4000000 in
theorem call113 (pre : List (Nat × AObj)) (base : Int) (G : LG) (s : LSt) (nx : Nat) (hs : s.Small) :
    ACalls Zk.pg 113 [.ptr (pre.length + 2) (G.a + 2) 0] ⟨pre ++ lkObjs pre.length base G s, nx⟩ fun out m => ∃ g nx', out = .ret (.row (pre.length + 7) g 1 0 (lackL s.nmap (refNames s.objs) []).length) ∧
      m = ⟨pre ++ (lkObjs pre.length base G s ++ [(g, .row 9 1 (textsR (lackL s.nmap (refNames s.objs) [])))]), nx'⟩ := by
  refine ACalls.forget ?_
  refine ok113.acalls (by simp) ?_
  have sl := hs.objs
  have hmx := refs_max (l := s.objs) ⟨sl, fun o ho => (hs.fit o ho).small⟩
  generalize hM : lackL s.nmap (refNames s.objs) [] = M
  simp [c113, lkObjs, lkCells]
  refine wpS_loopS (ι := (Nat × List ByteArray) × (Nat × Nat)) (fun q => [(0, .ptr (pre.length + 2) (G.a + 2) 0), (3, .row (pre.length + 7) q.2.1 1 0 q.1.2.length), (13, .row (pre.length + 3) G.o 5 0 s.objs.length), (14, .int .i64 s.objs.length), (15, .int .i64 q.1.1)])
    (fun q => ⟨pre ++ (lkObjs pre.length base G s ++ [(q.2.1, .row 9 1 (textsR q.1.2))]), q.2.2⟩) (fun q => s.objs.length - q.1.1)
    (fun q => q.1.1 ≤ s.objs.length ∧ M = lackL s.nmap (refNames (s.objs.drop q.1.1)) q.1.2 ∧ q.1.2.length + (refNames (s.objs.drop q.1.1)).length ≤ (refNames s.objs).length) ((0, []), (nx, nx + 1)) ⟨Nat.zero_le _, hM.symm, by simp⟩
    (Sim.after (Sim.nil_env 3 9 (sz := 1) (by omega) (by simp)) (Sim.of_le (Env.le_of (by simp)) (Mem.le_of rfl (by simp [lkObjs, lkCells, textsR])))) ?_
  intro ⟨⟨i, ms⟩, ⟨g, ny⟩⟩ ⟨hi, hall, hml⟩
  simp only at hi hall hml
  have hw : IntKind.i64.wrap (i + 1) = i + 1 := wrap64 (by omega) (by omega)
  simp
  refine br_cond rfl (fun h => ?_) (fun h => ?_)
  · have hlt : i < s.objs.length := by have := ltI_t.1 h; omega
    have hos := (hs.fit _ (ix_mem hlt)).small
    have hrl := hos.refs
    have hrn : refNames (s.objs.drop i) = (ix s.objs i).refs.map (·.name) ++ refNames (s.objs.drop (i + 1)) := by rw [drop_ix hlt]; rfl
    rw [hrn] at hall
    rw [hrn, List.length_append, List.length_map] at hml
    simp [h, idxM, lkObjs, lkCells, deck_take]
    generalize hoi : ix s.objs i = o at *
    simp [Deck.av]
    refine wpS_loopS (ι := (Nat × List ByteArray) × (Nat × Nat)) (fun q => [(0, .ptr (pre.length + 2) (G.a + 2) 0), (3, .row (pre.length + 7) q.2.1 1 0 q.1.2.length), (13, .row (pre.length + 3) G.o 5 0 s.objs.length), (14, .int .i64 s.objs.length), (15, .int .i64 i), (20, .list true 3 (o.refs.map DRef.av)), (21, .int .i64 o.refs.length), (22, .int .i64 q.1.1)])
      (fun q => ⟨pre ++ (lkObjs pre.length base G s ++ [(q.2.1, .row 9 1 (textsR q.1.2))]), q.2.2⟩) (fun q => o.refs.length - q.1.1)
      (fun q => q.1.1 ≤ o.refs.length ∧ M = lackL s.nmap ((o.refs.drop q.1.1).map (·.name) ++ refNames (s.objs.drop (i + 1))) q.1.2 ∧ q.1.2.length + ((o.refs.length - q.1.1) + (refNames (s.objs.drop (i + 1))).length) ≤ (refNames s.objs).length) ((0, ms), (g, ny + 1)) ⟨Nat.zero_le _, hall, by simp only [Nat.sub_zero]; exact hml⟩
      (Sim.of_le (Env.le_of (by simp)) (Mem.le_of rfl (by simp [lkObjs, lkCells]))) ?_
    clear hall hml
    intro ⟨⟨k, ms⟩, ⟨g, ny⟩⟩ ⟨hk, hka, hml⟩
    simp only at hk hka hml
    have hwk : IntKind.i64.wrap (k + 1) = k + 1 := wrap64 (by omega) (by omega)
    have b1 : (ms.length + 1) * 16 ≤ 140737488355328 ∧ ms.length + 1 ≤ 9223372036854775807 := ⟨by omega, by omega⟩
    simp
    refine br_cond rfl (fun h2 => ?_) (fun h2 => ?_)
    · have hlk : k < o.refs.length := by have := ltI_t.1 h2; omega
      rw [drop_ix hlk, List.map_cons, List.cons_append, lackL] at hka
      generalize hri : ix o.refs k = r at *
      cases hz : outerF s.nmap r.name with
      | some v =>
        rw [hz] at hka
        simp [h2, idxM, hri, DRef.av, lkObjs, lkCells, hz, hwk]
        exact ⟨k + 1, ms, ⟨by omega, by rw [← List.map_drop]; exact hka, by omega⟩, by omega, g, ny + 1, Sim.of_le (Env.le_of (by simp)) (Mem.le_of rfl (by simp [lkObjs, lkCells]))⟩
      | none =>
        rw [hz] at hka
        simp only [Option.isSome_none, Bool.false_eq_true, if_false] at hka
        simp [h2, idxM, hri, DRef.av, lkObjs, lkCells, hz, hwk]
        refine xcall_p (call144 false ms r.name (by omega)) (by simp [textsR]) ?_
        cases hc : ms.any (fun s => eqS r.name s) with
        | true =>
          rw [hc, if_pos rfl] at hka
          simp [hwk]
          exact ⟨k + 1, ms, ⟨by omega, by rw [← List.map_drop]; exact hka, by omega⟩, by omega, g, ny + 1, Sim.of_le (Env.le_of (by simp)) (Mem.le_of rfl (by simp [lkObjs, lkCells]))⟩
        | false =>
          rw [hc, if_neg (by simp)] at hka
          simp [hwk, appendA, b1, List.range_succ, textsR]
          exact ⟨k + 1, ms ++ [r.name], ⟨by omega, by rw [← List.map_drop]; exact hka, by simp; omega⟩, by omega, ny + 1 + 1, ny + 1 + 1 + 1, Sim.of_le (Env.le_of (by simp)) (Mem.le_of rfl (by simp [lkObjs, lkCells, textsR]))⟩
    · have hkl : k = o.refs.length := by have := ltI_f.1 h2; omega
      rw [hkl, List.drop_length, List.map_nil, List.nil_append] at hka
      simp [h2, hw]
      exact ⟨i + 1, ms, ⟨by omega, hka, by omega⟩, by omega, g, ny, Sim.of_le (Env.le_of (by simp)) (Mem.le_of rfl (by simp [lkObjs, lkCells]))⟩
  · have hil : i = s.objs.length := by have := ltI_f.1 h; omega
    rw [hil, List.drop_length] at hall
    have hM2 : M = ms := hall
    subst hM2
    simp [h, cr113]
    exact ⟨_, Mem.le_refl _, _, rfl⟩

def takesL (own : List ByteArray) (name : ByteArray) (o : Deck) : Bool := !hasS own o.name && (linkDefs o).any fun d => eqS d.name name
def findIn (own : List ByteArray) (name : ByteArray) (l : List Deck) : Option Deck := l.find? (takesL own name)
def foundL (own : List ByteArray) (libs : List (List Deck)) (name : ByteArray) : Option Deck := findIn own name libs.flatten
theorem findIn_cons {own : List ByteArray} {name : ByteArray} {o : Deck} {l : List Deck} : findIn own name (o :: l) = if (!hasS own o.name && (linkDefs o).any fun d => eqS d.name name) = true then some o else findIn own name l := by
  unfold findIn
  rw [List.find?_cons]
  show (match takesL own name o with | true => _ | false => _) = _
  unfold takesL
  cases (!hasS own o.name && (linkDefs o).any fun d => eqS d.name name) <;> rfl

theorem norefL_deckOr (o : Option Deck) : norefL (deckOr o) = true := by
  cases o with
  | none => simp [deckOr]
  | some o => exact norefL_deck o
@[simp] theorem deckOr_len (o : Option Deck) : (deckOr o).length = 5 := by cases o <;> simp [deckOr]

set_option maxHeartbeats 4000000 in
theorem call114 (pre : List (Nat × AObj)) (base : Int) (G : LG) (s : LSt) (x : Nat × AObj) (nx : Nat) (q : Bool) (name : ByteArray) (libs : List (List Deck)) (hb : SmallLL libs) :
    ACalls Zk.pg 114 [.ptr (pre.length + 2) (G.a + 2) 0, .str name, .list q 1 (libs.map libAV)] ⟨pre ++ (lkObjs pre.length base G s ++ [x]), nx⟩ fun out m => ∃ nx', out = .ret (.tuple [.agg (deckOr (foundL s.own libs name)), .bool (foundL s.own libs name).isSome]) ∧
      m = ⟨pre ++ (lkObjs pre.length base G s ++ [x]), nx'⟩ := by
  refine ACalls.forget ?_
  refine ok114.acalls (by simp) ?_
  have hbl := hb.len
  generalize hF : foundL s.own libs name = F
  have hF' : F = findIn s.own name libs.flatten := hF.symm
  have hle : ∀ (post : List (Nat × AObj)) k, Mem.le ⟨pre ++ (lkObjs pre.length base G s ++ [x]), k⟩ ⟨pre ++ (lkObjs pre.length base G s ++ x :: post), k⟩ := fun post k => Mem.le_of rfl (by simp [lkObjs])
  simp [c114, lkObjs, lkCells]
  refine wpS_loopS (ι := Nat × Nat) (fun u => [(0, .ptr (pre.length + 2) (G.a + 2) 0), (4, .ptr (pre.length + 8) nx 0), (6, .ptr (pre.length + 9) (nx + 1) 0), (12, .list q 1 (libs.map libAV)), (13, .int .i64 libs.length), (14, .int .i64 u.1)])
    (fun u => ⟨pre ++ (lkObjs pre.length base G s ++ [x, (nx, .cells [.str name]), (nx + 1, .cells deck0)]), u.2⟩) (fun u => libs.length - u.1) (fun u => u.1 ≤ libs.length ∧ F = findIn s.own name (libs.drop u.1).flatten) (0, nx + 1 + 1) ⟨Nat.zero_le _, hF'⟩
    (Sim.of_le (Env.le_of (by simp)) (Mem.le_of rfl (by simp [lkObjs, lkCells, deck0]))) ?_
  intro ⟨i, ny⟩ ⟨hi, hall⟩
  simp only at hi hall
  have hw : IntKind.i64.wrap (i + 1) = i + 1 := wrap64 (by omega) (by omega)
  simp
  refine br_cond rfl (fun h => ?_) (fun h => ?_)
  · have hlt : i < libs.length := by have := ltI_t.1 h; omega
    rw [drop_ix hlt, List.flatten_cons] at hall
    have hsl := hb.each _ (ix_mem hlt)
    generalize hxi : ix libs i = ds at *
    have dl := hsl.len
    simp [h, idxM, hxi, libAV, decksAV]
    refine wpS_loopS (ι := Nat × Nat) (fun u => [(0, .ptr (pre.length + 2) (G.a + 2) 0), (4, .ptr (pre.length + 8) nx 0), (6, .ptr (pre.length + 9) (nx + 1) 0), (12, .list q 1 (libs.map libAV)), (13, .int .i64 libs.length), (14, .int .i64 i), (18, .list true 5 (ds.map Deck.av)), (19, .int .i64 ds.length), (20, .int .i64 u.1)])
      (fun u => ⟨pre ++ (lkObjs pre.length base G s ++ [x, (nx, .cells [.str name]), (nx + 1, .cells deck0)]), u.2⟩) (fun u => ds.length - u.1) (fun u => u.1 ≤ ds.length ∧ F = findIn s.own name (ds.drop u.1 ++ (libs.drop (i + 1)).flatten)) (0, ny) ⟨Nat.zero_le _, hall⟩
      (Sim.of_le (Env.le_of (by simp)) (Mem.le_of rfl (by simp))) ?_
    clear hall
    intro ⟨k, ny⟩ ⟨hk, hka⟩
    simp only at hk hka
    have hwk : IntKind.i64.wrap (k + 1) = k + 1 := wrap64 (by omega) (by omega)
    simp
    refine br_cond rfl (fun h2 => ?_) (fun h2 => ?_)
    · have hlk : k < ds.length := by have := ltI_t.1 h2; omega
      have hos := hsl.each _ (ix_mem hlk)
      rw [drop_ix hlk, List.cons_append, findIn_cons] at hka
      generalize hoi : ix ds k = o at *
      cases hy : hasS s.own o.name with
      | true =>
        rw [hy] at hka
        rw [if_neg (by simp)] at hka
        simp [h2, idxM, hoi, lkObjs, lkCells, deck0, Deck.av, hy, hwk]
        exact ⟨k + 1, ⟨by omega, hka⟩, by omega, ny + 1, Sim.of_le (Env.le_of (by simp)) (Mem.le_of rfl (by simp [lkObjs, lkCells, deck0]))⟩
      | false =>
        rw [hy, Bool.not_false, Bool.true_and] at hka
        simp [h2, idxM, hoi, lkObjs, lkCells, deck0, Deck.av, hy, hwk]
        refine xdcall_p rfl (call112 o hos) (by simp [Deck.av]) ?_
        simp
        have hdl := linkDefs_len o
        have hod := hos.defs
        refine xdcall_p rfl (call142 true (linkDefs o) 145 [.iptr false [.str name]] (fun d => eqS d.name name) (by omega) (by simp) (by simp) (fun d => call145 d name false)) (by simp) ?_
        rw [index_any]
        cases ha : (linkDefs o).any (fun d => eqS d.name name) with
        | true =>
          rw [ha, if_pos rfl] at hka
          subst hka
          simp [cr114, deckOr, Deck.av]
          exact ⟨_, hle _ _, _, rfl⟩
        | false =>
          rw [ha, if_neg (by simp)] at hka
          simp [hwk]
          exact ⟨k + 1, ⟨by omega, hka⟩, by omega, ny + 1, Sim.of_le (Env.le_of (by simp)) (Mem.le_of rfl (by simp [lkObjs, lkCells, deck0]))⟩
    · have hkl : k = ds.length := by have := ltI_f.1 h2; omega
      rw [hkl, List.drop_length, List.nil_append] at hka
      simp [h2, hw]
      exact ⟨i + 1, ⟨by omega, hka⟩, by omega, ny, Sim.of_le (Env.le_of (by simp)) (Mem.le_of rfl (by simp))⟩
  · have hil : i = libs.length := by have := ltI_f.1 h; omega
    rw [hil, List.drop_length] at hall
    have hF2 : F = none := hall
    subst hF2
    simp [h, lkObjs, deck0, cr114]
    exact ⟨_, hle _ _, rfl, _, rfl⟩
end Go.Pm

/- ZkC19: contracts: what is needed of libraries is put behind the others. -/
namespace Go.Pm
open Go Go.Proofs
attribute [-simp] List.getElem?_map

theorem ACalls.of_le {P : Prg} {f : FuncId} {xs : List AV} {m1 m : Mem} {R : AOut → Mem → Prop} (hle : Mem.le m1 m) (h : ACalls P f xs m1 R) : ACalls P f xs m R := by
  refine ⟨h.1, fun β K σ w vals hrel hv hβ => h.2 β K σ w vals ?_ hv hβ⟩
  obtain ⟨h1, n, h2⟩ := hle
  have : m1 = ⟨m.store.take n, m.next⟩ := by cases m1; simp only at h1 h2; rw [h1, h2]
  rw [this]
  exact hrel.forget n

theorem xcall_q {P : Prg} {imp : List FuncId} {Q : Post} {e : Env} {m : Mem} {fs : List Fr} {l : List SOp} {d : List Nat} {dst : Option Nat} {f : FuncId} {xs : List AV} {R : AOut → Mem → Prop} (h : ACalls P f xs m R)
    (hr : ∀ v m', R (.ret v) m' → xops P imp l d fs Q (e.put dst v) m') (hp : ∀ v m', R (.panic v) m' → lv P imp (.panic v) fs Q e m') : xcall P imp f xs dst l d fs Q e m := by
  refine ⟨R, h, fun out m' hR => ?_⟩
  cases out with
  | ret v => exact (hr v m' hR).out
  | panic v => exact (hp v m' hR).out

/-- The first name for which there is an object. -/
def firstL (own : List ByteArray) (libs : List (List Deck)) : List ByteArray → Option Deck
  | [] => none
  | n :: ns => match foundL own libs n with
    | some o => some o
    | none => firstL own libs ns
def awayL (libs : List (List Deck)) (own : List ByteArray) : Nat := (libs.flatten.filter fun o => !hasS own o.name).length
def neededL (libs : List (List Deck)) : Nat → LSt → LSt × List ByteArray
  | 0, s => (s, [])
  | n + 1, s => match firstL s.own libs (lackL s.nmap (refNames s.objs) []) with
    | none => (s, lackL s.nmap (refNames s.objs) [])
    | some o => neededL libs n (putNF s o)

theorem hasS_addS {l : List ByteArray} {s x : ByteArray} : hasS (addS l s) x = (hasS l x || eqS s x) := by
  unfold addS
  split
  · rename_i h
    cases hx : eqS s x with
    | false => simp
    | true => rw [← eqS_t.1 hx, h]; simp
  · simp [hasS]
theorem firstL_mem {own : List ByteArray} {libs : List (List Deck)} {o : Deck} : ∀ {ms : List ByteArray}, firstL own libs ms = some o → o ∈ libs.flatten ∧ hasS own o.name = false
  | [], h => by simp [firstL] at h
  | n :: ns, h => by
    unfold firstL at h
    split at h
    · rename_i o' ho
      injection h with h; subst h
      unfold foundL findIn at ho
      have hm := List.mem_of_find?_eq_some ho
      have ht := List.find?_some ho
      simp only [takesL, Bool.and_eq_true, Bool.not_eq_true'] at ht
      exact ⟨hm, ht.1⟩
    · exact firstL_mem h
theorem awayL_less {libs : List (List Deck)} {own : List ByteArray} {o : Deck} (hm : o ∈ libs.flatten) (h : hasS own o.name = false) : awayL libs (addS own o.name) < awayL libs own := by
  refine filter_lt (o := o) (fun x hx => ?_) (by rw [h]; rfl) (by rw [hasS_addS, eqS_t.2 rfl]; simp) hm
  rw [hasS_addS, Bool.not_or, Bool.and_eq_true] at hx
  exact hx.1

theorem lackL_len (nm : List DDef) : ∀ (ns ms : List ByteArray), (lackL nm ns ms).length ≤ ms.length + ns.length
  | [], ms => by simp [lackL]
  | n :: ns, ms => by
    rw [lackL]
    have h1 := lackL_len nm ns ms
    have h2 := lackL_len nm ns (ms ++ [n])
    simp only [List.length_append, List.length_cons, List.length_nil] at h1 h2 ⊢
    split
    · omega
    · split <;> omega

set_option maxHeartbeats 4000000 in
theorem call72 (pre : List (Nat × AObj)) (base : Int) (G0 : LG) (s0 : LSt) (nx0 : Nat) (q : Bool) (libs : List (List Deck)) (hb : SmallLL libs) (hfit : ∀ o ∈ libs.flatten, o.Fit) (hs0 : s0.Small) (hsum : s0.objs.length + libs.flatten.length ≤ 2000000) :
    ACalls Zk.pg 72 [.ptr (pre.length + 2) (G0.a + 2) 0, .list q 1 (libs.map libAV)] ⟨pre ++ lkObjs pre.length base G0 s0, nx0⟩ fun out m => ∃ o' n' d' l' g nx', (neededL libs (libs.flatten.length + 1) s0).1.Small ∧
      out = .ret (.row (pre.length + 7) g 1 0 (neededL libs (libs.flatten.length + 1) s0).2.length) ∧
      m = ⟨pre ++ (lkObjs pre.length base ⟨G0.a, o', n', d', l'⟩ (neededL libs (libs.flatten.length + 1) s0).1 ++ [(g, .row 9 1 (textsR (neededL libs (libs.flatten.length + 1) s0).2))]), nx'⟩ := by
  refine ACalls.forget ?_
  refine ok72.acalls (by simp) ?_
  have haw : ∀ own, awayL libs own ≤ libs.flatten.length := fun own => List.length_filter_le _ _
  generalize hN : neededL libs (libs.flatten.length + 1) s0 = N
  simp [c72]
  refine wpS_loopS (ι := (Nat × LSt) × (LG × Nat)) (fun u => [(0, .ptr (pre.length + 2) (G0.a + 2) 0), (1, .list q 1 (libs.map libAV))]) (fun u => ⟨pre ++ lkObjs pre.length base u.2.1 u.1.2, u.2.2⟩) (fun u => u.1.1)
    (fun u => N = neededL libs u.1.1 u.1.2 ∧ awayL libs u.1.2.own < u.1.1 ∧ u.1.2.Small ∧ u.1.2.objs.length + awayL libs u.1.2.own ≤ 2000000 ∧ u.2.1.a = G0.a) ((libs.flatten.length + 1, s0), (G0, nx0))
    ⟨hN.symm, by have := haw s0.own; simp only; omega, hs0, by have := haw s0.own; simp only; omega, rfl⟩ (Sim.of_le (Env.le_of (by simp)) (Mem.le_of rfl (by simp))) ?_
  intro ⟨⟨n, s⟩, ⟨G, nx⟩⟩ ⟨hall, haw1, hs, hlen, hGa⟩
  simp only at hall haw1 hs hlen hGa
  obtain ⟨n, rfl⟩ : ∃ n', n = n' + 1 := ⟨n - 1, by omega⟩
  rw [neededL] at hall
  have c113 := call113 pre base G s nx hs
  rw [hGa] at c113
  generalize hM : lackL s.nmap (refNames s.objs) [] = M at *
  have hmlen : M.length ≤ 3000000000000 := by
    rw [← hM]
    have h1 := lackL_len s.nmap (refNames s.objs) []
    have h2 := refs_max (l := s.objs) ⟨hs.objs, fun o ho => (hs.fit o ho).small⟩
    simp only [List.length_nil, Nat.zero_add] at h1
    omega
  simp
  refine xcall_q c113 ?_ (by rintro v m' ⟨_, _, h, _⟩; cases h)
  rintro v m' ⟨g, ny, hv, rfl⟩
  injection hv with hv; subst hv
  simp
  refine wpS_loopS (ι := Nat × Nat) (fun u => [(0, .ptr (pre.length + 2) (G0.a + 2) 0), (1, .list q 1 (libs.map libAV)), (5, .row (pre.length + 7) g 1 0 M.length), (12, .row (pre.length + 7) g 1 0 M.length), (13, .int .i64 M.length), (14, .int .i64 u.1)])
    (fun u => ⟨pre ++ (lkObjs pre.length base G s ++ [(g, .row 9 1 (textsR M))]), u.2⟩) (fun u => M.length - u.1) (fun u => u.1 ≤ M.length ∧ firstL s.own libs M = firstL s.own libs (M.drop u.1)) (0, ny) ⟨Nat.zero_le _, rfl⟩
    (Sim.of_le (Env.le_of (by simp)) (Mem.le_of rfl (by simp))) ?_
  intro ⟨i, nz⟩ ⟨hi, hfi⟩
  simp only at hi hfi
  have hw : IntKind.i64.wrap (i + 1) = i + 1 := wrap64 (by omega) (by omega)
  simp
  refine br_cond rfl (fun h => ?_) (fun h => ?_)
  · have hlt : i < M.length := by have := ltI_t.1 h; omega
    rw [drop_ix hlt, firstL] at hfi
    have c114 := call114 pre base G s (g, .row 9 1 (textsR M)) nz q (ix M i) libs hb
    rw [hGa] at c114
    generalize hnm : ix M i = nm at *
    have hel : (textsR M)[i]? = some [.str nm] := by unfold textsR; rw [idxM h, hnm]
    have hob : (lkObjs pre.length base G s ++ [(g, AObj.row 9 1 (textsR M))])[7]? = some (g, .row 9 1 (textsR M)) := rfl
    simp [h, hob, hel]
    refine xcall_q c114 ?_ (by rintro v m' ⟨_, h, _⟩; cases h)
    rintro v m' ⟨nz', hv, rfl⟩
    injection hv with hv; subst hv
    cases hfo : foundL s.own libs nm with
    | none =>
      rw [hfo] at hfi
      simp only at hfi
      simp [deckOr, hw]
      exact ⟨i + 1, ⟨by omega, hfi⟩, by omega, nz' + 1, Sim.of_le (Env.le_of (by simp)) (Mem.le_of rfl (by simp [lkObjs]))⟩
    | some o =>
      rw [hfo] at hfi
      simp only at hfi
      obtain ⟨hmem, hown⟩ := firstL_mem hfi
      have hof := hfit o hmem
      rw [hfi] at hall
      simp only at hall
      have hless := awayL_less hmem hown
      have hob2 : (lkObjs pre.length base G s ++ [(g, AObj.row 9 1 (textsR M)), (nz', AObj.cells o.av)])[8]? = some (nz', .cells o.av) := rfl
      have hpf := putL_false s o
      have hsm := putL_small hs hof (by omega) hpf
      obtain ⟨e1, e2, _⟩ := putL_same hpf
      simp [deckOr, Deck.av]
      have c71 := call71 pre base G s o false (nz' + 1) hs hof
      rw [hGa] at c71
      refine xcall_q (R := put27 pre base G false s o) (ACalls.of_le (m1 := ⟨pre ++ lkObjs pre.length base G s, nz' + 1⟩) (Mem.le_of rfl (by simp [lkObjs])) (by exact c71)) ?_ (by intro v m' h; unfold put27 at h; rw [hpf] at h; obtain ⟨h, _⟩ := h; cases h)
      intro v m' hput
      unfold put27 at hput
      rw [hpf] at hput
      obtain ⟨_, o', n', d', l', nx', rfl⟩ := hput
      simp
      exact ⟨n, putNF s o, ⟨G.a, o', n', d', l'⟩, ⟨hall, by rw [e2]; omega, hsm, by rw [e1, e2, List.length_append]; simp only [List.length_singleton]; omega, hGa⟩, by omega, nx', Sim.of_le (Env.le_of (by simp)) (Mem.le_of rfl (by simp))⟩
  · have hil : i = M.length := by have := ltI_f.1 h; omega
    rw [hil, List.drop_length] at hfi
    have hf0 : firstL s.own libs M = none := hfi
    rw [hf0] at hall
    simp only at hall
    subst hall
    simp [h, cr72]
    refine ⟨_, Mem.le_refl _, hs, G.o, G.n, G.d, G.l, nz, ?_⟩
    rw [← hGa]
end Go.Pm

/-
  DERIVED: THE SHELF's CONTRACTS AT THIS DUMP, IN PLAIN WORDS (tools/lay-plain.mjs out of 'TrySrtShelf.lean', which tools/lay-shelf.mjs wrote): THE SAME DECLARATIONS UNDER THE SAME NAMES: 'import', 'namespace', 'open', 'def', 'theorem' AND NOTHING ELSE: no command of the shelf's: FOR A HAND-IN. Each laying: the table of numbers ('.._ren') and one theorem, a field a fact of the dump's own or the kernel's comparison; each contract: ONE APPLICATION.
-/

namespace Go.Proofs
open Go.Shelf
def Tryz.sortDef_ren : Go.Shelf.Ren := ⟨fun | 6 => 115 | 15 => 138 | 14 => 146 | 28 => 172 | 29 => 173 | 20 => 181 | 21 => 182 | 22 => 183 | 23 => 184 | 24 => 185 | 25 => 186 | 26 => 187 | 27 => 188 | 46 => 216 | 47 => 208 | 48 => 209 | 49 => 217 | 50 => 218 | 57 => 229 | n => n, fun | 22 => 23 | 24 => 65 | 25 => 196 | 3 => 3 | 39 => 153 | 0 => 0 | 53 => 193 | 55 => 226 | 4 => 4 | 46 => 234 | 45 => 233 | 50 => 158 | 5 => 5 | 9 => 9 | 66 => 265 | 70 => 269 | 76 => 283 | 77 => 284 | n => n, fun | n => n⟩
theorem Tryz.sortDef : Go.Proofs.SlLaysF0.n6 Tryz.prog Tryz.sortDef_ren := {
  mixed := by kernel_rfl
  f6 := ⟨Tryz.f115.name, by decide, Tryz.func115.trans (congrArg some (by kernel_rfl))⟩
  f14 := ⟨Tryz.f146.name, by decide, Tryz.func146.trans (congrArg some (by kernel_rfl))⟩
  f15 := Tryz.func138.trans (congrArg some (by kernel_rfl))
  f20 := ⟨Tryz.f181.name, by decide, Tryz.func181.trans (congrArg some (by kernel_rfl))⟩
  f21 := ⟨Tryz.f182.name, by decide, Tryz.func182.trans (congrArg some (by kernel_rfl))⟩
  f22 := ⟨Tryz.f183.name, by decide, Tryz.func183.trans (congrArg some (by kernel_rfl))⟩
  f23 := ⟨Tryz.f184.name, by decide, Tryz.func184.trans (congrArg some (by kernel_rfl))⟩
  f24 := ⟨Tryz.f185.name, by decide, Tryz.func185.trans (congrArg some (by kernel_rfl))⟩
  f25 := ⟨Tryz.f186.name, by decide, Tryz.func186.trans (congrArg some (by kernel_rfl))⟩
  f26 := ⟨Tryz.f187.name, by decide, Tryz.func187.trans (congrArg some (by kernel_rfl))⟩
  f27 := ⟨Tryz.f188.name, by decide, Tryz.func188.trans (congrArg some (by kernel_rfl))⟩
  f28 := Tryz.func172.trans (congrArg some (by kernel_rfl))
  f29 := Tryz.func173.trans (congrArg some (by kernel_rfl))
  f46 := ⟨Tryz.f216.name, by decide, Tryz.func216.trans (congrArg some (by kernel_rfl))⟩
  f47 := Tryz.func208.trans (congrArg some (by kernel_rfl))
  f48 := Tryz.func209.trans (congrArg some (by kernel_rfl))
  f49 := ⟨Tryz.f217.name, by decide, Tryz.func217.trans (congrArg some (by kernel_rfl))⟩
  f50 := ⟨Tryz.f218.name, by decide, Tryz.func218.trans (congrArg some (by kernel_rfl))⟩
  f57 := ⟨Tryz.f229.name, by decide, Tryz.func229.trans (congrArg some (by kernel_rfl))⟩
  t0 := Tryz.underlying0
  a0 := Tryz.isAgg0
  z0 := Tryz.sizeOf0
  v0 := Tryz.zeroValue0
  t3 := Tryz.underlying3
  a3 := Tryz.isAgg3
  z3 := Tryz.sizeOf3
  v3 := Tryz.zeroValue3
  t4 := Tryz.underlying4
  a4 := Tryz.isAgg4
  z4 := Tryz.sizeOf4
  v4 := Tryz.zeroValue4
  t5 := Tryz.underlying5
  a5 := Tryz.isAgg5
  z5 := Tryz.sizeOf5
  v5 := Tryz.zeroValue5
  t9 := Tryz.underlying9
  a9 := Tryz.isAgg9
  z9 := Tryz.sizeOf9
  v9 := Tryz.zeroValue9
  t22 := Tryz.underlying23
  a22 := Tryz.isAgg23
  z22 := Tryz.sizeOf23
  v22 := Tryz.zeroValue23
  t25 := Tryz.underlying196
  a25 := Tryz.isAgg196
  z25 := Tryz.sizeOf196
  v25 := Tryz.zeroValue196
  t39 := Tryz.underlying153
  a39 := Tryz.isAgg153
  z39 := Tryz.sizeOf153
  v39 := Tryz.zeroValue153
  t45 := Tryz.underlying233
  a45 := Tryz.isAgg233
  z45 := Tryz.sizeOf233
  v45 := Tryz.zeroValue233
  t46 := Tryz.underlying234
  a46 := Tryz.isAgg234
  z46 := Tryz.sizeOf234
  v46 := Tryz.zeroValue234
  t50 := Tryz.underlying158
  a50 := Tryz.isAgg158
  z50 := Tryz.sizeOf158
  v50 := Tryz.zeroValue158
  t53 := Tryz.underlying193
  a53 := Tryz.isAgg193
  z53 := Tryz.sizeOf193
  v53 := Tryz.zeroValue193
  t55 := Tryz.underlying226
  a55 := Tryz.isAgg226
  z55 := Tryz.sizeOf226
  v55 := Tryz.zeroValue226
  t66 := Tryz.underlying265
  a66 := Tryz.isAgg265
  z66 := Tryz.sizeOf265
  v66 := Tryz.zeroValue265
  t70 := Tryz.underlying269
  a70 := Tryz.isAgg269
  z70 := Tryz.sizeOf269
  v70 := Tryz.zeroValue269
  t76 := Tryz.underlying283
  a76 := Tryz.isAgg283
  z76 := Tryz.sizeOf283
  v76 := Tryz.zeroValue283
  t77 := Tryz.underlying284
  a77 := Tryz.isAgg284
  z77 := Tryz.sizeOf284
  v77 := Tryz.zeroValue284 }
end Go.Proofs

/- ZkO: texts are in order. -/
namespace Go.Pm
open Go Go.Proofs

theorem less_irrefl : ∀ x : List UInt8, Op.bytesLess x x = false
  | [] => rfl
  | a :: x => by
    rw [Op.bytesLess, less_irrefl x]
    simp
theorem less_trans : ∀ x y z : List UInt8, Op.bytesLess x y = true → Op.bytesLess y z = true → Op.bytesLess x z = true
  | x, [], z, h, _ => by cases x <;> simp [Op.bytesLess] at h
  | [], b :: y, [], _, h => by simp [Op.bytesLess] at h
  | [], b :: y, c :: z, _, _ => by simp [Op.bytesLess]
  | a :: x, b :: y, [], _, h => by simp [Op.bytesLess] at h
  | a :: x, b :: y, c :: z, h1, h2 => by
    simp only [Op.bytesLess, Bool.or_eq_true, Bool.and_eq_true, decide_eq_true_eq, beq_iff_eq, UInt8.lt_iff_toNat_lt] at h1 h2 ⊢
    rcases h1 with h1 | ⟨rfl, h1⟩
    · rcases h2 with h2 | ⟨rfl, h2⟩
      · exact .inl (by omega)
      · exact .inl h1
    · rcases h2 with h2 | ⟨rfl, h2⟩
      · exact .inl h2
      · exact .inr ⟨rfl, less_trans x y z h1 h2⟩
theorem less_tri : ∀ x y : List UInt8, Op.bytesLess x y = true ∨ x = y ∨ Op.bytesLess y x = true
  | [], [] => .inr (.inl rfl)
  | [], b :: y => .inl rfl
  | a :: x, [] => .inr (.inr rfl)
  | a :: x, b :: y => by
    simp only [Op.bytesLess, Bool.or_eq_true, Bool.and_eq_true, decide_eq_true_eq, beq_iff_eq, UInt8.lt_iff_toNat_lt, List.cons.injEq]
    rcases Nat.lt_trichotomy a.toNat b.toNat with h | h | h
    · exact .inl (.inl h)
    · have e : a = b := UInt8.toNat_inj.1 h
      subst e
      rcases less_tri x y with h | h | h
      · exact .inl (.inr ⟨rfl, h⟩)
      · exact .inr (.inl ⟨rfl, h⟩)
      · exact .inr (.inr (.inr ⟨rfl, h⟩))
    · exact .inr (.inr (.inl h))
theorem less_asymm (x y : List UInt8) (h : Op.bytesLess x y = true) : Op.bytesLess y x = false := by
  cases h2 : Op.bytesLess y x with
  | false => rfl
  | true => have := less_trans _ _ _ h h2; rw [less_irrefl] at this; cases this

theorem toList_inj {a b : ByteArray} (h : a.toList = b.toList) : a = b := eqS_t.1 (by unfold eqS; rw [h]; exact beq_self_eq_true _)
theorem ltS_irrefl (a : ByteArray) : ltS a a = false := less_irrefl _
theorem ltS_trans {a b c : ByteArray} (h : ltS a b = true) (h' : ltS b c = true) : ltS a c = true := less_trans _ _ _ h h'
theorem ltS_asymm {a b : ByteArray} (h : ltS a b = true) : ltS b a = false := less_asymm _ _ h
theorem ltS_tri (a b : ByteArray) : ltS a b = true ∨ a = b ∨ ltS b a = true := by
  rcases less_tri a.toList b.toList with h | h | h
  · exact .inl h
  · exact .inr (.inl (toList_inj h))
  · exact .inr (.inr h)
end Go.Pm

/- ZkC23: the library's sort, as a contract. -/
namespace Go.Pm
open Go Go.Proofs Go.Shelf Go.RowKit Go.Lib Go.Sort
attribute [-simp] List.getElem?_map

def encD (d : DDef) : List Value := [.string d.name, .int .i64 d.at_]
def cmpD (a b : DDef) : Int := if ltS a.name b.name then -1 else if ltS b.name a.name then 1 else 0

set_option maxHeartbeats 2000000 in
theorem compare42 (x y : ByteArray) (W : World) : Calls Tryz.prog 117 #[.string x, .string y] W fun e w' => e = .returned (.int .i64 (if ltS x y then -1 else if ltS y x then 1 else 0)) ∧ w' = W := by
  have hg : ∀ W, (binOp .gtr 9 (.string x) (.string y)).run Tryz.prog W = .ok (.bool !(Op.bytesLess x.toList y.toList || x.toList == y.toList)) W := fun W => by simp [binOp, Op.stringOp]
  unfold ltS
  rcases less_tri x.toList y.toList with h | h | h
  · have h2 := less_asymm _ _ h
    rw [h, h2]
    go_enter Tryz.func117, Tryz.ntmps117
    go_wp2
    all_goals go_ret
    all_goals simp
  · have h2 := less_irrefl y.toList
    rw [h] at hg ⊢
    rw [h2] at hg ⊢
    simp only [beq_self_eq_true, Bool.or_true, Bool.not_true] at hg
    go_enter Tryz.func117, Tryz.ntmps117
    go_wp2
    all_goals go_ret
    all_goals simp
  · have h2 := less_asymm _ _ h
    have hne : (x.toList == y.toList) = false := by
      cases he : x.toList == y.toList with
      | false => rfl
      | true => rw [eq_of_beq he, less_irrefl] at h; cases h
    rw [h2, hne] at hg
    rw [h, h2]
    go_enter Tryz.func117, Tryz.ntmps117
    go_wp2
    all_goals go_ret
    all_goals simp

set_option maxHeartbeats 1000000 in
theorem closure58 (x y : DDef) (W : World) : Calls Tryz.prog 116 #[.agg #[.string x.name, .int .i64 x.at_], .agg #[.string y.name, .int .i64 y.at_]] W fun e w' => e = .returned (.int .i64 (cmpD x y)) ∧ ∃ q os', w' = grow (W.drewN q) os' := by
  have hcon := fun W' => compare42 x.name y.name W'
  change ∀ W', Calls Tryz.prog 117 _ _ _ at hcon
  unfold cmpD
  generalize (if ltS x.name y.name = true then (-1 : Int) else if ltS y.name x.name = true then 1 else 0) = r at hcon ⊢
  go_enter Tryz.func116, Tryz.ntmps116
  go_wp2_with (go_at_call 117; refine (hcon _).mono ?_; rintro e w' ⟨rfl, rfl⟩)
  go_ret
  exact ⟨rfl, 0, _, by rw [alloc_eq_grow, alloc_eq_grow, grow_grow]; rfl⟩

theorem cmpLays58 (blk off size : Nat) (w : World) : CmpLays Tryz.prog 116 #[] encD 2 cmpD blk off size w := fun _ _ _ _ x y => closure58 x y _

theorem ltOf_cmpD (x y : DDef) : ltOf cmpD x y = ltS x.name y.name := by
  unfold ltOf cmpD
  rcases ltS_tri x.name y.name with h | h | h
  · simp [h]
  · simp [h, ltS_irrefl]
  · simp [h, ltS_asymm h]
theorem swoD : SWO (ltOf cmpD) where
  irrefl x := by rw [ltOf_cmpD]; exact ltS_irrefl _
  trans x y z h1 h2 := by rw [ltOf_cmpD] at *; exact ltS_trans h1 h2
  ntrans x y z h1 h2 := by
    rw [ltOf_cmpD] at *
    cases h : ltS x.name z.name with
    | false => rfl
    | true =>
      rcases ltS_tri x.name y.name with h3 | h3 | h3
      · rw [h3] at h1; cases h1
      · rw [← h3, h] at h2; cases h2
      · rw [ltS_trans h3 h] at h2; cases h2

theorem sorted_world_heap (w : World) (b n : Nat) (d : Array DDef) (os : Array Obj) (hb : b < w.heap.size) {cur : Array Value} {e : TypeId} {fr : Nat × Nat} (h : w.heap[b]? = some (.cells cur e fr)) :
    (sortWorldK encD 2 w b 0 n d os).heap[b]? = some (.cells (putCells id 0 (flatK encD 2 d) cur) e fr) := by
  unfold sortWorldK
  rw [heap_grow_old _ _ (by rw [size_putRowK]; exact hb)]
  unfold putRowK putRow mapBlock
  show (w.heap.modify b _)[b]? = _
  rw [Array.getElem?_modify, if_pos rfl, h]
  rfl
theorem sorted_world_other (w : World) (b n k : Nat) (d : Array DDef) (os : Array Obj) (hk : k < w.heap.size) (hne : k ≠ b) : (sortWorldK encD 2 w b 0 n d os).heap[k]? = w.heap[k]? := by
  unfold sortWorldK
  rw [heap_grow_old _ _ (by rw [size_putRowK]; exact hk)]
  unfold putRowK putRow mapBlock
  show (w.heap.modify b _)[k]? = _
  rw [Array.getElem?_modify, if_neg (fun e => hne e.symm)]

theorem holds_of_rows {σ : Sig} {K : Bool → Nat → Prop} {w : World} {b : Nat} {ds : List DDef} {cur : Array Value} {e : TypeId} (hh : w.heap[b]? = some (.cells cur e (0, 0))) (h : LR σ K w b 0 2 (ds.map DDef.av)) : HoldsK encD 2 w b 0 ds.toArray := by
  intro t ht
  rw [size_flatK] at ht
  rw [get_flatK _ _ _ _ ht]
  have ht2 : t / 2 < ds.length := by simp at ht; omega
  have hd : (ds.toArray)[t / 2]! = ds[t / 2] := by rw [getElem!_pos _ _ (by simpa using ht2)]; simp
  rw [hd]
  obtain ⟨_, hc⟩ := LR_iff.1 h (t / 2) (DDef.av ds[t / 2]) (by rw [List.getElem?_map, List.getElem?_eq_getElem ht2]; rfl)
  refine ⟨?_, by simp [World.frozen?, hh]⟩
  have hm : t % 2 = 0 ∨ t % 2 = 1 := by omega
  rcases hm with hm | hm
  · obtain ⟨u, hu, _, hV⟩ := CR_iff.1 hc 0 (.str ds[t / 2].name) rfl
    rw [VR] at hV
    rw [hm, show 0 + t = 0 + t / 2 * 2 + 0 by omega, hu, hV]
    rfl
  · obtain ⟨u, hu, _, hV⟩ := CR_iff.1 hc 1 (.int .i64 ds[t / 2].at_) rfl
    rw [VR] at hV
    rw [hm, show 0 + t = 0 + t / 2 * 2 + 1 by omega, hu, hV]
    rfl

theorem rows_of_holds {σ : Sig} {K : Bool → Nat → Prop} {w : World} {b : Nat} {d : Array DDef} (h : HoldsK encD 2 w b 0 d) : LR σ K w b 0 2 (d.toList.map DDef.av) := by
  refine LR_iff.2 fun i c hc => ?_
  rw [List.getElem?_map, Option.map_eq_some_iff] at hc
  obtain ⟨x, hx, rfl⟩ := hc
  have hi : i < d.size := by have := (List.getElem?_eq_some_iff.1 hx).1; simpa using this
  have hx' : d[i]! = x := by
    rw [getElem!_pos d i hi]
    have := (List.getElem?_eq_some_iff.1 hx).2
    simpa using this
  have hs : (flatK encD 2 d).size = d.size * 2 := size_flatK _ _ _
  refine ⟨rfl, CR_iff.2 fun j y hj => ?_⟩
  have hj2 : j < 2 := (List.getElem?_eq_some_iff.1 hj).1
  have hh := (h (i * 2 + j) (by rw [hs]; omega)).1
  rw [get_flatK _ _ _ _ (by omega), show (i * 2 + j) / 2 = i by omega, hx'] at hh
  have hm : j = 0 ∨ j = 1 := by omega
  rcases hm with rfl | rfl
  · have : y = .str x.name := by simpa [DDef.av] using hj.symm
    subst this
    refine ⟨.string x.name, ?_, rfl, by rw [VR]⟩
    rw [show 0 + i * 2 + 0 = 0 + (i * 2 + 0) by omega, hh, show (i * 2 + 0) % 2 = 0 by omega]
    rfl
  · have : y = .int .i64 x.at_ := by simpa [DDef.av] using hj.symm
    subst this
    refine ⟨.int .i64 x.at_, ?_, rfl, by rw [VR]⟩
    rw [show 0 + i * 2 + 1 = 0 + (i * 2 + 1) by omega, hh, show (i * 2 + 1) % 2 = 1 by omega]
    rfl
end Go.Pm

/- ZkSo: definitions sorted by name. -/
namespace Go.Pm
open Go Go.Proofs
attribute [-simp] List.getElem?_map

def sortD (ds : List DDef) : List DDef := ds.foldl definedF []
theorem insPos_le (l : List DDef) (n : ByteArray) : insPos l n ≤ l.length := by
  unfold insPos
  exact (List.takeWhile_prefix _).length_le
theorem definedF_perm {l : List DDef} {d : DDef} (h : d.name ∉ l.map (·.name)) : (definedF l d).Perm (l ++ [d]) := by
  have hne : ¬ (insPos l d.name < l.length ∧ eqS (ix l (insPos l d.name)).name d.name = true) := by
    rintro ⟨h1, h2⟩
    exact h (List.mem_map.2 ⟨_, ix_mem h1, eqS_t.1 h2⟩)
  unfold definedF
  rw [if_neg hne]
  have h1 : (List.take (insPos l d.name) l ++ d :: List.drop (insPos l d.name) l).Perm (d :: (List.take (insPos l d.name) l ++ List.drop (insPos l d.name) l)) := List.perm_middle
  rw [List.take_append_drop] at h1
  exact h1.trans (List.perm_append_comm (l₁ := [d]) (l₂ := l))
theorem sortD_from : ∀ {ds acc : List DDef}, ((acc ++ ds).map (·.name)).Nodup → (ds.foldl definedF acc).Perm (acc ++ ds)
  | [], acc, _ => by simp
  | d :: ds, acc, h => by
    rw [List.foldl_cons]
    have hn : d.name ∉ acc.map (·.name) := by
      rw [List.map_append, List.nodup_append] at h
      intro hm
      exact h.2.2 _ hm _ (by simp) rfl
    have hp := definedF_perm hn
    have e : acc ++ d :: ds = (acc ++ [d]) ++ ds := by simp
    have hp2 : (definedF acc d ++ ds).Perm (acc ++ d :: ds) := by rw [e]; exact hp.append_right ds
    have h' : ((definedF acc d ++ ds).map (·.name)).Nodup := (hp2.map (·.name)).nodup_iff.2 h
    exact (sortD_from h').trans hp2
theorem sortD_perm {ds : List DDef} (h : (ds.map (·.name)).Nodup) : (sortD ds).Perm ds := by
  have := sortD_from (ds := ds) (acc := []) (by simpa using h)
  simpa [sortD] using this
theorem sortD_len {ds : List DDef} (h : (ds.map (·.name)).Nodup) : (sortD ds).length = ds.length := (sortD_perm h).length_eq


def LtD (a b : DDef) : Prop := ltS a.name b.name = true
theorem take_while_all {α : Type} {p : α → Bool} : ∀ {l : List α}, ∀ x ∈ l.take (l.takeWhile p).length, p x = true
  | [], x, h => by simp at h
  | a :: l, x, h => by
    rw [List.takeWhile_cons] at h
    split at h
    · rename_i ha
      rw [List.length_cons, List.take_succ_cons] at h
      rcases List.mem_cons.1 h with rfl | h
      · exact ha
      · exact take_while_all x h
    · simp at h
theorem drop_while_head {α : Type} {p : α → Bool} : ∀ {l : List α} {x : α} {r : List α}, l.drop (l.takeWhile p).length = x :: r → p x = false
  | [], x, r, h => by simp at h
  | a :: l, x, r, h => by
    rw [List.takeWhile_cons] at h
    split at h
    · rw [List.length_cons, List.drop_succ_cons] at h
      exact drop_while_head h
    · rename_i ha
      rw [List.length_nil, List.drop_zero] at h
      injection h with h1 h2
      subst h1
      simpa using ha
theorem definedF_sorted {l : List DDef} {d : DDef} (hs : l.Pairwise LtD) : (definedF l d).Pairwise LtD := by
  unfold definedF
  split
  · exact hs
  · rename_i hne
    have hsp : l = l.take (insPos l d.name) ++ l.drop (insPos l d.name) := (List.take_append_drop _ _).symm
    have hs2 := hs
    rw [hsp, List.pairwise_append] at hs2
    obtain ⟨h1, h2, h3⟩ := hs2
    rw [List.pairwise_append, List.pairwise_cons]
    have ht : ∀ x ∈ l.take (insPos l d.name), LtD x d := fun x hx => take_while_all (p := fun x : DDef => ltS x.name d.name) (l := l) x (by exact hx)
    have hd : ∀ x ∈ l.drop (insPos l d.name), LtD d x := by
      cases hdr : l.drop (insPos l d.name) with
      | nil => simp
      | cons y r =>
        have hy : ltS y.name d.name = false := drop_while_head (p := fun x : DDef => ltS x.name d.name) (l := l) (by exact hdr)
        have hlt : insPos l d.name < l.length := by
          have := congrArg List.length hdr
          simp at this
          omega
        have hix : ix l (insPos l d.name) = y := by
          have := drop_ix hlt
          rw [hdr] at this
          injection this with h _
          exact h.symm
        have hyd : LtD d y := by
          rcases ltS_tri y.name d.name with h | h | h
          · rw [h] at hy; cases hy
          · exact absurd ⟨hlt, by rw [hix]; exact eqS_t.2 h⟩ hne
          · exact h
        rw [hdr, List.pairwise_cons] at h2
        intro x hx
        rcases List.mem_cons.1 hx with rfl | hx
        · exact hyd
        · exact ltS_trans hyd (h2.1 x hx)
    exact ⟨h1, ⟨hd, h2⟩, fun a ha b hb => by
      rcases List.mem_cons.1 hb with rfl | hb
      · exact ht a ha
      · exact h3 a ha b hb⟩
theorem foldl_sorted : ∀ {ds acc : List DDef}, acc.Pairwise LtD → (ds.foldl definedF acc).Pairwise LtD
  | [], _, h => h
  | d :: ds, acc, h => by rw [List.foldl_cons]; exact foldl_sorted (definedF_sorted h)
theorem sortD_sorted (ds : List DDef) : (sortD ds).Pairwise LtD := foldl_sorted List.Pairwise.nil
theorem LtD_antisymm {a b : DDef} (h : LtD a b) (h' : LtD b a) : a = b := by
  unfold LtD at h h'
  rw [ltS_asymm h] at h'; cases h'
/-- There is one sorted permutation. -/
theorem sorted_unique {l l' : List DDef} (h : l.Pairwise LtD) (h' : l'.Pairwise LtD) (hp : l.Perm l') : l = l' := List.Perm.eq_of_pairwise (fun _ _ _ _ h1 h2 => LtD_antisymm h1 h2) h h' hp
end Go.Pm

/- ZkC24: contract: the library's sort of definitions by name. -/
namespace Go.Pm
open Go Go.Proofs Go.Shelf Go.RowKit Go.Lib Go.Sort
attribute [-simp] List.getElem?_map

theorem sorted_is {ds : List DDef} {d : Array DDef} (hd : (ds.map (·.name)).Nodup) (hp : PermIn 0 ds.toArray.size ds.toArray d) (hs : SortedIn (ltOf cmpD) 0 ds.toArray.size d) : d.toList = sortD ds := by
  obtain ⟨h1, _, h2⟩ := hp
  have hsz : d.size = ds.length := by rw [h1]; simp
  have e1 : (d.extract 0 ds.toArray.size).toList = d.toList := by
    rw [← h1]; simp
  have e2 : (ds.toArray.extract 0 ds.toArray.size).toList = ds := by simp
  rw [e1, e2] at h2
  have hnd : (d.toList.map (·.name)).Nodup := (h2.map (·.name)).nodup_iff.2 hd
  refine sorted_unique ?_ (sortD_sorted ds) (h2.trans (sortD_perm hd).symm)
  rw [List.pairwise_iff_getElem]
  intro i j hi hj hij
  have hj' : j < d.size := by simpa using hj
  have hi' : i < d.size := by simpa using hi
  have := hs i j (Nat.zero_le _) hij (by simp; omega)
  rw [getElem!_pos d i hi', getElem!_pos d j hj', ltOf_cmpD] at this
  unfold LtD
  rw [Array.getElem_toList, Array.getElem_toList]
  rcases ltS_tri d[i].name d[j].name with h | h | h
  · exact h
  · exfalso
    have hne := List.pairwise_iff_getElem.1 hnd i j (by simpa using hi) (by simpa using hj) hij
    simp only [List.getElem_map, Array.getElem_toList] at hne
    exact hne h
  · rw [h] at this; cases this

theorem call115 (m : Mem) (pos gen n : Nat) (ds : List DDef) (h : m.obj pos gen = some (.row 65 2 (ds.map DDef.av))) (hn : ds.length = n) (hd : (ds.map (·.name)).Nodup) (hl : n ≤ 3000000000000) :
    ACalls Zk.pg 115 [.row pos gen 2 0 n, .fn 116 []] m fun out m' => out = .ret (.tuple []) ∧ m' = m.put pos gen (.row 65 2 ((sortD ds).map DDef.av)) := by
  refine ⟨⟨Tryz.f115, Tryz.func115, rfl, by kernel_rfl⟩, fun β K σ w vals hrel hv hβ => ?_⟩
  obtain ⟨u, us, rfl, hV, u2, us2, rfl, hV2, hnil⟩ := hv
  rw [VRs] at hnil
  subst hnil
  have hf : u2 = .func (.func 116) #[] #[] := by
    rw [VR] at hV2
    obtain ⟨cs, h1, h2⟩ := hV2
    rw [VRs] at h2
    have : cs = #[] := by apply Array.ext'; simpa using h2
    rw [h1, this]
  subst hf
  have hpos := Mem.obj_some h
  rcases Nat.eq_zero_or_pos n with h0 | h0
  · -- nothing
    have hds : ds = [] := List.eq_nil_of_length_eq_zero (by omega)
    subst hds
    have hu : ∃ p c, u = .slice p 0 c := by
      obtain ⟨ad, cap, he⟩ := row_value hV
      exact ⟨ad, cap, by rw [he, h0]⟩
    obtain ⟨p, c, rfl⟩ := hu
    refine (AnyF.slices_SortFunc_none Tryz.sortDef p c (.func (.func 116) #[] #[]) w).mono ?_
    rintro e w' ⟨rfl, rfl⟩
    refine ⟨K, σ, m, .ret (.tuple []), ⟨rfl, ?_⟩, hrel, List.prefix_refl _, fun _ _ h => h, fun _ _ _ => rfl, .tuple #[], rfl, by rw [VR]; exact ⟨#[], rfl, rfl⟩⟩
    exact (Mem.put_same hpos).symm
  · rw [VR] at hV
    rcases hV with ⟨b, c, hg, hoc, rfl⟩ | ⟨_, hl0, _⟩ | ⟨hl0, _⟩
    · obtain ⟨cur, hheap, hcs, hcap, hmax, hpos2, hlr⟩ := hrel.obj_row h hg
      have hH := holds_of_rows hheap hlr
      have hb : b < w.heap.size := (Array.getElem?_eq_some_iff.1 hheap).1
      have eg : ∀ args w, (callFunc 116 args).run Tryz.prog w = .ok (.enter 116 args) w := enters_of Tryz.func116 (by kernel_rfl) rfl
      have hcon := AnyQ.slices_SortFunc Tryz.sortDef 2 Tryz.isAgg65 Tryz.sizeOf65 encD (fun _ => rfl) (fun x v hv => by simp [encD] at hv; rcases hv with rfl | rfl <;> rfl) cmpD swoD 116 #[] b 0 c ds.toArray w eg (cmpLays58 b 0 ds.toArray.size w) hH hb (by simp; omega)
      have hargs : ([Value.slice (some ⟨b, 0 * 2, none⟩) n (c - 0), .func (.func 116) #[] #[]] : List Value).toArray = #[.slice (some ⟨b, 0, none⟩) ds.toArray.size c, .func (.func 116) #[] #[]] := by
        simp [hn]
      rw [hargs]
      refine Calls.mono hcon ?_
      rintro e w' ⟨rfl, d', n', os, hp, hs, rfl⟩
      have hd' := sorted_is hd hp hs
      have hsz : d'.size = ds.length := by rw [hp.1]; simp
      have hheap' := sorted_world_heap w b n' d' os hb hheap
      have hle : w.heap.size ≤ (sortWorldK encD 2 w b 0 n' d' os).heap.size := size_sortWorldK_c encD 2 w b 0 n' d' os
      have hgr : w.grownBy (sortWorldK encD 2 w b 0 n' d' os) (some b) := ⟨rfl, rfl, rfl, hle, fun k hk hne => sorted_world_other w b n' k d' os hk (fun e => hne (by rw [e]))⟩
      have hH' := holdsK_sortWorldK_c encD 2 w b 0 ds.toArray d' n' os hH hb hp.1
      have hKs := hrel.kept_same hgr (hrel.not_kept h hg)
      refine ⟨K, σ, _, .ret (.tuple []), ⟨rfl, rfl⟩, hrel.put hpos hg hgr ⟨_, hheap', ?_, ?_, hmax, hpos2, ?_⟩, List.prefix_refl _, fun _ _ h => h, hKs, .tuple #[], rfl, by rw [VR]; exact ⟨#[], rfl, rfl⟩⟩
      · simp [putCells, hcs]
      · rw [← hd']
        simp [hsz]
        simpa using hcap
      · rw [← hd']
        exact rows_of_holds hH'
    · omega
    · omega
end Go.Pm

/- ZkC20: contracts: the image, its code as bytes. -/
namespace Go.Pm
open Go Go.Proofs
attribute [-simp] List.getElem?_map

def rowB (b : List UInt8) : List (List AV) := b.map fun x => [.int .u8 x.toNat]
def splice (b : List UInt8) (at_ : Nat) (s : List UInt8) : List UInt8 := b.take at_ ++ s ++ b.drop (at_ + s.length)
def fourL (n : Int) : List UInt8 := [byteF n 24, byteF n 16, byteF n 8, byteF n 0]
def patchRefs (nm : List DDef) (at_ : Nat) : List DRef → List UInt8 → List UInt8
  | [], b => b
  | r :: rs, b => patchRefs nm at_ rs (splice b (at_ + r.at_.toNat) (fourL ((outerF nm r.name).getD 0 + r.plus)))
def placeObjs (nm : List DDef) (base : Int) : List (Deck × DDef) → List UInt8 → List UInt8
  | [], b => b
  | (o, d) :: l, b => placeObjs nm base l (patchRefs nm (d.at_ - base).toNat o.refs (splice b (d.at_ - base).toNat o.code.data.toList))
instance : Inhabited (Deck × DDef) := ⟨(default, default)⟩

theorem splice_len {b s : List UInt8} {n : Nat} (h : n + s.length ≤ b.length) : (splice b n s).length = b.length := by
  unfold splice; simp; omega
theorem patch_len {nm : List DDef} {a : Nat} : ∀ {rs : List DRef} {b : List UInt8}, (∀ r ∈ rs, a + r.at_.toNat + 4 ≤ b.length) → (patchRefs nm a rs b).length = b.length
  | [], b, _ => rfl
  | r :: rs, b, h => by
    rw [patchRefs]
    have h0 := h r (by simp)
    have hl : (splice b (a + r.at_.toNat) (fourL ((outerF nm r.name).getD 0 + r.plus))).length = b.length := splice_len (by simp [fourL]; omega)
    rw [patch_len (fun r' hr => by rw [hl]; exact h r' (by simp [hr])), hl]

/-- What a linker's state may be when its image is made. -/
structure LSt.Placed (s : LSt) (base : Int) : Prop where
  small : s.Small
  base0 : 0 ≤ base
  base1 : base ≤ s.end_
  places : ∀ i, i < s.objs.length → base ≤ (ix s.places i).at_ ∧ (ix s.places i).at_ + (ix s.objs i).code.size ≤ s.end_
  refs : ∀ o ∈ s.objs, ∀ r ∈ o.refs, 0 ≤ r.at_ ∧ r.at_ + 4 ≤ o.code.size ∧ -1000000000 ≤ r.plus ∧ r.plus ≤ 1000000000
  names : ∀ n v, outerF s.nmap n = some v → 0 ≤ v ∧ v ≤ 1000000000000
  distinct : (s.defs.map (·.name)).Nodup

def imageCode (s : LSt) (base : Int) : List UInt8 := placeObjs s.nmap base (s.objs.zip s.places) (List.replicate (s.end_ - base).toNat 0)

theorem byte_wrap (n : Int) : AV.int .u8 (IntKind.u8.wrap n) = AV.int .u8 ((UInt8.ofNat (IntKind.u8.wrap n).toNat).toNat : Nat) := by
  have h : IntKind.u8.wrap n = n % 256 := by simp [IntKind.wrap, IntKind.bits, IntKind.signed]
  rw [h]
  have h0 : 0 ≤ n % 256 := Int.emod_nonneg _ (by omega)
  have h1 : n % 256 < 256 := Int.emod_lt_of_pos _ (by omega)
  congr 1
  rw [UInt8.toNat_ofNat']
  omega
theorem u8_wrap (n : Int) : IntKind.u8.wrap n = n % 256 := by simp [IntKind.wrap, IntKind.bits, IntKind.signed]
theorem u32_wrap (n : Int) : IntKind.u32.wrap n = n % 4294967296 := by simp [IntKind.wrap, IntKind.bits, IntKind.signed]
theorem u32_24 (n : Int) : IntKind.u8.wrap ((IntKind.u32.wrap n).fdiv 16777216) = IntKind.u8.wrap (n.fdiv (2 ^ 24)) := by
  rw [u8_wrap, u8_wrap, u32_wrap, Int.fdiv_eq_ediv_of_nonneg _ (by omega), show (2 : Int) ^ 24 = 16777216 from rfl, Int.fdiv_eq_ediv_of_nonneg _ (by omega)]; omega
theorem u32_16 (n : Int) : IntKind.u8.wrap ((IntKind.u32.wrap n).fdiv 65536) = IntKind.u8.wrap (n.fdiv (2 ^ 16)) := by
  rw [u8_wrap, u8_wrap, u32_wrap, Int.fdiv_eq_ediv_of_nonneg _ (by omega), show (2 : Int) ^ 16 = 65536 from rfl, Int.fdiv_eq_ediv_of_nonneg _ (by omega)]; omega
theorem u32_8 (n : Int) : IntKind.u8.wrap ((IntKind.u32.wrap n).fdiv 256) = IntKind.u8.wrap (n.fdiv (2 ^ 8)) := by
  rw [u8_wrap, u8_wrap, u32_wrap, Int.fdiv_eq_ediv_of_nonneg _ (by omega), show (2 : Int) ^ 8 = 256 from rfl, Int.fdiv_eq_ediv_of_nonneg _ (by omega)]; omega
theorem u32_0 (n : Int) : IntKind.u8.wrap (IntKind.u32.wrap n) = IntKind.u8.wrap (n.fdiv (2 ^ 0)) := by
  rw [u8_wrap, u8_wrap, u32_wrap, show (2 : Int) ^ 0 = 1 from rfl, Int.fdiv_eq_ediv_of_nonneg _ (by omega)]; omega
theorem bytes_back (b : List UInt8) : (rowB b).mapM byteOf = some b := by
  induction b with
  | nil => rfl
  | cons x b ih =>
    unfold rowB at ih ⊢
    rw [List.map_cons, List.mapM_cons, ih]
    simp [byteOf]

@[simp] theorem rowB_len (b : List UInt8) : (rowB b).length = b.length := by simp [rowB]
theorem bytesOf_rowB (s : ByteArray) : bytesOf s = rowB s.data.toList := rfl
theorem rowB_splice {b s : List UInt8} {off n : Nat} (hs : s.length ≤ n) : (rowB b).take off ++ (rowB s).take (min s.length n) ++ (rowB b).drop (off + min s.length n) = rowB (splice b off s) := by
  rw [Nat.min_eq_left hs]
  unfold rowB splice
  rw [List.map_append, List.map_append, List.map_take, List.map_drop, List.take_of_length_le (l := s.map _) (by simp)]

theorem four_row (n : Int) : rowB (fourL n) = [[.int .u8 (IntKind.u8.wrap (n.fdiv (2 ^ 24)))], [.int .u8 (IntKind.u8.wrap (n.fdiv (2 ^ 16)))], [.int .u8 (IntKind.u8.wrap (n.fdiv (2 ^ 8)))], [.int .u8 (IntKind.u8.wrap (n.fdiv (2 ^ 0)))]] := by
  unfold rowB fourL byteF
  rw [byte_wrap, byte_wrap, byte_wrap, byte_wrap]
  rfl

def lkDone (L : Nat) (base : Int) (G : LG) (s : LSt) : List (Nat × AObj) :=
  [(G.a, .map (namesM s.nmap)), (G.a + 1, .map (setS s.own)),
   (G.a + 2, .cells [.int .i64 base, .str ⟨(imageCode s base).toArray⟩, .row (L + 5) G.d 2 0 s.defs.length, .row (L + 6) G.l 2 0 s.lines.length, .row (L + 4) G.n 2 0 s.places.length, .row (L + 3) G.o 5 0 s.objs.length, .map L G.a, .map (L + 1) (G.a + 1), .int .i64 s.end_]),
   (G.o, .row 27 5 (s.objs.map Deck.av)), (G.n, .row 65 2 (s.places.map DDef.av)), (G.d, .row 65 2 ((sortD s.defs).map DDef.av)), (G.l, .row 79 2 (s.lines.map DLine.av))]

set_option maxHeartbeats 4000000 in
theorem call73 (pre : List (Nat × AObj)) (base : Int) (G : LG) (s : LSt) (nx : Nat) (hp : s.Placed base) :
    ACalls Zk.pg 73 [.ptr (pre.length + 2) (G.a + 2) 0] ⟨pre ++ lkObjs pre.length base G s, nx⟩ fun out m =>
      out = .ret (.agg [.int .i64 base, .str ⟨(imageCode s base).toArray⟩, .row (pre.length + 5) G.d 2 0 s.defs.length, .row (pre.length + 6) G.l 2 0 s.lines.length, .row (pre.length + 4) G.n 2 0 s.places.length]) ∧ ∃ nx', m = ⟨pre ++ lkDone pre.length base G s, nx'⟩ := by
  refine ACalls.forget ?_
  refine ok73.acalls (by simp) ?_
  have hs := hp.small
  have sl := hs.objs
  have s1 := hs.places
  have s2 : s.defs.length ≤ 3000000000000 := by have := hs.defs; omega
  have s4 := hp.base1
  have s0 := hp.base0
  have s5 : s.end_ ≤ 900000000000 := by have := hs.end1; omega
  have hsub : IntKind.i64.wrap (s.end_ - base) = s.end_ - base := wrap64 (by omega) (by omega)
  have hmk : 0 ≤ s.end_ - base ∧ (s.end_ - base).toNat ≤ 140737488355328 ∧ s.end_ - base ≤ 9223372036854775807 := ⟨by omega, by omega, by omega⟩
  generalize hC : imageCode s base = C
  simp [c73, lkObjs, lkCells, hsub, hmk, s4]
  generalize hT : (s.end_ - base).toNat = T at *
  have hTi : (T : Int) = s.end_ - base := by omega
  have hzl : (s.objs.zip s.places).length = s.objs.length := by rw [List.length_zip, s1, Nat.min_self]
  refine wpS_loopS (ι := (Nat × List UInt8) × Nat) (fun u => [(0, .ptr (pre.length + 2) (G.a + 2) 0), (2, .ptr (pre.length + 7) nx 0), (3, .row (pre.length + 8) (nx + 1) 1 0 T), (24, .row (pre.length + 3) G.o 5 0 s.objs.length), (25, .int .i64 s.objs.length), (26, .int .i64 u.1.1)])
    (fun u => ⟨pre ++ (lkObjs pre.length base G s ++ [(nx, .cells [.int .i64 0, .str ⟨#[]⟩, .nilS, .nilS, .nilS]), (nx + 1, .row 5 1 (rowB u.1.2))]), u.2⟩) (fun u => s.objs.length - u.1.1)
    (fun u => u.1.1 ≤ s.objs.length ∧ u.1.2.length = T ∧ C = placeObjs s.nmap base ((s.objs.zip s.places).drop u.1.1) u.1.2) ((0, List.replicate T 0), nx + 1 + 1) ⟨Nat.zero_le _, by simp, by rw [← hC, ← hT]; rfl⟩
    (Sim.of_le (Env.le_of (by simp)) (Mem.le_of rfl (by simp [lkObjs, lkCells, rowB]))) ?_
  intro ⟨⟨i, b⟩, ny⟩ ⟨hi, hbl, hall⟩
  simp only at hi hbl hall
  have hw : IntKind.i64.wrap (i + 1) = i + 1 := wrap64 (by omega) (by omega)
  simp
  refine br_cond rfl (fun h => ?_) (fun h => ?_)
  · have hlt : i < s.objs.length := by have := ltI_t.1 h; omega
    have h' : ltI ↑i ↑s.places.length = true := by rw [s1]; exact h
    have hpl := hp.places i hlt
    have hrf := hp.refs _ (ix_mem hlt)
    have hfit := hs.fit _ (ix_mem hlt)
    have hcd := hfit.code
    have hix : ix (s.objs.zip s.places) i = (ix s.objs i, ix s.places i) := by
      have h1 : i < s.places.length := by omega
      have hz : (s.objs.zip s.places)[i]? = some (s.objs[i], s.places[i]) := by rw [List.getElem?_eq_getElem (by omega)]; simp
      simp [ix, List.getD, hz, hlt, h1]
    rw [drop_ix (by omega), hix, placeObjs] at hall
    generalize hoi : ix s.objs i = o at *
    generalize hdi : ix s.places i = d at *
    have hwa : IntKind.i64.wrap (d.at_ - base) = d.at_ - base := wrap64 (by omega) (by omega)
    have hsz : o.code.data.toList.length = o.code.size := by simp
    simp [h, h', idxM, hoi, hdi, lkObjs, lkCells, DDef.av, Deck.av, hwa, sliceA, boundsA, srcOf]
    have hcond : base ≤ d.at_ ∧ d.at_ - base ≤ (T : Int) := ⟨by omega, by omega⟩
    obtain ⟨a, ha⟩ : ∃ a : Nat, a = (d.at_ - base).toNat := ⟨_, rfl⟩
    have hai : d.at_ - base = (a : Int) := by omega
    have haT : a + o.code.size ≤ T := by omega
    rw [← ha] at hall ⊢
    have hb2 : a + (T - a) ≤ b.length := by omega
    have hsp : (rowB b).take a ++ ((bytesOf o.code).take (min (bytesOf o.code).length (T - a)) ++ (rowB b).drop (a + min (bytesOf o.code).length (T - a))) = rowB (splice b a o.code.data.toList) := by
      have e := rowB_splice (b := b) (s := o.code.data.toList) (off := a) (n := T - a) (by rw [hsz]; omega)
      rw [bytesOf_rowB, rowB_len, ← e, List.append_assoc]
    have hspl : (splice b a o.code.data.toList).length = T := by rw [splice_len (by omega), hbl]
    simp [hcond, hb2, hsp, srcOf]
    rw [hai]
    clear hb2 hsp
    refine wpS_loopS (ι := (Nat × List UInt8) × Nat) (fun u => [(0, .ptr (pre.length + 2) (G.a + 2) 0), (2, .ptr (pre.length + 7) nx 0), (3, .row (pre.length + 8) (nx + 1) 1 0 T), (6, .int .i64 a), (24, .row (pre.length + 3) G.o 5 0 s.objs.length), (25, .int .i64 s.objs.length), (26, .int .i64 i), (53, .list true 3 (o.refs.map DRef.av)), (54, .int .i64 o.refs.length), (55, .int .i64 u.1.1)])
      (fun u => ⟨pre ++ (lkObjs pre.length base G s ++ [(nx, .cells [.int .i64 0, .str ⟨#[]⟩, .nilS, .nilS, .nilS]), (nx + 1, .row 5 1 (rowB u.1.2))]), u.2⟩) (fun u => o.refs.length - u.1.1)
      (fun u => u.1.1 ≤ o.refs.length ∧ u.1.2.length = T ∧ C = placeObjs s.nmap base ((s.objs.zip s.places).drop (i + 1)) (patchRefs s.nmap a (o.refs.drop u.1.1) u.1.2)) ((0, splice b a o.code.data.toList), ny + 1) ⟨Nat.zero_le _, hspl, hall⟩
      (Sim.of_le (Env.le_of (by simp)) (Mem.le_of rfl (by simp [lkObjs, lkCells, rowB]))) ?_
    clear hall hspl hbl
    intro ⟨⟨k, b⟩, nz⟩ ⟨hk, hbl, hka⟩
    simp only at hk hbl hka
    have hrl := hfit.small.refs
    have hwk : IntKind.i64.wrap (k + 1) = k + 1 := wrap64 (by omega) (by omega)
    simp
    refine br_cond rfl (fun h2 => ?_) (fun h2 => ?_)
    · have hlk : k < o.refs.length := by have := ltI_t.1 h2; omega
      obtain ⟨r1, r2, r3, r4⟩ := hrf _ (ix_mem hlk)
      rw [drop_ix hlk, patchRefs] at hka
      generalize hri : ix o.refs k = r at *
      obtain ⟨v, hv⟩ : ∃ v, v = (outerF s.nmap r.name).getD 0 := ⟨_, rfl⟩
      have hv2 : (Option.map (AV.int IntKind.i64) (outerF s.nmap r.name)).getD (AV.int IntKind.i64 0) = AV.int IntKind.i64 v := by
        rw [hv]; cases outerF s.nmap r.name <;> rfl
      have hvb : 0 ≤ v ∧ v ≤ 1000000000000 := by
        rw [hv]
        cases hz : outerF s.nmap r.name with
        | none => simp
        | some x => exact hp.names _ _ hz
      rw [← hv] at hka
      have hwv : IntKind.i64.wrap (v + r.plus) = v + r.plus := wrap64 (by omega) (by omega)
      have hwr : IntKind.i64.wrap (a + r.at_) = a + r.at_ := wrap64 (by omega) (by omega)
      obtain ⟨c, hc⟩ : ∃ c : Nat, c = a + r.at_.toNat := ⟨_, rfl⟩
      have hci : (a : Int) + r.at_ = c := by omega
      have hcT : c + 4 ≤ T := by omega
      have hwc : IntKind.i64.wrap (c : Int) = c := wrap64 (by omega) (by omega)
      have hcT2 : c ≤ T := by omega
      rw [← hc] at hka
      have hcond2 : 0 ≤ (c : Int) ∧ (c : Int) ≤ T := ⟨by omega, by omega⟩
      have hb2 : c + (T - c) ≤ b.length := by omega
      have hmin : min 4 (T - c) = 4 := by omega
      have hf4 := four_row (v + r.plus)
      have hsp : (rowB b).take c ++ (rowB (fourL (v + r.plus)) ++ (rowB b).drop (c + 4)) = rowB (splice b c (fourL (v + r.plus))) := by
        unfold rowB splice
        rw [List.map_append, List.map_append, List.map_take, List.map_drop, List.append_assoc]
        rfl
      have hspl : (splice b c (fourL (v + r.plus))).length = T := by rw [splice_len (by simp [fourL]; omega), hbl]
      rw [hf4] at hsp
      have hsp2 : (rowB b).take c ++ [AV.int .u8 (IntKind.u8.wrap ((v + r.plus).fdiv 16777216))] :: [AV.int .u8 (IntKind.u8.wrap ((v + r.plus).fdiv 65536))] :: [AV.int .u8 (IntKind.u8.wrap ((v + r.plus).fdiv 256))] :: [AV.int .u8 (IntKind.u8.wrap (v + r.plus))] :: (rowB b).drop (c + 4) = rowB (splice b c (fourL (v + r.plus))) := by
        rw [← hsp]
        have e : (v + r.plus).fdiv (2 ^ 0) = v + r.plus := by rw [show (2 : Int) ^ 0 = 1 from rfl, Int.fdiv_one]
        rw [e]
        rfl
      simp [h2, idxM, hri, lkObjs, lkCells, DRef.av, hv2, hwv, hwr, sliceA, boundsA, List.range_succ, IntKind.bits, u32_24, u32_16, u32_8, u32_0, hci, hwc, hcT2, srcOf, hb2, hmin, hbl, hwk]
      exact ⟨k + 1, splice b c (fourL (v + r.plus)), ⟨by omega, hspl, hka⟩, by omega, nz + 1 + 1, Sim.of_le (Env.le_of (by simp)) (Mem.le_of rfl (by simp [lkObjs, lkCells, hsp2]))⟩
    · have hkl : k = o.refs.length := by have := ltI_f.1 h2; omega
      rw [hkl, List.drop_length, patchRefs] at hka
      simp [h2, hw]
      exact ⟨i + 1, b, ⟨by omega, hbl, hka⟩, by omega, nz, Sim.of_le (Env.le_of (by simp)) (Mem.le_of rfl (by simp [lkObjs, lkCells]))⟩
  · have hil : i = s.objs.length := by have := ltI_f.1 h; omega
    rw [hil, List.drop_of_length_le (by omega), placeObjs] at hall
    subst hall
    have hbk := bytes_back C
    have htk : (rowB C).take T = rowB C := List.take_of_length_le (by simp; omega)
    simp [h, lkObjs, lkCells, hbl, htk, hbk]
    have hsd := hp.distinct
    have h57 := fun (m : Mem) (hm : m.obj (pre.length + 5) G.d = some (.row 65 2 (s.defs.map DDef.av))) => call115 m (pre.length + 5) G.d s.defs.length s.defs hm rfl hsd s2
    refine xcall_a (h57 _ (by simp)) ?_
    simp [cr73]
    exact ⟨⟨pre ++ lkDone pre.length base G s, ny⟩, Mem.le_of rfl (by simp [lkDone, hC]), _, rfl⟩
end Go.Pm

/- ZkC21: what stays so while the linker puts objects together. -/
namespace Go.Pm
open Go Go.Proofs
attribute [-simp] List.getElem?_map

def RefsFit (o : Deck) : Prop := ∀ r ∈ o.refs, 0 ≤ r.at_ ∧ r.at_ + 4 ≤ o.code.size ∧ -1000000000 ≤ r.plus ∧ r.plus ≤ 1000000000

theorem ix_of_mem {α : Type} [Inhabited α] {l : List α} {x : α} (h : x ∈ l) : ∃ i, i < l.length ∧ ix l i = x := by
  obtain ⟨i, hi, he⟩ := List.getElem_of_mem h
  exact ⟨i, hi, by simp [ix, List.getD, hi, he]⟩
theorem withinF_t {n a b : Int} (h : withinF n a b = true) : a ≤ n ∧ n ≤ b := by
  unfold withinF at h
  rw [Bool.and_eq_true] at h
  exact ⟨leI_t.1 h.1, leI_t.1 h.2⟩
theorem deckOk_fit {o : Deck} (hs : o.Small) (h : deckOk o = true) : o.Fit ∧ RefsFit o := by
  unfold deckOk at h
  simp only [Bool.and_eq_true] at h
  obtain ⟨⟨⟨⟨⟨_, h1⟩, _⟩, h2⟩, h3⟩, h4⟩ := h
  have hc : o.code.size ≤ 20000 := by
    have : ltI 20000 o.code.size = false := by simpa using h1
    have := ltI_f.1 this; omega
  rw [List.all_eq_true] at h2 h3 h4
  refine ⟨⟨hs, hc, fun d hd => ?_, fun d hd => ?_⟩, fun r hr => ?_⟩
  · obtain ⟨i, hi, rfl⟩ := ix_of_mem hd
    have := h2 i (List.mem_range.2 hi)
    unfold defOk at this
    simp only [Bool.and_eq_true] at this
    have := withinF_t this.1.1.2
    omega
  · obtain ⟨i, hi, rfl⟩ := ix_of_mem hd
    have := h4 i (List.mem_range.2 hi)
    unfold lineOk at this
    simp only [Bool.and_eq_true] at this
    have := withinF_t this.1.1.1
    omega
  · obtain ⟨i, hi, rfl⟩ := ix_of_mem hr
    have := h3 i (List.mem_range.2 hi)
    unfold refOk at this
    simp only [Bool.and_eq_true] at this
    obtain ⟨⟨⟨⟨_, a⟩, _⟩, b⟩, _⟩ := this
    have a := withinF_t a
    have b := withinF_t b
    omega

/-- What stays so. -/
structure LSt.Good (s : LSt) (base : Int) : Prop where
  small : s.Small
  base0 : 0 ≤ base
  base1 : base ≤ s.end_
  same : s.nmap = s.defs
  ats : ∀ d ∈ s.defs, 0 ≤ d.at_ ∧ d.at_ ≤ s.end_ + 1048576
  places : ∀ i, i < s.objs.length → base ≤ (ix s.places i).at_ ∧ (ix s.places i).at_ + (ix s.objs i).code.size ≤ s.end_
  refs : ∀ o ∈ s.objs, RefsFit o
  distinct : (s.defs.map (·.name)).Nodup

theorem outerF_mem {l : List DDef} {n : ByteArray} {v : Int} (h : outerF l n = some v) : ∃ d ∈ l, d.name = n ∧ d.at_ = v := by
  unfold outerF at h
  simp only [Option.map_eq_some_iff] at h
  obtain ⟨d, h1, h2⟩ := h
  have h3 : eqS d.name n = true := List.find?_some (p := fun d : DDef => eqS d.name n) h1
  exact ⟨d, List.mem_of_find?_eq_some h1, eqS_t.1 h3, h2⟩
theorem outerF_none {l : List DDef} {n : ByteArray} (h : outerF l n = none) : n ∉ l.map (·.name) := by
  intro hm
  obtain ⟨d, hd, rfl⟩ := List.mem_map.1 hm
  unfold outerF at h
  simp only [Option.map_eq_none_iff, List.find?_eq_none] at h
  exact h d hd (eqS_t.2 rfl)

theorem LSt.Good.placed {s : LSt} {base : Int} (h : s.Good base) : s.Placed base := by
  have h1 := h.small.end1
  have h2 := h.small.objs
  refine ⟨h.small, h.base0, h.base1, h.places, fun o ho r hr => h.refs o ho r hr, fun n v hv => ?_, h.distinct⟩
  rw [h.same] at hv
  obtain ⟨d, hd, _, rfl⟩ := outerF_mem hv
  have := h.ats d hd
  omega

theorem LSt.good_start {base : Int} (h0 : 0 ≤ base) (h1 : base ≤ 65536) : (LSt.start base).Good base :=
  ⟨⟨by simp [LSt.start], by simp [LSt.start], rfl, by simp [LSt.start], by simp [LSt.start], h0, by simp [LSt.start]; exact h1⟩, h0, Int.le_refl _, rfl, by simp [LSt.start], by simp [LSt.start], by simp [LSt.start], by simp [LSt.start]⟩

theorem putNames_good {A : Int} {once : Bool} {E : Int} : ∀ (ds : List DDef) (s s' : LSt), putNames A once ds s = .ok s' → (∀ d ∈ ds, 0 ≤ A + d.at_ ∧ A + d.at_ ≤ E) → s.nmap = s.defs → (∀ d ∈ s.defs, 0 ≤ d.at_ ∧ d.at_ ≤ E) → (s.defs.map (·.name)).Nodup →
    s'.nmap = s'.defs ∧ (∀ d ∈ s'.defs, 0 ≤ d.at_ ∧ d.at_ ≤ E) ∧ (s'.defs.map (·.name)).Nodup
  | [], s, s', h, _, h1, h2, h3 => by simp only [putNames, Except.ok.injEq] at h; subst h; exact ⟨h1, h2, h3⟩
  | d :: ds, s, s', h, hd, h1, h2, h3 => by
    rw [putNames] at h
    split at h
    · split at h
      · cases h
      · exact putNames_good ds s s' h (fun d' hd' => hd d' (List.mem_cons_of_mem _ hd')) h1 h2 h3
    · rename_i hn
      have hn' : outerF s.nmap d.name = none := by cases hx : outerF s.nmap d.name with
        | none => rfl
        | some v => rw [hx] at hn; simp at hn
      refine putNames_good ds _ s' h (fun d' hd' => hd d' (List.mem_cons_of_mem _ hd')) (by simp only [h1]) ?_ ?_
      · intro d' hd'
        rcases List.mem_append.1 hd' with hd' | hd'
        · exact h2 d' hd'
        · rw [List.mem_singleton.1 hd']; exact hd d List.mem_cons_self
      · rw [h1] at hn'
        have hnm := outerF_none hn'
        simp only [List.map_append, List.map_cons, List.map_nil]
        rw [List.nodup_append]
        refine ⟨h3, by simp, fun a ha b hb => ?_⟩
        rw [List.mem_singleton.1 hb]
        intro e
        exact hnm (e ▸ ha)

theorem ix_append_left {α : Type} [Inhabited α] {l r : List α} {i : Nat} (h : i < l.length) : ix (l ++ r) i = ix l i := by
  unfold ix; simp [List.getD, h, List.getElem?_append_left]
theorem ix_append_len {α : Type} [Inhabited α] {l : List α} {x : α} : ix (l ++ [x]) l.length = x := by
  unfold ix; simp [List.getD]

theorem putL_good {once : Bool} {s s' : LSt} {o : Deck} {base : Int} (hs : s.Good base) (ho : o.Fit) (hr : RefsFit o) (hl : s.objs.length < 2000000) (h : putL once s o = .ok s') : s'.Good base := by
  have hsm := putL_small hs.small ho hl h
  obtain ⟨e1, e2, e3, e4, e5, _⟩ := putL_same h
  have hup : upF s.end_ = (s.end_ + 7) / 8 * 8 := rfl
  have hb1 := hs.base1
  have hpl := hs.small.places
  have hup1 : s.end_ ≤ upF s.end_ := by rw [hup]; omega
  have hnm : s'.nmap = s'.defs ∧ (∀ d ∈ s'.defs, 0 ≤ d.at_ ∧ d.at_ ≤ s'.end_ + 1048576) ∧ (s'.defs.map (·.name)).Nodup := by
    have hE : s'.end_ = upF s.end_ + o.code.size := e5
    unfold putL at h
    split at h
    · cases h
    · split at h
      · cases h
      · rename_i s1 h1
        injection h with h
        have hdf : ∀ d ∈ linkDefs o, 0 ≤ upF s.end_ + d.at_ ∧ upF s.end_ + d.at_ ≤ upF s.end_ + o.code.size + 1048576 := fun d hd => by
          have := linkDefs_fit ho d hd
          have := hs.base0
          omega
        have hold : ∀ d ∈ s.defs, 0 ≤ d.at_ ∧ d.at_ ≤ upF s.end_ + o.code.size + 1048576 := fun d hd => by
          have := hs.ats d hd
          omega
        obtain ⟨a, b, c⟩ := putNames_good (E := upF s.end_ + o.code.size + 1048576) _ _ _ h1 hdf hs.same hold hs.distinct
        subst h
        exact ⟨a, b, c⟩
  refine ⟨hsm, hs.base0, by rw [e5]; omega, hnm.1, hnm.2.1, fun i hi => ?_, fun x hx => ?_, hnm.2.2⟩
  · rw [e1, e3, e5]
    rw [e1, List.length_append, List.length_singleton] at hi
    by_cases hil : i < s.objs.length
    · rw [ix_append_left hil, ix_append_left (by omega)]
      have := hs.places i hil
      omega
    · have hie : i = s.objs.length := by omega
      rw [hie, ix_append_len, ← hpl, ix_append_len]
      simp only
      omega
  · rw [e1] at hx
    rcases List.mem_append.1 hx with hx | hx
    · exact hs.refs x hx
    · rw [List.mem_singleton.1 hx]; exact hr

theorem needed_good {libs : List (List Deck)} {base : Int} (hfit : ∀ o ∈ libs.flatten, o.Fit ∧ RefsFit o) : ∀ (n : Nat) (s : LSt), s.Good base → s.objs.length + awayL libs s.own ≤ 2000000 → (neededL libs n s).1.Good base
  | 0, s, h, _ => h
  | n + 1, s, h, hl => by
    rw [neededL]
    split
    · exact h
    · rename_i o ho
      obtain ⟨hm, hown⟩ := firstL_mem ho
      have hless := awayL_less hm hown
      have hpf := putL_false s o
      obtain ⟨e1, e2, _⟩ := putL_same hpf
      refine needed_good hfit n _ (putL_good h (hfit o hm).1 (hfit o hm).2 (by omega) hpf) ?_
      rw [e1, e2, List.length_append, List.length_singleton]
      omega

def putAll : LSt → List Deck → Except ByteArray LSt
  | s, [] => .ok s
  | s, o :: l => match putL true s o with
    | .error n => .error n
    | .ok s' => putAll s' l
end Go.Pm
