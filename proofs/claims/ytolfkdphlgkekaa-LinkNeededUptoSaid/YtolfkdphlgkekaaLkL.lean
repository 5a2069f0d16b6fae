/- LkL: the linker's state, as values and in memory. -/
import Derived.Test.YtolfkdphlgkekaaMf
import Derived.Test.YtolfkdphlgkekaaMc
import Derived.Test.YtolfkdphlgkekaaLkC16
import Derived.Test.YtolfkdphlgkekaaLkS8
namespace Go.Pm
open Go Go.Proofs
attribute [-simp] List.getElem?_map

section
variable {α : Type} (p q : List α) (k : Nat) (x : α)
@[simp] theorem preL_get0 : (p ++ q)[p.length]? = q[0]? := by simp [List.getElem?_append_right]
@[simp] theorem preL_get : (p ++ q)[p.length + k]? = q[k]? := by simp [List.getElem?_append_right]
@[simp] theorem preL_set0 : (p ++ q).set p.length x = p ++ q.set 0 x := by simp
@[simp] theorem preL_set : (p ++ q).set (p.length + k) x = p ++ q.set k x := by simp
@[simp] theorem preL_take : (p ++ q).take (p.length + k) = p ++ q.take k := by rw [List.take_append, List.take_of_length_le (by omega)]; simp
end

theorem Sim.after {e'' e' e : Env} {m'' m' m : Mem} (h1 : Sim e' m' e m) (h2 : Sim e'' m'' e' m') : Sim e'' m'' e m := h2.trans h1

theorem ACalls.forget {P : Program} {f : FuncId} {xs : List AV} {m : Mem} {R : AOut → Mem → Prop} (h : ACalls P f xs m fun out m' => ∃ m'', Mem.le m'' m' ∧ R out m'') : ACalls P f xs m R :=
  h.sim fun out m' ⟨m'', h1, h2⟩ => ⟨out, m'', h2, SimO.forget h1⟩

/-- Names with their places, as a map. -/
def namesM (l : List DDef) : List (AV × AV) := l.map fun d => (.str d.name, .int .i64 d.at_)
theorem findN (n : ByteArray) : ∀ l : List DDef, findA (.str n) (namesM l) = some ((outerF l n).map (AV.int .i64))
  | [] => rfl
  | d :: l => by
    have ih := findN n l
    unfold namesM outerF at ih ⊢
    rw [List.map_cons, findA]
    simp only [keyEq, beq_eqS, List.find?_cons]
    rcases Bool.eq_false_or_eq_true (eqS d.name n) with h | h
    · simp [h]
    · simpa [h] using ih
theorem updN (n : ByteArray) (v : Int) : ∀ l : List DDef, outerF l n = none → updA (.str n) (.int .i64 v) (namesM l) = some (namesM (l ++ [⟨n, v⟩]))
  | [], _ => rfl
  | d :: l, h => by
    have hd : eqS d.name n = false := by
      rcases Bool.eq_false_or_eq_true (eqS d.name n) with h1 | h1
      · simp [outerF, h1] at h
      · exact h1
    have hl : outerF l n = none := by simpa [outerF, hd] using h
    have ih := updN n v l hl
    unfold namesM at ih ⊢
    rw [List.map_cons, updA]
    simp only [keyEq, beq_eqS, hd]
    rw [ih]; rfl

/-- What the linker has put together so far. -/
structure LSt where
  objs : List Deck
  places : List DDef
  nmap : List DDef
  own : List ByteArray
  defs : List DDef
  lines : List DLine
  end_ : Int

/-- Generations: of the first object (two maps and the struct), of the rows. -/
structure LG where
  a : Nat
  o : Nat
  n : Nat
  d : Nat
  l : Nat

def lkCells (L : Nat) (base : Int) (G : LG) (s : LSt) : List AV :=
  [.int .i64 base, .str ⟨#[]⟩, .row (L + 5) G.d 2 0 s.defs.length, .row (L + 6) G.l 2 0 s.lines.length, .row (L + 4) G.n 2 0 s.places.length, .row (L + 3) G.o 5 0 s.objs.length, .map L G.a, .map (L + 1) (G.a + 1), .int .i64 s.end_]
/-- The linker's objects behind L others. -/
def lkObjs (L : Nat) (base : Int) (G : LG) (s : LSt) : List (Nat × AObj) :=
  [(G.a, .map (namesM s.nmap)), (G.a + 1, .map (setS s.own)), (G.a + 2, .cells (lkCells L base G s)),
   (G.o, .row 51 5 (s.objs.map Deck.av)), (G.n, .row 40 2 (s.places.map DDef.av)), (G.d, .row 40 2 (s.defs.map DDef.av)), (G.l, .row 102 2 (s.lines.map DLine.av))]

def LSt.start (base : Int) : LSt := ⟨[], [], [], [], [], [], base⟩

def upF (n : Int) : Int := (n + 7) / 8 * 8

/-- The names that an object defines. -/
def putNames (at_ : Int) (once : Bool) : List DDef → LSt → Except ByteArray LSt
  | [], s => .ok s
  | d :: ds, s => if (outerF s.nmap d.name).isSome then (if once then .error d.name else putNames at_ once ds s)
    else putNames at_ once ds { s with nmap := s.nmap ++ [⟨d.name, at_ + d.at_⟩], defs := s.defs ++ [⟨d.name, at_ + d.at_⟩] }
def putL (once : Bool) (s : LSt) (o : Deck) : Except ByteArray LSt :=
  if once && ((outerF s.nmap o.name).isSome || hasS s.own o.name) then .error o.name else
  match putNames (upF s.end_) once (linkDefs o) { s with own := addS s.own o.name, objs := s.objs ++ [o], places := s.places ++ [⟨o.name, upF s.end_⟩] } with
  | .error n => .error n
  | .ok s' => .ok { s' with lines := s'.lines ++ o.lines.map (fun x => ⟨upF s.end_ + x.at_, x.stmt⟩), end_ := upF s.end_ + o.code.size }

structure Deck.Fit (o : Deck) : Prop where
  small : o.Small
  code : o.code.size ≤ 20000
  defs : ∀ d ∈ o.defs, 0 ≤ d.at_ ∧ d.at_ ≤ 1048576
  lines : ∀ d ∈ o.lines, 0 ≤ d.at_ ∧ d.at_ ≤ 1048576

/-- Numbers that the linker reckons with are small. -/
structure LSt.Small (s : LSt) : Prop where
  objs : s.objs.length ≤ 2000000
  fit : ∀ o ∈ s.objs, o.Fit
  places : s.places.length = s.objs.length
  defs : s.defs.length ≤ s.objs.length * 1048577
  lines : s.lines.length ≤ s.objs.length * 1048576
  end0 : 0 ≤ s.end_
  end1 : s.end_ ≤ 65536 + s.objs.length * 20008

theorem call26 (base : Int) (pre : List (Nat × AObj)) (nx : Nat) : ACalls Try.prog 26 [.int .i64 base, .nilS] ⟨pre, nx⟩ fun out m => out = .ret (.ptr (pre.length + 2) (nx + 2) 0) ∧
    m = ⟨pre ++ lkObjs pre.length base ⟨nx, nx + 3, nx + 4, nx + 5, nx + 6⟩ (.start base), nx + 7⟩ := by
  refine ACalls.sim (R := fun out m => out = .ret (.ptr (pre.length + 2) (nx + 2) 0) ∧ m = ⟨pre ++ [(nx, .map []), (nx + 1, .map []), (nx + 2, .cells [.int .i64 base, .str ⟨#[]⟩, .nilS, .nilS, .nilS, .nilS, .map pre.length nx, .map (pre.length + 1) (nx + 1), .int .i64 base])], nx + 3⟩) ?_ ?_
  · refine ok26.acalls (by simp) ?_
    have hf : ltI 0 0 = false := ltI_f.2 (by omega)
    simp [c26]
    refine wpS_loop (ι := Unit) (fun _ => [(5, .ptr (pre.length + 2) (nx + 2) 0), (15, .nilS), (16, .int .i64 0), (17, .int .i64 0)]) (fun _ => ⟨pre ++ [(nx, .map []), (nx + 1, .map []), (nx + 2, .cells [.int .i64 base, .str ⟨#[]⟩, .nilS, .nilS, .nilS, .nilS, .map pre.length nx, .map (pre.length + 1) (nx + 1), .int .i64 base])], nx + 3⟩) (fun _ => 0) (fun _ => True) () trivial (Env.le_of (by simp)) (by simp) ?_
    intro _ _
    simp [hf, cr26]
  · rintro out m ⟨rfl, rfl⟩
    refine ⟨_, _, ⟨rfl, rfl⟩, ?_⟩
    have nilAt : ∀ (a b : Nat × AObj) (g : Nat) (vs : List AV) (rest : List (Nat × AObj)) (n i et : Nat) {sz : Nat}, 0 < sz → vs[i]? = some .nilS → ∀ out,
        SimO out ⟨pre ++ a :: b :: (g, .cells (vs.set i (.row (pre.length + (3 + rest.length)) n sz 0 0))) :: (rest ++ [(n, .row et sz [])]), n + 1⟩ out ⟨pre ++ a :: b :: (g, .cells vs) :: rest, n⟩ := by
      intro a b g vs rest n i et sz hsz hi out
      have h := SimO.nil_cell (out := out) (m := ⟨pre ++ a :: b :: (g, .cells vs) :: rest, n⟩) (pos := pre.length + 2) (g := g) i et hsz (by rw [preL_get]; rfl) hi
      have e : (pre ++ a :: b :: (g, AObj.cells vs) :: rest).length = pre.length + (3 + rest.length) := by simp; omega
      simp only [Mem.new, Mem.put, e, List.append_assoc, preL_set] at h
      exact h
    exact SimO.trans (nilAt _ _ _ _ [_, _, _] (nx + 6) 3 102 (by omega) rfl _) (SimO.trans (nilAt _ _ _ _ [_, _] (nx + 5) 2 40 (by omega) rfl _) (SimO.trans (nilAt _ _ _ _ [_] (nx + 4) 4 40 (by omega) rfl _) (nilAt _ _ _ _ [] (nx + 3) 5 51 (by omega) rfl _)))
end Go.Pm
