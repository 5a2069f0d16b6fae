/- LkC17: contracts: an object is put behind the others. -/
import Derived.Test.YtolfkdphlgkekaaGc
import Derived.Test.YtolfkdphlgkekaaGb
namespace Go.Pm
open Go Go.Proofs
attribute [-simp] List.getElem?_map

theorem linkDefs_len (o : Deck) : (linkDefs o).length ≤ o.defs.length + 1 := by unfold linkDefs; split <;> simp
theorem linkDefs_fit {o : Deck} (h : o.Fit) : ∀ d ∈ linkDefs o, 0 ≤ d.at_ ∧ d.at_ ≤ 1048576 := by
  intro d hd
  unfold linkDefs at hd
  split at hd
  · exact h.defs d hd
  · rcases List.mem_cons.1 hd with rfl | hd
    · exact ⟨Int.le_refl _, by simp⟩
    · exact h.defs d hd

def wrongV (n : ByteArray) : AV := .iface 58 (.agg [.int .i64 6, .str n])

theorem postA_norm {rs : List Res} {R : AOut → Mem → Prop} {e : Env} {m : Mem} : postA rs R .norm e m = ∃ v, resA rs e m = some v ∧ R (.ret v) m := rfl
attribute [simp] updAdd findN nilCheckA postA_norm

def SC.fst : SC → SC
  | .seq a _ => a
  | s => s
def SC.snd : SC → SC
  | .seq _ b => b
  | s => s

def r27 : SC := c27.snd.snd
theorem p27 : c27 = .seq c27.fst (.seq c27.snd.fst r27) := rfl

/-- What a call of put leaves. -/
def put27 (pre : List (Nat × AObj)) (base : Int) (G : LG) (once : Bool) (s : LSt) (o : Deck) (out : AOut) (m : Mem) : Prop := match putL once s o with
  | .ok s' => out = .ret (.tuple []) ∧ ∃ o' n' d' l' nx', m = ⟨pre ++ lkObjs pre.length base ⟨G.a, o', n', d', l'⟩ s', nx'⟩
  | .error n => out = .panic (wrongV n) ∧ ∃ nx', m = ⟨pre, nx'⟩

theorem le_pre (pre q : List (Nat × AObj)) (k : Nat) : Mem.le ⟨pre, k⟩ ⟨pre ++ q, k⟩ := ⟨rfl, pre.length, by simp⟩

set_option maxHeartbeats 4000000 in
theorem rest27 (pre : List (Nat × AObj)) (base : Int) (G : LG) (s : LSt) (o : Deck) (once : Bool) (nx : Nat) (hs : s.Small) (ho : o.Fit) (x7 : AV) (hput : ∀ out m, (match putNames (upF s.end_) once (linkDefs o) { s with own := addS s.own o.name, objs := s.objs ++ [o], places := s.places ++ [⟨o.name, upF s.end_⟩] } with
      | .error n => out = .panic (wrongV n) ∧ ∃ nx', m = ⟨pre, nx'⟩
      | .ok s' => out = .ret (.tuple []) ∧ ∃ o' n' d' l' nx', m = ⟨pre ++ lkObjs pre.length base ⟨G.a, o', n', d', l'⟩ { s' with lines := s'.lines ++ o.lines.map (fun x => ⟨upF s.end_ + x.at_, x.stmt⟩), end_ := upF s.end_ + o.code.size }, nx'⟩) → put27 pre base G once s o out m) :
    wpS Try.prog Lk.imp r27 [] (postA cr27 fun out m' => ∃ m'', Mem.le m'' m' ∧ put27 pre base G once s o out m'') [(0, .ptr (pre.length + 2) (G.a + 2) 0), (1, .agg o.av), (2, .bool once), (4, .ptr (pre.length + 7) nx 0), (7, x7), (37, .bool false)] ⟨pre ++ (lkObjs pre.length base G s ++ [(nx, .cells o.av)]), nx + 1⟩ := by
  have sl := hs.objs
  have s1 := hs.places
  have s2 : s.defs.length ≤ 3000000000000 := by have := hs.defs; omega
  have s3 : s.lines.length ≤ 3000000000000 := by have := hs.lines; omega
  have s4 := hs.end0
  have s5 : s.end_ ≤ 900000000000 := by have := hs.end1; omega
  have hsm := ho.small
  have d1 := hsm.defs
  have d2 := hsm.lines
  have d3 := hsm.code
  have d4 := linkDefs_len o
  have d5 := linkDefs_fit ho
  have h53 := call53 s.end_ s4 (by omega)
  have hup : upF s.end_ = (s.end_ + 7) / 8 * 8 := rfl
  have hup0 : 0 ≤ upF s.end_ := by rw [hup]; omega
  have hup1 : upF s.end_ ≤ 900000000100 := by rw [hup]; omega
  rw [show (s.end_ + 7) / 8 * 8 = upF s.end_ from rfl] at h53
  have b1 : (s.objs.length + 1) * 104 ≤ 140737488355328 ∧ s.objs.length + 1 ≤ 9223372036854775807 := ⟨by omega, by omega⟩
  have b2 : (s.places.length + 1) * 24 ≤ 140737488355328 ∧ s.places.length + 1 ≤ 9223372036854775807 := ⟨by omega, by omega⟩
  simp [r27, c27, SC.snd, lkObjs, lkCells, Deck.av]
  refine xcall_p h53 (by simp) ?_
  simp [appendA, b1, b2, List.range_succ]
  refine xcall_p (call54 o hsm) (by simp [Deck.av]) ?_
  simp
  obtain ⟨s0, hs0⟩ : ∃ s0 : LSt, s0 = { s with own := addS s.own o.name, objs := s.objs ++ [o], places := s.places ++ [⟨o.name, upF s.end_⟩] } := ⟨_, rfl⟩
  rw [← hs0] at hput
  have dd : ∀ i, i < (linkDefs o).length → IntKind.i64.wrap (upF s.end_ + (ix (linkDefs o) i).at_) = upF s.end_ + (ix (linkDefs o) i).at_ := fun i hi => by
    have := d5 _ (ix_mem hi)
    exact wrap64 (by omega) (by omega)
  refine wpS_loopS (ι := (Nat × List DDef × List DDef) × (Nat × Nat)) (fun g => [(0, .ptr (pre.length + 2) (G.a + 2) 0), (2, .bool once), (4, .ptr (pre.length + 7) nx 0), (8, .int .i64 (upF s.end_)), (79, .list true 2 ((linkDefs o).map DDef.av)), (80, .int .i64 (linkDefs o).length), (81, .int .i64 g.1.1)])
    (fun g => ⟨pre ++ (lkObjs pre.length base ⟨G.a, nx + 1 + 1, nx + 1 + 1 + 1 + 1, g.2.1, G.l⟩ { s0 with nmap := g.1.2.1, defs := g.1.2.2 } ++ [(nx, .cells o.av)]), g.2.2⟩) (fun g => (linkDefs o).length - g.1.1)
    (fun g => g.1.1 ≤ (linkDefs o).length ∧ putNames (upF s.end_) once (linkDefs o) s0 = putNames (upF s.end_) once ((linkDefs o).drop g.1.1) { s0 with nmap := g.1.2.1, defs := g.1.2.2 } ∧ g.1.2.2.length ≤ s.defs.length + g.1.1)
    ((0, s.nmap, s.defs), (G.d, nx + 1 + 1 + 1 + 1 + 1)) ⟨Nat.zero_le _, by rw [hs0]; rfl, by simp⟩ (Sim.of_le (Env.le_of (by simp)) (Mem.le_of rfl (by simp [lkObjs, lkCells, hs0, Deck.av, DDef.av]))) ?_
  intro ⟨⟨i, nm, df⟩, ⟨gd, ny⟩⟩ ⟨hi, hall, hdl⟩
  simp only at hi hall hdl
  have hw : IntKind.i64.wrap (i + 1) = i + 1 := wrap64 (by omega) (by omega)
  have b3 : (df.length + 1) * 24 ≤ 140737488355328 ∧ df.length + 1 ≤ 9223372036854775807 := ⟨by omega, by omega⟩
  simp
  refine br_cond rfl (fun h => ?_) (fun h => ?_)
  · have hlt : i < (linkDefs o).length := by have := ltI_t.1 h; omega
    have hwd := dd i hlt
    rw [drop_ix hlt, putNames] at hall
    generalize hd : ix (linkDefs o) i = d at *
    cases hz : outerF nm d.name with
    | some v =>
      rw [if_pos (by simp only [hz]; rfl)] at hall
      cases once with
      | true =>
        have hp := hput (.panic (wrongV d.name)) ⟨pre, ny + 1⟩ (by rw [hall]; exact ⟨rfl, _, rfl⟩)
        simp [h, idxM, hd, DDef.av, lkObjs, lkCells, hz, cr27, postA_panic]
        exact ⟨_, _, ⟨rfl, rfl⟩, _, le_pre _ _ _, hp⟩
      | false =>
        simp [h, idxM, hd, DDef.av, lkObjs, lkCells, hz, hw]
        exact ⟨i + 1, nm, df, ⟨by omega, hall, by omega⟩, by omega, gd, ny + 1, Sim.of_le (Env.le_of (by simp)) (Mem.le_of rfl (by simp [lkObjs, lkCells]))⟩
    | none =>
      rw [if_neg (by simp [hz])] at hall
      have hu := updN d.name (upF s.end_ + d.at_) nm hz
      simp [h, idxM, hd, DDef.av, lkObjs, lkCells, hz, hu, hwd, hw, appendA, b3, List.range_succ]
      exact ⟨i + 1, nm ++ [⟨d.name, upF s.end_ + d.at_⟩], df ++ [⟨d.name, upF s.end_ + d.at_⟩], ⟨by omega, hall, by simp; omega⟩, by omega, ny + 1 + 1, ny + 1 + 1 + 1, Sim.of_le (Env.le_of (by simp)) (Mem.le_of rfl (by simp [lkObjs, lkCells, DDef.av]))⟩
  · have hil : i = (linkDefs o).length := by have := ltI_f.1 h; omega
    rw [hil, List.drop_length, putNames] at hall
    rw [hall] at hput
    simp only at hput
    simp [h, lkObjs, lkCells, Deck.av]
    have hfl := ho.lines
    refine wpS_loopS (ι := (Nat × List DLine) × (Nat × Nat)) (fun g => [(0, .ptr (pre.length + 2) (G.a + 2) 0), (4, .ptr (pre.length + 7) nx 0), (8, .int .i64 (upF s.end_)), (131, .list true 2 (o.lines.map DLine.av)), (132, .int .i64 o.lines.length), (133, .int .i64 g.1.1)])
      (fun g => ⟨pre ++ (lkObjs pre.length base ⟨G.a, nx + 1 + 1, nx + 1 + 1 + 1 + 1, gd, g.2.1⟩ { s0 with nmap := nm, defs := df, lines := g.1.2 } ++ [(nx, .cells o.av)]), g.2.2⟩) (fun g => o.lines.length - g.1.1)
      (fun g => g.1.1 ≤ o.lines.length ∧ g.1.2 = s.lines ++ (o.lines.take g.1.1).map (fun x => ⟨upF s.end_ + x.at_, x.stmt⟩)) ((0, s.lines), (G.l, ny)) ⟨Nat.zero_le _, by simp⟩ (Sim.of_le (Env.le_of (by simp)) (Mem.le_of rfl (by simp [lkObjs, lkCells, hs0, Deck.av]))) ?_
    intro ⟨⟨k, ls⟩, ⟨gl, nz⟩⟩ ⟨hk, hls⟩
    simp only at hk hls
    have hwk : IntKind.i64.wrap (k + 1) = k + 1 := wrap64 (by omega) (by omega)
    have hlen : ls.length = s.lines.length + k := by rw [hls]; simp; omega
    have b4 : (ls.length + 1) * 16 ≤ 140737488355328 ∧ ls.length + 1 ≤ 9223372036854775807 := ⟨by omega, by omega⟩
    simp
    refine br_cond rfl (fun h2 => ?_) (fun h2 => ?_)
    · have hlk : k < o.lines.length := by have := ltI_t.1 h2; omega
      have hx := hfl _ (ix_mem hlk)
      have hwx : IntKind.i64.wrap (upF s.end_ + (ix o.lines k).at_) = upF s.end_ + (ix o.lines k).at_ := wrap64 (by omega) (by omega)
      have htk : o.lines.take (k + 1) = o.lines.take k ++ [ix o.lines k] := by rw [List.take_add_one, idx h2]; rfl
      simp [h2, idxM, DLine.av, lkObjs, lkCells, hwx, hwk, appendA, b4, List.range_succ]
      exact ⟨k + 1, ls ++ [⟨upF s.end_ + (ix o.lines k).at_, (ix o.lines k).stmt⟩], ⟨by omega, by rw [← List.map_take, htk, hls, List.map_append, List.append_assoc]; rfl⟩, by omega, nz + 1 + 1, nz + 1 + 1 + 1, Sim.of_le (Env.le_of (by simp)) (Mem.le_of rfl (by simp [lkObjs, lkCells, DLine.av]))⟩
    · have hkl : k = o.lines.length := by have := ltI_f.1 h2; omega
      rw [hkl, List.take_length] at hls
      have hwe : IntKind.i64.wrap (upF s.end_ + o.code.size) = upF s.end_ + o.code.size := wrap64 (by omega) (by omega)
      simp [h2, lkObjs, lkCells, Deck.av, cr27, hwe]
      refine ⟨⟨pre ++ lkObjs pre.length base ⟨G.a, nx + 1 + 1, nx + 1 + 1 + 1 + 1, gd, gl⟩ { s0 with nmap := nm, defs := df, lines := ls, end_ := upF s.end_ + o.code.size }, nz⟩, Mem.le_of rfl ?_, hput _ _ ⟨rfl, nx + 1 + 1, nx + 1 + 1 + 1 + 1, gd, gl, nz, ?_⟩⟩
      · simp [lkObjs, lkCells]
      · rw [hls, show s0.lines = s.lines by rw [hs0]]

set_option maxHeartbeats 4000000 in
theorem call27 (pre : List (Nat × AObj)) (base : Int) (G : LG) (s : LSt) (o : Deck) (once : Bool) (nx : Nat) (hs : s.Small) (ho : o.Fit) :
    ACalls Try.prog 27 [.ptr (pre.length + 2) (G.a + 2) 0, .agg o.av, .bool once] ⟨pre ++ lkObjs pre.length base G s, nx⟩ (put27 pre base G once s o) := by
  refine ACalls.forget ?_
  refine ok27.acalls (by simp) ?_
  rw [p27]
  have rest := rest27 pre base G s o once nx hs ho
  cases once with
  | false =>
    simp [c27, SC.fst, SC.snd, lkObjs, lkCells, Deck.av]
    exact rest _ fun out m h => by
      unfold put27 putL
      cases hp : putNames (upF s.end_) false (linkDefs o) { s with own := addS s.own o.name, objs := s.objs ++ [o], places := s.places ++ [⟨o.name, upF s.end_⟩] } <;> rw [hp] at h <;> simpa [hp] using h
  | true =>
    cases hx : outerF s.nmap o.name with
    | some v =>
      have hput : put27 pre base G true s o (.panic (wrongV o.name)) ⟨pre, nx + 1⟩ := by unfold put27 putL; simp [hx]
      simp [c27, SC.fst, SC.snd, lkObjs, lkCells, Deck.av, hx, cr27, postA_panic]
      exact ⟨_, _, ⟨rfl, rfl⟩, _, le_pre _ _ _, hput⟩
    | none =>
      cases hy : hasS s.own o.name with
      | true =>
        have hput : put27 pre base G true s o (.panic (wrongV o.name)) ⟨pre, nx + 1⟩ := by unfold put27 putL; simp [hx, hy]
        simp [c27, SC.fst, SC.snd, lkObjs, lkCells, Deck.av, hx, hy, cr27, postA_panic]
        exact ⟨_, _, ⟨rfl, rfl⟩, _, le_pre _ _ _, hput⟩
      | false =>
        simp [c27, SC.fst, SC.snd, lkObjs, lkCells, Deck.av, hx, hy]
        exact rest _ fun out m h => by
          unfold put27 putL
          cases hp : putNames (upF s.end_) true (linkDefs o) { s with own := addS s.own o.name, objs := s.objs ++ [o], places := s.places ++ [⟨o.name, upF s.end_⟩] } <;> rw [hp] at h <;> simpa [hp, hx, hy] using h

/-- put, where names may be there. -/
theorem putNames_false (A : Int) : ∀ (ds : List DDef) (s : LSt), ∃ s', putNames A false ds s = .ok s'
  | [], s => ⟨s, rfl⟩
  | d :: ds, s => by
    rw [putNames]
    split
    · exact putNames_false A ds s
    · exact putNames_false A ds _
theorem putNames_same (A : Int) (once : Bool) : ∀ (ds : List DDef) (s s' : LSt), putNames A once ds s = .ok s' → s'.objs = s.objs ∧ s'.own = s.own ∧ s'.places = s.places ∧ s'.lines = s.lines ∧ s'.end_ = s.end_ ∧ s'.defs.length ≤ s.defs.length + ds.length
  | [], s, s', h => by simp only [putNames, Except.ok.injEq] at h; subst h; simp
  | d :: ds, s, s', h => by
    rw [putNames] at h
    split at h
    · split at h
      · cases h
      · obtain ⟨h1, h2, h3, h4, h5, h6⟩ := putNames_same A once ds s s' h
        exact ⟨h1, h2, h3, h4, h5, by simp; omega⟩
    · obtain ⟨h1, h2, h3, h4, h5, h6⟩ := putNames_same A once ds _ s' h
      exact ⟨h1, h2, h3, h4, h5, by simp at h6 ⊢; omega⟩
theorem putL_same {once : Bool} {s s' : LSt} {o : Deck} (h : putL once s o = .ok s') : s'.objs = s.objs ++ [o] ∧ s'.own = addS s.own o.name ∧ s'.places = s.places ++ [⟨o.name, upF s.end_⟩] ∧ s'.lines = s.lines ++ o.lines.map (fun x => ⟨upF s.end_ + x.at_, x.stmt⟩) ∧ s'.end_ = upF s.end_ + o.code.size ∧ s'.defs.length ≤ s.defs.length + (linkDefs o).length := by
  unfold putL at h
  split at h
  · cases h
  · split at h
    · cases h
    · rename_i s1 h1
      injection h with h; subst h
      obtain ⟨h1, h2, h3, h4, h5, h6⟩ := putNames_same _ _ _ _ _ h1
      exact ⟨h1, h2, h3, by simp only [h4], rfl, h6⟩
theorem putL_small {once : Bool} {s s' : LSt} {o : Deck} (hs : s.Small) (ho : o.Fit) (hl : s.objs.length < 2000000) (h : putL once s o = .ok s') : s'.Small := by
  obtain ⟨h1, h2, h3, h4, h5, h6⟩ := putL_same h
  have d1 := ho.small.defs
  have d2 := ho.small.lines
  have d3 := ho.code
  have d4 := linkDefs_len o
  have s1 := hs.places
  have s2 := hs.defs
  have s3 := hs.lines
  have s4 := hs.end0
  have s5 := hs.end1
  have hup : upF s.end_ = (s.end_ + 7) / 8 * 8 := rfl
  refine ⟨by rw [h1]; simp; omega, fun x hx => ?_, by rw [h1, h3]; simp [s1], by rw [h1]; simp only [List.length_append, List.length_singleton]; omega, by rw [h1, h4]; simp only [List.length_append, List.length_singleton, List.length_map]; omega, by rw [h5, hup]; omega, by rw [h5, h1, hup]; simp only [List.length_append, List.length_singleton]; omega⟩
  rw [h1] at hx
  rcases List.mem_append.1 hx with hx | hx
  · exact hs.fit x hx
  · rw [List.mem_singleton.1 hx]; exact ho
def putNF (s : LSt) (o : Deck) : LSt := match putL false s o with
  | .ok s' => s'
  | .error _ => s
theorem putL_false (s : LSt) (o : Deck) : putL false s o = .ok (putNF s o) := by
  obtain ⟨s1, h1⟩ := putNames_false (upF s.end_) (linkDefs o) { s with own := addS s.own o.name, objs := s.objs ++ [o], places := s.places ++ [⟨o.name, upF s.end_⟩] }
  unfold putNF putL
  simp only [Bool.false_and, Bool.false_eq_true, if_false, h1]
end Go.Pm

/- LkS6: code, resolved. Written by gen.py out of what ShowSC.lean printed. -/
namespace Go.Pm
open Go Go.Proofs

/-- (*ironbark/link.linking).found$1 -/
def c81 : SC :=
  (.seq (.ops [⟨(some 2), .plain (.box 2), [.tmp 0], none⟩,
    ⟨(some 3), .plain .mv, [.lit (.bool false)], none⟩] [])
  (.seq (.ops [⟨(some 4), .plain (.fieldAddr 0), [.tmp 2], none⟩,
    ⟨(some 5), .plain (.load false 1), [.tmp 4], none⟩,
    ⟨(some 6), .plain (.load false 1), [.tmp 1], none⟩,
    ⟨(some 7), .plain (.bin .eql), [.tmp 5, .tmp 6], none⟩,
    ⟨(some 3), .plain .mv, [.tmp 7], none⟩] [4, 5, 6, 7])
  .ret))
def cr81 : List Res := [(3, none)]
theorem ok81 : FOk Try.prog Lk.imp 81 c81 cr81 Try.f81.ntmps := ⟨Try.f81, _, Try.func81, rfl, by kernel_rfl, by kernel_rfl, by kernel_rfl, rfl⟩

end Go.Pm

/- LkC11: contracts: what is taken of libraries, as the document says it. -/
namespace Go.Pm
open Go Go.Proofs
attribute [-simp] List.getElem?_map List.length_flatten

def refNames (l : List Deck) : List ByteArray := l.flatMap fun o => o.refs.map (·.name)
def scanF (root : List DDef) (l : List Deck) (libs : List (List Deck)) : List ByteArray → List ByteArray → List ByteArray × Option Deck
  | [], ms => (ms, none)
  | n :: ns, ms => if ((outerF root n).isSome || knownF l n) = true then scanF root l libs ns ms else match foundF l libs n with
    | some o => (ms, some o)
    | none => scanF root l libs ns (ms ++ [n])
def gathF (root : List DDef) (libs : List (List Deck)) : Nat → List Deck → List Deck × List ByteArray
  | 0, l => (l, [])
  | n + 1, l => match scanF root l libs (refNames l) [] with
    | (ms, none) => (l, ms)
    | (_, some o) => gathF root libs n (l ++ [o])

/-- How many objects of libraries are not there. -/
def away (libs : List (List Deck)) (l : List Deck) : Nat := (libs.flatten.filter fun o => !(l.any fun x => eqS x.name o.name)).length

theorem filter_le {α : Type} {p q : α → Bool} (h : ∀ x, q x = true → p x = true) : ∀ l : List α, (l.filter q).length ≤ (l.filter p).length
  | [] => Nat.le_refl _
  | x :: l => by
    have ih := filter_le h l
    simp only [List.filter_cons]
    by_cases hq : q x = true
    · rw [if_pos hq, if_pos (h x hq)]; simp only [List.length_cons]; omega
    · rw [if_neg hq]
      split
      · simp only [List.length_cons]; omega
      · exact ih
theorem filter_lt {α : Type} {p q : α → Bool} {o : α} (h : ∀ x, q x = true → p x = true) (hp : p o = true) (hq : q o = false) : ∀ {l : List α}, o ∈ l → (l.filter q).length < (l.filter p).length
  | [], hm => by cases hm
  | x :: l, hm => by
    simp only [List.filter_cons]
    rcases List.mem_cons.1 hm with rfl | hm
    · have := filter_le h l
      rw [hq, hp]
      simp only [Bool.false_eq_true, if_false, if_true, List.length_cons]; omega
    · have ih := filter_lt h hp hq hm
      by_cases hqx : q x = true
      · rw [if_pos hqx, if_pos (h x hqx)]; simp only [List.length_cons]; omega
      · rw [if_neg hqx]
        split
        · simp only [List.length_cons]; omega
        · exact ih

theorem away_less {libs : List (List Deck)} {l : List Deck} {n : ByteArray} {o : Deck} (h : foundF l libs n = some o) : away libs (l ++ [o]) < away libs l ∧ o ∈ libs.flatten := by
  have hm := List.mem_of_find?_eq_some h
  have ht := List.find?_some h
  simp only [takes, Bool.and_eq_true] at ht
  refine ⟨filter_lt (o := o) (fun x hx => ?_) ht.1 ?_ hm, hm⟩
  · simp only [List.any_append, Bool.not_or, Bool.and_eq_true] at hx
    exact hx.1
  · simp [eqS_t.2 rfl]

theorem scan_found {root : List DDef} {l : List Deck} {libs : List (List Deck)} {o : Deck} : ∀ {ns ms ms' : List ByteArray}, scanF root l libs ns ms = (ms', some o) → ∃ n, foundF l libs n = some o
  | [], ms, ms', h => by simp [scanF] at h
  | n :: ns, ms, ms', h => by
    unfold scanF at h
    split at h
    · exact scan_found h
    · split at h
      · rename_i o' ho
        injection h with _ h; injection h with h; subst h
        exact ⟨n, ho⟩
      · exact scan_found h

@[simp] theorem perm_texts : ∀ ms : List ByteArray, permLL (ms.map fun s => [AV.str s]) = true
  | [] => rfl
  | m :: ms => by simp only [List.map_cons, permLL, perm_texts ms, permL, AV.perm, Bool.and_self]
@[simp] theorem noref_texts : ∀ ms : List ByteArray, norefLL (ms.map fun s => [AV.str s]) = true
  | [] => rfl
  | m :: ms => by simp only [List.map_cons, norefLL, noref_texts ms, norefL, AV.noref, Bool.and_self]

@[simp] theorem noref_libs : ∀ l : List (List Deck), norefLL (l.map libAV) = true
  | [] => rfl
  | d :: l => by simp only [List.map_cons, norefLL, noref_libs l, libAV, decksAV, norefL, AV.noref, noref_decks, Bool.and_self]

/-- A list of texts as it is handed back: nothing where there is none. -/
def textsAV (ms : List ByteArray) : AV := match ms with
  | [] => .nilS
  | _ => .list true 1 (ms.map fun s => [.str s])

/-- What was missing so far, as it stands in memory. -/
def missAV (g : Nat) : List ByteArray → AV
  | [] => .nilS
  | _ :: ms => .row 3 g 1 0 (ms.length + 1)
def missMem (gj g : Nat) : List ByteArray → List (Nat × AObj)
  | [] => []
  | m :: ms => [(gj, .row 9 1 [[.str m]]), (g, .row 9 1 ([.str m] :: ms.map fun s => [.str s]))]

/-- Where a search for what is missing stands. -/
structure GState where
  i : Nat
  ms : List ByteArray
  tk : Option Deck
  gj : Nat
  g : Nat
  nx : Nat

/-- What is left to scan tells what the whole tells. -/
def GOk (root : List DDef) (l : List Deck) (libs : List (List Deck)) (S : List ByteArray × Option Deck) (rest : List ByteArray) (ms : List ByteArray) : Option Deck → Prop
  | none => S = scanF root l libs rest ms
  | some o => S = (ms, some o)

theorem refs_le : ∀ {l : List Deck}, (∀ o ∈ l, o.Small) → (refNames l).length ≤ l.length * 1048576
  | [], _ => by simp [refNames]
  | o :: l, h => by
    have ih := refs_le (l := l) fun x hx => h x (List.mem_cons_of_mem _ hx)
    have h0 := (h o List.mem_cons_self).refs
    simp only [refNames, List.flatMap_cons, List.length_append, List.length_map, List.length_cons] at ih ⊢
    omega
theorem refs_max {l : List Deck} (h : SmallL l) : (refNames l).length ≤ 3000000000000 := by
  have h1 := refs_le h.each
  have h2 := h.len
  omega

set_option maxHeartbeats 8000000 in
theorem call37 (p q r : Bool) (l0 : List Deck) (libs : List (List Deck)) (root : List DDef) (hl : SmallL l0) (hb : SmallLL libs) (hr : root.length ≤ 2000000) (hsum : l0.length + libs.flatten.length ≤ 2000000) :
    PCalls Try.prog 37 [.list p 5 (l0.map Deck.av), .list q 1 (libs.map libAV), .list r 2 (root.map DDef.av)]
      fun out => out = .ret (.tuple [decksAV (gathF root libs (libs.flatten.length + 1) l0).1, textsAV (gathF root libs (libs.flatten.length + 1) l0).2]) := by
  refine ok37.pcalls (by simp) ?_
  have hc1 : l0.length * 104 ≤ 140737488355328 ∧ l0.length ≤ 9223372036854775807 := ⟨by omega, by omega⟩
  simp [c37, appendA, hc1]
  have haw : ∀ l, away libs l ≤ libs.flatten.length := fun l => List.length_filter_le _ _
  refine wpS_loop (ι := (Nat × List Deck) × (Nat × Nat)) (fun s => [(0, .row 0 s.2.1 5 0 s.1.2.length), (1, .list q 1 (libs.map libAV)), (2, .list r 2 (root.map DDef.av))])
    (fun s => ⟨[(s.2.1, .row 51 5 (s.1.2.map Deck.av))], s.2.2⟩) (fun s => s.1.1)
    (fun s => gathF root libs (libs.flatten.length + 1) l0 = gathF root libs s.1.1 s.1.2 ∧ away libs s.1.2 < s.1.1 ∧ SmallL s.1.2 ∧ s.1.2.length + away libs s.1.2 ≤ l0.length + libs.flatten.length)
    ((libs.flatten.length + 1, l0), (0, 1)) ⟨rfl, by have := haw l0; simp only; omega, hl, by have := haw l0; simp only; omega⟩ (Env.le_of (by simp)) (by simp) ?_
  intro ⟨⟨n, l⟩, ⟨g, nx⟩⟩ ⟨hg, haw1, hsl, hlen⟩
  simp only at hg haw1 hsl hlen
  have sl := hsl.len
  generalize gathF root libs (libs.flatten.length + 1) l0 = G at *
  obtain ⟨n, rfl⟩ : ∃ n', n = n' + 1 := ⟨n - 1, by omega⟩
  rw [gathF] at hg
  have hS : scanF root l libs (refNames l) [] = scanF root l libs (refNames l) [] := rfl
  generalize hSd : scanF root l libs (refNames l) [] = S at *
  have hkl : elsOf (⟨[(g, .row 51 5 (l.map Deck.av))], nx⟩ : Mem) 5 (.row 0 g 5 0 l.length) = some (l.map Deck.av) := by simp
  simp
  refine wpS_loop (ι := GState) (fun s => [(0, .row 0 g 5 0 l.length), (1, .list q 1 (libs.map libAV)), (2, .list r 2 (root.map DDef.av)), (8, missAV s.g s.ms), (9, .ptr 1 nx 0), (10, .bool s.tk.isSome), (11, .int .i64 s.i)])
    (fun s => ⟨(g, .row 51 5 (l.map Deck.av)) :: (nx, .cells (deckOr s.tk)) :: missMem s.gj s.g s.ms, s.nx⟩) (fun s => l.length - s.i)
    (fun s => s.i ≤ l.length ∧ GOk root l libs S (refNames (l.drop s.i)) s.ms s.tk ∧ s.ms.length + (refNames (l.drop s.i)).length ≤ (refNames l).length) ⟨0, [], none, 0, 0, nx + 1⟩ ⟨Nat.zero_le _, hSd.symm, by simp⟩ (Env.le_of (by simp [missAV])) (by simp [deckOr, missMem]) ?_
  intro ⟨i, ms, tk, gj, gm, ny⟩ ⟨hi, hall, hml⟩
  simp only at hi hall hml
  have hw : IntKind.i64.wrap (i + 1) = i + 1 := wrap64 (by omega) (by omega)
  simp
  refine br_guard_t rfl (fun h => ?_) (fun h => ?_)
  · cases tk with
    | none =>
      have hlt : i < l.length := by have := ltI_t.1 h; omega
      have hos := hsl.each _ (ix_mem hlt)
      have hrl := hos.refs
      have hrn : refNames (l.drop i) = (ix l i).refs.map (·.name) ++ refNames (l.drop (i + 1)) := by rw [drop_ix hlt]; rfl
      rw [hrn] at hall
      generalize hoi : ix l i = o at *
      rw [hrn, List.length_append, List.length_map] at hml
      simp [h]
      refine wpS_loop (ι := GState) (fun s => [(0, .row 0 g 5 0 l.length), (1, .list q 1 (libs.map libAV)), (2, .list r 2 (root.map DDef.av)), (8, missAV s.g s.ms), (9, .ptr 1 nx 0), (10, .bool s.tk.isSome), (11, .int .i64 i), (12, .int .i64 s.i)])
        (fun s => ⟨(g, .row 51 5 (l.map Deck.av)) :: (nx, .cells (deckOr s.tk)) :: missMem s.gj s.g s.ms, s.nx⟩) (fun s => o.refs.length - s.i)
        (fun s => s.i ≤ o.refs.length ∧ GOk root l libs S ((o.refs.drop s.i).map (·.name) ++ refNames (l.drop (i + 1))) s.ms s.tk ∧ s.ms.length + ((o.refs.length - s.i) + (refNames (l.drop (i + 1))).length) ≤ (refNames l).length) ⟨0, ms, none, gj, gm, ny⟩ ⟨Nat.zero_le _, hall, by simp only [Nat.sub_zero]; exact hml⟩ (Env.le_of (by simp)) (by simp) ?_
      clear hml
      have hmx := refs_max hsl
      intro ⟨k, ms, tk, gj, gm, ny⟩ ⟨hk, hka, hml⟩
      simp only at hk hka hml
      have hwk : IntKind.i64.wrap (k + 1) = k + 1 := wrap64 (by omega) (by omega)
      simp [h, idxM, Deck.av, hoi]
      refine br_guard_t rfl (fun h2 => ?_) (fun h2 => ?_)
      · cases tk with
        | none =>
          have hlk : k < o.refs.length := by have := ltI_t.1 h2; omega
          rw [drop_ix hlk, List.map_cons, List.cons_append] at hka
          have hka' : S = scanF root l libs ((ix o.refs k).name :: ((o.refs.drop (k + 1)).map (·.name) ++ refNames (l.drop (i + 1)))) ms := hka
          rw [scanF] at hka'
          generalize hnm : (ix o.refs k).name = nm at *
          simp [h, h2, idxM, Deck.av, DRef.av, hoi, hnm]
          refine xcall_p (call65 r root nm (by omega)) (by simp) ?_
          simp
          refine br_guard_f rfl (fun h3 => ?_) (fun h3 => ?_)
          · rw [if_pos (by rw [h3]; rfl)] at hka'
            simp [h3, hwk]
            exact ⟨⟨k + 1, ms, none, gj, gm, ny⟩, ⟨by simp only; omega, by show S = _; rw [← List.map_drop]; exact hka', by simp; omega⟩, by simp only; omega, Env.le_of (by simp), Mem.le_of rfl (by simp)⟩
          simp [h3]
          refine xcall_p (call66 false l hsl nm) (by simp) ?_
          simp
          refine br_cond rfl (fun h4 => ?_) (fun h4 => ?_)
          · rw [if_pos (by rw [h4]; simp)] at hka'
            simp [hwk]
            exact ⟨⟨k + 1, ms, none, gj, gm, ny⟩, ⟨by simp only; omega, by show S = _; rw [← List.map_drop]; exact hka', by simp; omega⟩, by simp only; omega, Env.le_of (by simp), Mem.le_of rfl (by simp)⟩
          rw [if_neg (by rw [h3, h4]; simp)] at hka'
          simp
          refine xcall_p (call67 false q l libs nm hsl hb) (by simp) ?_
          cases hf : foundF l libs nm with
          | some o' =>
            rw [hf] at hka'
            simp only at hka'
            simp [deckOr, hwk, List.take_of_length_le]
            exact ⟨⟨k + 1, ms, some o', gj, gm, ny⟩, ⟨by simp only; omega, hka', by simp only; omega⟩, by simp only; omega, Env.le_of (by simp), Mem.le_of rfl (by simp)⟩
          | none =>
            rw [hf] at hka'
            simp only at hka'
            cases ms with
            | nil =>
              simp [deckOr, hwk, appendA, List.range_succ, missAV, missMem]
              exact ⟨⟨k + 1, [nm], none, ny, ny + 1, ny + 1 + 1⟩, ⟨by simp only; omega, by show S = _; rw [← List.map_drop]; exact hka', by simp; omega⟩, by simp only; omega, Env.le_of (by simp [missAV]), Mem.le_of rfl (by simp [missMem])⟩
            | cons m ms =>
              have hmb : (ms.length + 1 + 1) * 16 ≤ 140737488355328 ∧ ms.length ≤ 9223372036854775805 := by simp only [List.length_cons] at hml; omega
              simp [deckOr, hwk, appendA, List.range_succ, missAV, missMem, hmb]
              exact ⟨⟨k + 1, m :: ms ++ [nm], none, gj, ny + 1, ny + 1 + 1⟩, ⟨by simp only; omega, by show S = _; rw [← List.map_drop]; exact hka', by simp at hml ⊢; omega⟩, by simp only; omega, Env.le_of (by simp [missAV]), Mem.le_of rfl (by simp [missMem])⟩
        | some o' =>
          have hka' : S = (ms, some o') := hka
          simp [h2, hw]
          exact ⟨⟨i + 1, ms, some o', gj, gm, ny⟩, ⟨by simp only; omega, hka', by simp only; omega⟩, by simp only; omega, Env.le_of (by simp), Mem.le_of rfl (by simp)⟩
      · have hkd : k = o.refs.length := by have := ltI_f.1 h2; omega
        simp [h2, hw]
        cases tk with
        | none =>
          have hka' : S = scanF root l libs ((o.refs.drop k).map (·.name) ++ refNames (l.drop (i + 1))) ms := hka
          rw [hkd, List.drop_length] at hka'
          exact ⟨⟨i + 1, ms, none, gj, gm, ny⟩, ⟨by simp only; omega, hka', by simp only; omega⟩, by simp only; omega, Env.le_of (by simp), Mem.le_of rfl (by simp)⟩
        | some o' =>
          have hka' : S = (ms, some o') := hka
          exact ⟨⟨i + 1, ms, some o', gj, gm, ny⟩, ⟨by simp only; omega, hka', by simp only; omega⟩, by simp only; omega, Env.le_of (by simp), Mem.le_of rfl (by simp)⟩
    | some o =>
      simp [h]
      have hSo : S = (ms, some o) := hall
      rw [hSo] at hg
      simp only at hg
      obtain ⟨nm, hfo⟩ := scan_found (hSd.trans hSo)
      have hal := away_less hfo
      have hc2 : (l.length + 1) * 104 ≤ 140737488355328 ∧ l.length + 1 ≤ 9223372036854775807 := ⟨by omega, by omega⟩
      have hos : o.Small := by
        obtain ⟨x, hx, ho⟩ := List.mem_flatten.1 hal.2
        exact (hb.each x hx).each o ho
      have hsl2 : SmallL (l ++ [o]) := ⟨by have := hal.1; simp; omega, fun y hy => by
        rcases List.mem_append.1 hy with hy | hy
        · exact hsl.each y hy
        · rw [List.mem_singleton.1 hy]; exact hos⟩
      have hl2 : (l ++ [o]).length + away libs (l ++ [o]) ≤ l0.length + libs.flatten.length := by have := hal.1; simp; omega
      simp [deckOr, deck_take, appendA, hc2, List.range_succ, List.take_of_length_le]
      exact ⟨n, l ++ [o], ⟨hg, by have := hal.1; omega, hsl2, hl2⟩, by omega, ny + 1, Env.le_of (by simp), ny + 1 + 1, Mem.le_of rfl (by simp)⟩
  · have hil : i = l.length := by have := ltI_f.1 h; omega
    cases tk with
    | none =>
      have hSn : S = (ms, none) := by
        have : S = scanF root l libs (refNames (l.drop i)) ms := hall
        rw [this, hil]; simp [refNames, scanF]
      rw [hSn] at hg
      simp only at hg
      subst hg
      cases ms with
      | nil => simp [h, cr37, missAV, missMem, textsAV, decksAV]
      | cons m ms =>
        simp [h, cr37, missAV, missMem, textsAV, decksAV]
    | some o =>
      simp [h]
      have hSo : S = (ms, some o) := hall
      rw [hSo] at hg
      simp only at hg
      obtain ⟨nm, hfo⟩ := scan_found (hSd.trans hSo)
      have hal := away_less hfo
      have hc2 : (l.length + 1) * 104 ≤ 140737488355328 ∧ l.length + 1 ≤ 9223372036854775807 := ⟨by omega, by omega⟩
      have hos : o.Small := by
        obtain ⟨x, hx, ho⟩ := List.mem_flatten.1 hal.2
        exact (hb.each x hx).each o ho
      have hsl2 : SmallL (l ++ [o]) := ⟨by have := hal.1; simp; omega, fun y hy => by
        rcases List.mem_append.1 hy with hy | hy
        · exact hsl.each y hy
        · rw [List.mem_singleton.1 hy]; exact hos⟩
      have hl2 : (l ++ [o]).length + away libs (l ++ [o]) ≤ l0.length + libs.flatten.length := by have := hal.1; simp; omega
      simp [deckOr, deck_take, appendA, hc2, List.range_succ, List.take_of_length_le]
      exact ⟨n, l ++ [o], ⟨hg, by have := hal.1; omega, hsl2, hl2⟩, by omega, ny + 1, Env.le_of (by simp), ny + 1 + 1, Mem.le_of rfl (by simp)⟩
end Go.Pm

/- LkC15: contracts: texts in a list. -/
namespace Go.Pm
open Go Go.Proofs
attribute [-simp] List.getElem?_map

theorem call81 (d : DDef) (n : ByteArray) (q : Bool) : PCalls Try.prog 81 [.agg d.av, .iptr q [.str n]] fun out => out = .ret (.bool (eqS d.name n)) := by
  refine ok81.pcalls (by simp) ?_
  simp [c81, cr81, DDef.av]

theorem call99 (p : Bool) (l : List ByteArray) (n : ByteArray) (hl : l.length ≤ 4000000000000) : PCalls Try.prog 99 [.list p 1 (l.map fun s => [.str s]), .str n] fun out => out = .ret (.int .i64 (indexF (fun s => eqS n s) l 0)) := by
  refine ok99.pcalls (by simp) ?_
  simp [c99]
  refine wpS_loop (ι := Nat) (fun i => [(0, .list p 1 (l.map fun s => [.str s])), (1, .str n), (7, .int .i64 l.length), (8, .int .i64 i)]) (fun _ => ⟨[], 0⟩) (fun i => l.length - i)
    (fun i => i ≤ l.length ∧ indexF (fun s => eqS n s) l 0 = indexF (fun s => eqS n s) (l.drop i) i) 0 (by simp) (Env.le_of (by simp)) rfl ?_
  intro i ⟨hi, hall⟩
  have hw : IntKind.i64.wrap (i + 1) = i + 1 := wrap64 (by omega) (by omega)
  simp
  refine br_cond rfl (fun h => ?_) (fun h => ?_)
  · have hlt : i < l.length := by have := ltI_t.1 h; omega
    simp [h, idxM]
    refine br_cond rfl (fun h1 => ?_) (fun h1 => ?_)
    · have : indexF (fun s => eqS n s) (l.drop i) i = i := by
        rw [List.drop_eq_getElem_cons hlt]
        have e : l[i] = ix l i := by simp [ix, List.getD, hlt]
        rw [e, indexF, if_pos h1]
      simp [cr99, hall, this]
    · simp [hw]
      exact ⟨i + 1, ⟨by omega, by rw [hall]; exact indexF_shift hlt h1⟩, by omega, Env.le_of (by simp), Mem.le_of rfl (by simp)⟩
  · have hid : i = l.length := by have := ltI_f.1 h; omega
    subst hid
    simp [h, cr99, hall, indexF]

theorem call80 (p : Bool) (l : List ByteArray) (n : ByteArray) (hl : l.length ≤ 4000000000000) : PCalls Try.prog 80 [.list p 1 (l.map fun s => [.str s]), .str n] fun out => out = .ret (.bool (l.any fun s => eqS n s)) := by
  refine ok80.pcalls (by simp) ?_
  simp [c80, -List.any_eq_true]
  refine xcall_p (call99 p l n hl) (by simp) ?_
  rw [← index_any l 0]
  simp [cr80]
end Go.Pm

/- LkC18: contracts: which names are lacking; which object of a library is taken. -/
namespace Go.Pm
open Go Go.Proofs
attribute [-simp] List.getElem?_map

/-- The names that are lacking, each once. -/
def lackL (nm : List DDef) : List ByteArray → List ByteArray → List ByteArray
  | [], ms => ms
  | n :: ns, ms => if (outerF nm n).isSome then lackL nm ns ms else if ms.any (fun s => eqS n s) then lackL nm ns ms else lackL nm ns (ms ++ [n])
def textsR (ms : List ByteArray) : List (List AV) := ms.map fun s => [.str s]

set_option maxHeartbeats 4000000 in
theorem call55 (pre : List (Nat × AObj)) (base : Int) (G : LG) (s : LSt) (nx : Nat) (hs : s.Small) :
    ACalls Try.prog 55 [.ptr (pre.length + 2) (G.a + 2) 0] ⟨pre ++ lkObjs pre.length base G s, nx⟩ fun out m => ∃ g nx', out = .ret (.row (pre.length + 7) g 1 0 (lackL s.nmap (refNames s.objs) []).length) ∧
      m = ⟨pre ++ (lkObjs pre.length base G s ++ [(g, .row 9 1 (textsR (lackL s.nmap (refNames s.objs) [])))]), nx'⟩ := by
  refine ACalls.forget ?_
  refine ok55.acalls (by simp) ?_
  have sl := hs.objs
  have hmx := refs_max (l := s.objs) ⟨sl, fun o ho => (hs.fit o ho).small⟩
  generalize hM : lackL s.nmap (refNames s.objs) [] = M
  simp [c55, lkObjs, lkCells]
  refine wpS_loopS (ι := (Nat × List ByteArray) × (Nat × Nat)) (fun q => [(0, .ptr (pre.length + 2) (G.a + 2) 0), (3, .row (pre.length + 7) q.2.1 1 0 q.1.2.length), (13, .row (pre.length + 3) G.o 5 0 s.objs.length), (14, .int .i64 s.objs.length), (15, .int .i64 q.1.1)])
    (fun q => ⟨pre ++ (lkObjs pre.length base G s ++ [(q.2.1, .row 9 1 (textsR q.1.2))]), q.2.2⟩) (fun q => s.objs.length - q.1.1)
    (fun q => q.1.1 ≤ s.objs.length ∧ M = lackL s.nmap (refNames (s.objs.drop q.1.1)) q.1.2 ∧ q.1.2.length + (refNames (s.objs.drop q.1.1)).length ≤ (refNames s.objs).length) ((0, []), (nx, nx + 1)) ⟨Nat.zero_le _, hM.symm, by simp⟩
    (Sim.after (Sim.nil_env 3 9 (sz := 1) (by omega) (by simp)) (Sim.of_le (Env.le_of (by simp)) (Mem.le_of rfl (by simp [lkObjs, lkCells, textsR])))) ?_
  intro ⟨⟨i, ms⟩, ⟨g, ny⟩⟩ ⟨hi, hall, hml⟩
  simp only at hi hall hml
  have hw : IntKind.i64.wrap (i + 1) = i + 1 := wrap64 (by omega) (by omega)
  simp
  refine br_cond rfl (fun h => ?_) (fun h => ?_)
  · have hlt : i < s.objs.length := by have := ltI_t.1 h; omega
    have hos := (hs.fit _ (ix_mem hlt)).small
    have hrl := hos.refs
    have hrn : refNames (s.objs.drop i) = (ix s.objs i).refs.map (·.name) ++ refNames (s.objs.drop (i + 1)) := by rw [drop_ix hlt]; rfl
    rw [hrn] at hall
    rw [hrn, List.length_append, List.length_map] at hml
    simp [h, idxM, lkObjs, lkCells, deck_take]
    generalize hoi : ix s.objs i = o at *
    simp [Deck.av]
    refine wpS_loopS (ι := (Nat × List ByteArray) × (Nat × Nat)) (fun q => [(0, .ptr (pre.length + 2) (G.a + 2) 0), (3, .row (pre.length + 7) q.2.1 1 0 q.1.2.length), (13, .row (pre.length + 3) G.o 5 0 s.objs.length), (14, .int .i64 s.objs.length), (15, .int .i64 i), (20, .list true 3 (o.refs.map DRef.av)), (21, .int .i64 o.refs.length), (22, .int .i64 q.1.1)])
      (fun q => ⟨pre ++ (lkObjs pre.length base G s ++ [(q.2.1, .row 9 1 (textsR q.1.2))]), q.2.2⟩) (fun q => o.refs.length - q.1.1)
      (fun q => q.1.1 ≤ o.refs.length ∧ M = lackL s.nmap ((o.refs.drop q.1.1).map (·.name) ++ refNames (s.objs.drop (i + 1))) q.1.2 ∧ q.1.2.length + ((o.refs.length - q.1.1) + (refNames (s.objs.drop (i + 1))).length) ≤ (refNames s.objs).length) ((0, ms), (g, ny + 1)) ⟨Nat.zero_le _, hall, by simp only [Nat.sub_zero]; exact hml⟩
      (Sim.of_le (Env.le_of (by simp)) (Mem.le_of rfl (by simp [lkObjs, lkCells]))) ?_
    clear hall hml
    intro ⟨⟨k, ms⟩, ⟨g, ny⟩⟩ ⟨hk, hka, hml⟩
    simp only at hk hka hml
    have hwk : IntKind.i64.wrap (k + 1) = k + 1 := wrap64 (by omega) (by omega)
    have b1 : (ms.length + 1) * 16 ≤ 140737488355328 ∧ ms.length + 1 ≤ 9223372036854775807 := ⟨by omega, by omega⟩
    simp
    refine br_cond rfl (fun h2 => ?_) (fun h2 => ?_)
    · have hlk : k < o.refs.length := by have := ltI_t.1 h2; omega
      rw [drop_ix hlk, List.map_cons, List.cons_append, lackL] at hka
      generalize hri : ix o.refs k = r at *
      cases hz : outerF s.nmap r.name with
      | some v =>
        rw [hz] at hka
        simp [h2, idxM, hri, DRef.av, lkObjs, lkCells, hz, hwk]
        exact ⟨k + 1, ms, ⟨by omega, by rw [← List.map_drop]; exact hka, by omega⟩, by omega, g, ny + 1, Sim.of_le (Env.le_of (by simp)) (Mem.le_of rfl (by simp [lkObjs, lkCells]))⟩
      | none =>
        rw [hz] at hka
        simp only [Option.isSome_none, Bool.false_eq_true, if_false] at hka
        simp [h2, idxM, hri, DRef.av, lkObjs, lkCells, hz, hwk]
        refine xcall_p (call80 false ms r.name (by omega)) (by simp [textsR]) ?_
        cases hc : ms.any (fun s => eqS r.name s) with
        | true =>
          rw [hc, if_pos rfl] at hka
          simp [hwk]
          exact ⟨k + 1, ms, ⟨by omega, by rw [← List.map_drop]; exact hka, by omega⟩, by omega, g, ny + 1, Sim.of_le (Env.le_of (by simp)) (Mem.le_of rfl (by simp [lkObjs, lkCells]))⟩
        | false =>
          rw [hc, if_neg (by simp)] at hka
          simp [hwk, appendA, b1, List.range_succ, textsR]
          exact ⟨k + 1, ms ++ [r.name], ⟨by omega, by rw [← List.map_drop]; exact hka, by simp; omega⟩, by omega, ny + 1 + 1, ny + 1 + 1 + 1, Sim.of_le (Env.le_of (by simp)) (Mem.le_of rfl (by simp [lkObjs, lkCells, textsR]))⟩
    · have hkl : k = o.refs.length := by have := ltI_f.1 h2; omega
      rw [hkl, List.drop_length, List.map_nil, List.nil_append] at hka
      simp [h2, hw]
      exact ⟨i + 1, ms, ⟨by omega, hka, by omega⟩, by omega, g, ny, Sim.of_le (Env.le_of (by simp)) (Mem.le_of rfl (by simp [lkObjs, lkCells]))⟩
  · have hil : i = s.objs.length := by have := ltI_f.1 h; omega
    rw [hil, List.drop_length] at hall
    have hM2 : M = ms := hall
    subst hM2
    simp [h, cr55]
    exact ⟨_, Mem.le_refl _, _, rfl⟩

def takesL (own : List ByteArray) (name : ByteArray) (o : Deck) : Bool := !hasS own o.name && (linkDefs o).any fun d => eqS d.name name
def findIn (own : List ByteArray) (name : ByteArray) (l : List Deck) : Option Deck := l.find? (takesL own name)
def foundL (own : List ByteArray) (libs : List (List Deck)) (name : ByteArray) : Option Deck := findIn own name libs.flatten
theorem findIn_cons {own : List ByteArray} {name : ByteArray} {o : Deck} {l : List Deck} : findIn own name (o :: l) = if (!hasS own o.name && (linkDefs o).any fun d => eqS d.name name) = true then some o else findIn own name l := by
  unfold findIn
  rw [List.find?_cons]
  show (match takesL own name o with | true => _ | false => _) = _
  unfold takesL
  cases (!hasS own o.name && (linkDefs o).any fun d => eqS d.name name) <;> rfl

theorem norefL_deckOr (o : Option Deck) : norefL (deckOr o) = true := by
  cases o with
  | none => simp [deckOr]
  | some o => exact norefL_deck o
@[simp] theorem deckOr_len (o : Option Deck) : (deckOr o).length = 5 := by cases o <;> simp [deckOr]

set_option maxHeartbeats 4000000 in
theorem call56 (pre : List (Nat × AObj)) (base : Int) (G : LG) (s : LSt) (x : Nat × AObj) (nx : Nat) (q : Bool) (name : ByteArray) (libs : List (List Deck)) (hb : SmallLL libs) :
    ACalls Try.prog 56 [.ptr (pre.length + 2) (G.a + 2) 0, .str name, .list q 1 (libs.map libAV)] ⟨pre ++ (lkObjs pre.length base G s ++ [x]), nx⟩ fun out m => ∃ nx', out = .ret (.tuple [.agg (deckOr (foundL s.own libs name)), .bool (foundL s.own libs name).isSome]) ∧
      m = ⟨pre ++ (lkObjs pre.length base G s ++ [x]), nx'⟩ := by
  refine ACalls.forget ?_
  refine ok56.acalls (by simp) ?_
  have hbl := hb.len
  generalize hF : foundL s.own libs name = F
  have hF' : F = findIn s.own name libs.flatten := hF.symm
  have hle : ∀ (post : List (Nat × AObj)) k, Mem.le ⟨pre ++ (lkObjs pre.length base G s ++ [x]), k⟩ ⟨pre ++ (lkObjs pre.length base G s ++ x :: post), k⟩ := fun post k => Mem.le_of rfl (by simp [lkObjs])
  simp [c56, lkObjs, lkCells]
  refine wpS_loopS (ι := Nat × Nat) (fun u => [(0, .ptr (pre.length + 2) (G.a + 2) 0), (4, .ptr (pre.length + 8) nx 0), (6, .ptr (pre.length + 9) (nx + 1) 0), (12, .list q 1 (libs.map libAV)), (13, .int .i64 libs.length), (14, .int .i64 u.1)])
    (fun u => ⟨pre ++ (lkObjs pre.length base G s ++ [x, (nx, .cells [.str name]), (nx + 1, .cells deck0)]), u.2⟩) (fun u => libs.length - u.1) (fun u => u.1 ≤ libs.length ∧ F = findIn s.own name (libs.drop u.1).flatten) (0, nx + 1 + 1) ⟨Nat.zero_le _, hF'⟩
    (Sim.of_le (Env.le_of (by simp)) (Mem.le_of rfl (by simp [lkObjs, lkCells, deck0]))) ?_
  intro ⟨i, ny⟩ ⟨hi, hall⟩
  simp only at hi hall
  have hw : IntKind.i64.wrap (i + 1) = i + 1 := wrap64 (by omega) (by omega)
  simp
  refine br_cond rfl (fun h => ?_) (fun h => ?_)
  · have hlt : i < libs.length := by have := ltI_t.1 h; omega
    rw [drop_ix hlt, List.flatten_cons] at hall
    have hsl := hb.each _ (ix_mem hlt)
    generalize hxi : ix libs i = ds at *
    have dl := hsl.len
    simp [h, idxM, hxi, libAV, decksAV]
    refine wpS_loopS (ι := Nat × Nat) (fun u => [(0, .ptr (pre.length + 2) (G.a + 2) 0), (4, .ptr (pre.length + 8) nx 0), (6, .ptr (pre.length + 9) (nx + 1) 0), (12, .list q 1 (libs.map libAV)), (13, .int .i64 libs.length), (14, .int .i64 i), (18, .list true 5 (ds.map Deck.av)), (19, .int .i64 ds.length), (20, .int .i64 u.1)])
      (fun u => ⟨pre ++ (lkObjs pre.length base G s ++ [x, (nx, .cells [.str name]), (nx + 1, .cells deck0)]), u.2⟩) (fun u => ds.length - u.1) (fun u => u.1 ≤ ds.length ∧ F = findIn s.own name (ds.drop u.1 ++ (libs.drop (i + 1)).flatten)) (0, ny) ⟨Nat.zero_le _, hall⟩
      (Sim.of_le (Env.le_of (by simp)) (Mem.le_of rfl (by simp))) ?_
    clear hall
    intro ⟨k, ny⟩ ⟨hk, hka⟩
    simp only at hk hka
    have hwk : IntKind.i64.wrap (k + 1) = k + 1 := wrap64 (by omega) (by omega)
    simp
    refine br_cond rfl (fun h2 => ?_) (fun h2 => ?_)
    · have hlk : k < ds.length := by have := ltI_t.1 h2; omega
      have hos := hsl.each _ (ix_mem hlk)
      rw [drop_ix hlk, List.cons_append, findIn_cons] at hka
      generalize hoi : ix ds k = o at *
      cases hy : hasS s.own o.name with
      | true =>
        rw [hy] at hka
        rw [if_neg (by simp)] at hka
        simp [h2, idxM, hoi, lkObjs, lkCells, deck0, Deck.av, hy, hwk]
        exact ⟨k + 1, ⟨by omega, hka⟩, by omega, ny + 1, Sim.of_le (Env.le_of (by simp)) (Mem.le_of rfl (by simp [lkObjs, lkCells, deck0]))⟩
      | false =>
        rw [hy, Bool.not_false, Bool.true_and] at hka
        simp [h2, idxM, hoi, lkObjs, lkCells, deck0, Deck.av, hy, hwk]
        refine xdcall_p rfl (call54 o hos) (by simp [Deck.av]) ?_
        simp
        have hdl := linkDefs_len o
        have hod := hos.defs
        refine xdcall_p rfl (call78 true (linkDefs o) 81 [.iptr false [.str name]] (fun d => eqS d.name name) (by omega) (by simp) (by simp) (fun d => call81 d name false)) (by simp) ?_
        rw [index_any]
        cases ha : (linkDefs o).any (fun d => eqS d.name name) with
        | true =>
          rw [ha, if_pos rfl] at hka
          subst hka
          simp [cr56, deckOr, Deck.av]
          exact ⟨_, hle _ _, _, rfl⟩
        | false =>
          rw [ha, if_neg (by simp)] at hka
          simp [hwk]
          exact ⟨k + 1, ⟨by omega, hka⟩, by omega, ny + 1, Sim.of_le (Env.le_of (by simp)) (Mem.le_of rfl (by simp [lkObjs, lkCells, deck0]))⟩
    · have hkl : k = ds.length := by have := ltI_f.1 h2; omega
      rw [hkl, List.drop_length, List.nil_append] at hka
      simp [h2, hw]
      exact ⟨i + 1, ⟨by omega, hka⟩, by omega, ny, Sim.of_le (Env.le_of (by simp)) (Mem.le_of rfl (by simp))⟩
  · have hil : i = libs.length := by have := ltI_f.1 h; omega
    rw [hil, List.drop_length] at hall
    have hF2 : F = none := hall
    subst hF2
    simp [h, lkObjs, deck0, cr56]
    exact ⟨_, hle _ _, rfl, _, rfl⟩
end Go.Pm

/- LkC19: contracts: what is needed of libraries is put behind the others. -/
namespace Go.Pm
open Go Go.Proofs
attribute [-simp] List.getElem?_map

theorem ACalls.of_le {P : Program} {f : FuncId} {xs : List AV} {m1 m : Mem} {R : AOut → Mem → Prop} (hle : Mem.le m1 m) (h : ACalls P f xs m1 R) : ACalls P f xs m R := by
  refine ⟨h.1, fun β K σ w vals hrel hv => h.2 β K σ w vals ?_ hv⟩
  obtain ⟨h1, n, h2⟩ := hle
  have : m1 = ⟨m.store.take n, m.next⟩ := by cases m1; simp only at h1 h2; rw [h1, h2]
  rw [this]
  exact hrel.forget n

theorem xcall_r {P : Program} {imp : List FuncId} {Q : Post} {e : Env} {m : Mem} {fs : List Fr} {l : List SOp} {d : List Nat} {dst : Option Nat} {f : FuncId} {xs : List AV} {R : AOut → Mem → Prop} (h : ACalls P f xs m R)
    (hr : ∀ v m', R (.ret v) m' → xops P imp l d fs Q (e.put dst v) m') (hp : ∀ v m', R (.panic v) m' → lv P imp (.panic v) fs Q e m') : xcall P imp f xs dst l d fs Q e m := by
  refine ⟨R, h, fun out m' hR => ?_⟩
  cases out with
  | ret v => exact (hr v m' hR).out
  | panic v => exact (hp v m' hR).out

/-- The first name for which there is an object. -/
def firstL (own : List ByteArray) (libs : List (List Deck)) : List ByteArray → Option Deck
  | [] => none
  | n :: ns => match foundL own libs n with
    | some o => some o
    | none => firstL own libs ns
def awayL (libs : List (List Deck)) (own : List ByteArray) : Nat := (libs.flatten.filter fun o => !hasS own o.name).length
def neededL (libs : List (List Deck)) : Nat → LSt → LSt × List ByteArray
  | 0, s => (s, [])
  | n + 1, s => match firstL s.own libs (lackL s.nmap (refNames s.objs) []) with
    | none => (s, lackL s.nmap (refNames s.objs) [])
    | some o => neededL libs n (putNF s o)

theorem hasS_addS {l : List ByteArray} {s x : ByteArray} : hasS (addS l s) x = (hasS l x || eqS s x) := by
  unfold addS
  split
  · rename_i h
    cases hx : eqS s x with
    | false => simp
    | true => rw [← eqS_t.1 hx, h]; simp
  · simp [hasS]
theorem firstL_mem {own : List ByteArray} {libs : List (List Deck)} {o : Deck} : ∀ {ms : List ByteArray}, firstL own libs ms = some o → o ∈ libs.flatten ∧ hasS own o.name = false
  | [], h => by simp [firstL] at h
  | n :: ns, h => by
    unfold firstL at h
    split at h
    · rename_i o' ho
      injection h with h; subst h
      unfold foundL findIn at ho
      have hm := List.mem_of_find?_eq_some ho
      have ht := List.find?_some ho
      simp only [takesL, Bool.and_eq_true, Bool.not_eq_true'] at ht
      exact ⟨hm, ht.1⟩
    · exact firstL_mem h
theorem awayL_less {libs : List (List Deck)} {own : List ByteArray} {o : Deck} (hm : o ∈ libs.flatten) (h : hasS own o.name = false) : awayL libs (addS own o.name) < awayL libs own := by
  refine filter_lt (o := o) (fun x hx => ?_) (by rw [h]; rfl) (by rw [hasS_addS, eqS_t.2 rfl]; simp) hm
  rw [hasS_addS, Bool.not_or, Bool.and_eq_true] at hx
  exact hx.1

theorem lackL_len (nm : List DDef) : ∀ (ns ms : List ByteArray), (lackL nm ns ms).length ≤ ms.length + ns.length
  | [], ms => by simp [lackL]
  | n :: ns, ms => by
    rw [lackL]
    have h1 := lackL_len nm ns ms
    have h2 := lackL_len nm ns (ms ++ [n])
    simp only [List.length_append, List.length_cons, List.length_nil] at h1 h2 ⊢
    split
    · omega
    · split <;> omega

set_option maxHeartbeats 4000000 in
theorem call28 (pre : List (Nat × AObj)) (base : Int) (G0 : LG) (s0 : LSt) (nx0 : Nat) (q : Bool) (libs : List (List Deck)) (hb : SmallLL libs) (hfit : ∀ o ∈ libs.flatten, o.Fit) (hs0 : s0.Small) (hsum : s0.objs.length + libs.flatten.length ≤ 2000000) :
    ACalls Try.prog 28 [.ptr (pre.length + 2) (G0.a + 2) 0, .list q 1 (libs.map libAV)] ⟨pre ++ lkObjs pre.length base G0 s0, nx0⟩ fun out m => ∃ o' n' d' l' g nx', (neededL libs (libs.flatten.length + 1) s0).1.Small ∧
      out = .ret (.row (pre.length + 7) g 1 0 (neededL libs (libs.flatten.length + 1) s0).2.length) ∧
      m = ⟨pre ++ (lkObjs pre.length base ⟨G0.a, o', n', d', l'⟩ (neededL libs (libs.flatten.length + 1) s0).1 ++ [(g, .row 9 1 (textsR (neededL libs (libs.flatten.length + 1) s0).2))]), nx'⟩ := by
  refine ACalls.forget ?_
  refine ok28.acalls (by simp) ?_
  have haw : ∀ own, awayL libs own ≤ libs.flatten.length := fun own => List.length_filter_le _ _
  generalize hN : neededL libs (libs.flatten.length + 1) s0 = N
  simp [c28]
  refine wpS_loopS (ι := (Nat × LSt) × (LG × Nat)) (fun u => [(0, .ptr (pre.length + 2) (G0.a + 2) 0), (1, .list q 1 (libs.map libAV))]) (fun u => ⟨pre ++ lkObjs pre.length base u.2.1 u.1.2, u.2.2⟩) (fun u => u.1.1)
    (fun u => N = neededL libs u.1.1 u.1.2 ∧ awayL libs u.1.2.own < u.1.1 ∧ u.1.2.Small ∧ u.1.2.objs.length + awayL libs u.1.2.own ≤ 2000000 ∧ u.2.1.a = G0.a) ((libs.flatten.length + 1, s0), (G0, nx0))
    ⟨hN.symm, by have := haw s0.own; simp only; omega, hs0, by have := haw s0.own; simp only; omega, rfl⟩ (Sim.of_le (Env.le_of (by simp)) (Mem.le_of rfl (by simp))) ?_
  intro ⟨⟨n, s⟩, ⟨G, nx⟩⟩ ⟨hall, haw1, hs, hlen, hGa⟩
  simp only at hall haw1 hs hlen hGa
  obtain ⟨n, rfl⟩ : ∃ n', n = n' + 1 := ⟨n - 1, by omega⟩
  rw [neededL] at hall
  have c55 := call55 pre base G s nx hs
  rw [hGa] at c55
  generalize hM : lackL s.nmap (refNames s.objs) [] = M at *
  have hmlen : M.length ≤ 3000000000000 := by
    rw [← hM]
    have h1 := lackL_len s.nmap (refNames s.objs) []
    have h2 := refs_max (l := s.objs) ⟨hs.objs, fun o ho => (hs.fit o ho).small⟩
    simp only [List.length_nil, Nat.zero_add] at h1
    omega
  simp
  refine xcall_r c55 ?_ (by rintro v m' ⟨_, _, h, _⟩; cases h)
  rintro v m' ⟨g, ny, hv, rfl⟩
  injection hv with hv; subst hv
  simp
  refine wpS_loopS (ι := Nat × Nat) (fun u => [(0, .ptr (pre.length + 2) (G0.a + 2) 0), (1, .list q 1 (libs.map libAV)), (5, .row (pre.length + 7) g 1 0 M.length), (12, .row (pre.length + 7) g 1 0 M.length), (13, .int .i64 M.length), (14, .int .i64 u.1)])
    (fun u => ⟨pre ++ (lkObjs pre.length base G s ++ [(g, .row 9 1 (textsR M))]), u.2⟩) (fun u => M.length - u.1) (fun u => u.1 ≤ M.length ∧ firstL s.own libs M = firstL s.own libs (M.drop u.1)) (0, ny) ⟨Nat.zero_le _, rfl⟩
    (Sim.of_le (Env.le_of (by simp)) (Mem.le_of rfl (by simp))) ?_
  intro ⟨i, nz⟩ ⟨hi, hfi⟩
  simp only at hi hfi
  have hw : IntKind.i64.wrap (i + 1) = i + 1 := wrap64 (by omega) (by omega)
  simp
  refine br_cond rfl (fun h => ?_) (fun h => ?_)
  · have hlt : i < M.length := by have := ltI_t.1 h; omega
    rw [drop_ix hlt, firstL] at hfi
    have c56 := call56 pre base G s (g, .row 9 1 (textsR M)) nz q (ix M i) libs hb
    rw [hGa] at c56
    generalize hnm : ix M i = nm at *
    have hel : (textsR M)[i]? = some [.str nm] := by unfold textsR; rw [idxM h, hnm]
    have hob : (lkObjs pre.length base G s ++ [(g, AObj.row 9 1 (textsR M))])[7]? = some (g, .row 9 1 (textsR M)) := rfl
    simp [h, hob, hel]
    refine xcall_r c56 ?_ (by rintro v m' ⟨_, h, _⟩; cases h)
    rintro v m' ⟨nz', hv, rfl⟩
    injection hv with hv; subst hv
    cases hfo : foundL s.own libs nm with
    | none =>
      rw [hfo] at hfi
      simp only at hfi
      simp [deckOr, hw]
      exact ⟨i + 1, ⟨by omega, hfi⟩, by omega, nz' + 1, Sim.of_le (Env.le_of (by simp)) (Mem.le_of rfl (by simp [lkObjs]))⟩
    | some o =>
      rw [hfo] at hfi
      simp only at hfi
      obtain ⟨hmem, hown⟩ := firstL_mem hfi
      have hof := hfit o hmem
      rw [hfi] at hall
      simp only at hall
      have hless := awayL_less hmem hown
      have hob2 : (lkObjs pre.length base G s ++ [(g, AObj.row 9 1 (textsR M)), (nz', AObj.cells o.av)])[8]? = some (nz', .cells o.av) := rfl
      have hpf := putL_false s o
      have hsm := putL_small hs hof (by omega) hpf
      obtain ⟨e1, e2, _⟩ := putL_same hpf
      simp [deckOr, Deck.av]
      have c27 := call27 pre base G s o false (nz' + 1) hs hof
      rw [hGa] at c27
      refine xcall_r (R := put27 pre base G false s o) (ACalls.of_le (m1 := ⟨pre ++ lkObjs pre.length base G s, nz' + 1⟩) (Mem.le_of rfl (by simp [lkObjs])) (by exact c27)) ?_ (by intro v m' h; unfold put27 at h; rw [hpf] at h; obtain ⟨h, _⟩ := h; cases h)
      intro v m' hput
      unfold put27 at hput
      rw [hpf] at hput
      obtain ⟨_, o', n', d', l', nx', rfl⟩ := hput
      simp
      exact ⟨n, putNF s o, ⟨G.a, o', n', d', l'⟩, ⟨hall, by rw [e2]; omega, hsm, by rw [e1, e2, List.length_append]; simp only [List.length_singleton]; omega, hGa⟩, by omega, nx', Sim.of_le (Env.le_of (by simp)) (Mem.le_of rfl (by simp))⟩
  · have hil : i = M.length := by have := ltI_f.1 h; omega
    rw [hil, List.drop_length] at hfi
    have hf0 : firstL s.own libs M = none := hfi
    rw [hf0] at hall
    simp only at hall
    subst hall
    simp [h, cr28]
    refine ⟨_, Mem.le_refl _, hs, G.o, G.n, G.d, G.l, nz, ?_⟩
    rw [← hGa]
end Go.Pm

/- LkC20: contracts: the image, its code as bytes. -/
namespace Go.Pm
open Go Go.Proofs
attribute [-simp] List.getElem?_map

def rowB (b : List UInt8) : List (List AV) := b.map fun x => [.int .u8 x.toNat]
def splice (b : List UInt8) (at_ : Nat) (s : List UInt8) : List UInt8 := b.take at_ ++ s ++ b.drop (at_ + s.length)
def fourL (n : Int) : List UInt8 := [byteF n 24, byteF n 16, byteF n 8, byteF n 0]
def patchRefs (nm : List DDef) (at_ : Nat) : List DRef → List UInt8 → List UInt8
  | [], b => b
  | r :: rs, b => patchRefs nm at_ rs (splice b (at_ + r.at_.toNat) (fourL ((outerF nm r.name).getD 0 + r.plus)))
def placeObjs (nm : List DDef) (base : Int) : List (Deck × DDef) → List UInt8 → List UInt8
  | [], b => b
  | (o, d) :: l, b => placeObjs nm base l (patchRefs nm (d.at_ - base).toNat o.refs (splice b (d.at_ - base).toNat o.code.data.toList))
instance : Inhabited (Deck × DDef) := ⟨(default, default)⟩

theorem splice_len {b s : List UInt8} {n : Nat} (h : n + s.length ≤ b.length) : (splice b n s).length = b.length := by
  unfold splice; simp; omega
theorem patch_len {nm : List DDef} {a : Nat} : ∀ {rs : List DRef} {b : List UInt8}, (∀ r ∈ rs, a + r.at_.toNat + 4 ≤ b.length) → (patchRefs nm a rs b).length = b.length
  | [], b, _ => rfl
  | r :: rs, b, h => by
    rw [patchRefs]
    have h0 := h r (by simp)
    have hl : (splice b (a + r.at_.toNat) (fourL ((outerF nm r.name).getD 0 + r.plus))).length = b.length := splice_len (by simp [fourL]; omega)
    rw [patch_len (fun r' hr => by rw [hl]; exact h r' (by simp [hr])), hl]

/-- What a linker's state may be when its image is made. -/
structure LSt.Placed (s : LSt) (base : Int) : Prop where
  small : s.Small
  base0 : 0 ≤ base
  base1 : base ≤ s.end_
  places : ∀ i, i < s.objs.length → base ≤ (ix s.places i).at_ ∧ (ix s.places i).at_ + (ix s.objs i).code.size ≤ s.end_
  refs : ∀ o ∈ s.objs, ∀ r ∈ o.refs, 0 ≤ r.at_ ∧ r.at_ + 4 ≤ o.code.size ∧ -1000000000 ≤ r.plus ∧ r.plus ≤ 1000000000
  names : ∀ n v, outerF s.nmap n = some v → 0 ≤ v ∧ v ≤ 1000000000000
  distinct : (s.defs.map (·.name)).Nodup

def imageCode (s : LSt) (base : Int) : List UInt8 := placeObjs s.nmap base (s.objs.zip s.places) (List.replicate (s.end_ - base).toNat 0)

theorem byte_wrap (n : Int) : AV.int .u8 (IntKind.u8.wrap n) = AV.int .u8 ((UInt8.ofNat (IntKind.u8.wrap n).toNat).toNat : Nat) := by
  have h : IntKind.u8.wrap n = n % 256 := by simp [IntKind.wrap, IntKind.bits, IntKind.signed]
  rw [h]
  have h0 : 0 ≤ n % 256 := Int.emod_nonneg _ (by omega)
  have h1 : n % 256 < 256 := Int.emod_lt_of_pos _ (by omega)
  congr 1
  rw [UInt8.toNat_ofNat']
  omega
theorem u8_wrap (n : Int) : IntKind.u8.wrap n = n % 256 := by simp [IntKind.wrap, IntKind.bits, IntKind.signed]
theorem u32_wrap (n : Int) : IntKind.u32.wrap n = n % 4294967296 := by simp [IntKind.wrap, IntKind.bits, IntKind.signed]
theorem u32_24 (n : Int) : IntKind.u8.wrap ((IntKind.u32.wrap n).fdiv 16777216) = IntKind.u8.wrap (n.fdiv (2 ^ 24)) := by
  rw [u8_wrap, u8_wrap, u32_wrap, Int.fdiv_eq_ediv_of_nonneg _ (by omega), show (2 : Int) ^ 24 = 16777216 from rfl, Int.fdiv_eq_ediv_of_nonneg _ (by omega)]; omega
theorem u32_16 (n : Int) : IntKind.u8.wrap ((IntKind.u32.wrap n).fdiv 65536) = IntKind.u8.wrap (n.fdiv (2 ^ 16)) := by
  rw [u8_wrap, u8_wrap, u32_wrap, Int.fdiv_eq_ediv_of_nonneg _ (by omega), show (2 : Int) ^ 16 = 65536 from rfl, Int.fdiv_eq_ediv_of_nonneg _ (by omega)]; omega
theorem u32_8 (n : Int) : IntKind.u8.wrap ((IntKind.u32.wrap n).fdiv 256) = IntKind.u8.wrap (n.fdiv (2 ^ 8)) := by
  rw [u8_wrap, u8_wrap, u32_wrap, Int.fdiv_eq_ediv_of_nonneg _ (by omega), show (2 : Int) ^ 8 = 256 from rfl, Int.fdiv_eq_ediv_of_nonneg _ (by omega)]; omega
theorem u32_0 (n : Int) : IntKind.u8.wrap (IntKind.u32.wrap n) = IntKind.u8.wrap (n.fdiv (2 ^ 0)) := by
  rw [u8_wrap, u8_wrap, u32_wrap, show (2 : Int) ^ 0 = 1 from rfl, Int.fdiv_eq_ediv_of_nonneg _ (by omega)]; omega
theorem bytes_back (b : List UInt8) : (rowB b).mapM byteOf = some b := by
  induction b with
  | nil => rfl
  | cons x b ih =>
    unfold rowB at ih ⊢
    rw [List.map_cons, List.mapM_cons, ih]
    simp [byteOf]

@[simp] theorem rowB_len (b : List UInt8) : (rowB b).length = b.length := by simp [rowB]
theorem bytesOf_rowB (s : ByteArray) : bytesOf s = rowB s.data.toList := rfl
theorem rowB_splice {b s : List UInt8} {off n : Nat} (hs : s.length ≤ n) : (rowB b).take off ++ (rowB s).take (min s.length n) ++ (rowB b).drop (off + min s.length n) = rowB (splice b off s) := by
  rw [Nat.min_eq_left hs]
  unfold rowB splice
  rw [List.map_append, List.map_append, List.map_take, List.map_drop, List.take_of_length_le (l := s.map _) (by simp)]

theorem four_row (n : Int) : rowB (fourL n) = [[.int .u8 (IntKind.u8.wrap (n.fdiv (2 ^ 24)))], [.int .u8 (IntKind.u8.wrap (n.fdiv (2 ^ 16)))], [.int .u8 (IntKind.u8.wrap (n.fdiv (2 ^ 8)))], [.int .u8 (IntKind.u8.wrap (n.fdiv (2 ^ 0)))]] := by
  unfold rowB fourL byteF
  rw [byte_wrap, byte_wrap, byte_wrap, byte_wrap]
  rfl

def lkDone (L : Nat) (base : Int) (G : LG) (s : LSt) : List (Nat × AObj) :=
  [(G.a, .map (namesM s.nmap)), (G.a + 1, .map (setS s.own)),
   (G.a + 2, .cells [.int .i64 base, .str ⟨(imageCode s base).toArray⟩, .row (L + 5) G.d 2 0 s.defs.length, .row (L + 6) G.l 2 0 s.lines.length, .row (L + 4) G.n 2 0 s.places.length, .row (L + 3) G.o 5 0 s.objs.length, .map L G.a, .map (L + 1) (G.a + 1), .int .i64 s.end_]),
   (G.o, .row 51 5 (s.objs.map Deck.av)), (G.n, .row 40 2 (s.places.map DDef.av)), (G.d, .row 40 2 ((sortD s.defs).map DDef.av)), (G.l, .row 102 2 (s.lines.map DLine.av))]

set_option maxHeartbeats 4000000 in
theorem call29 (pre : List (Nat × AObj)) (base : Int) (G : LG) (s : LSt) (nx : Nat) (hp : s.Placed base) :
    ACalls Try.prog 29 [.ptr (pre.length + 2) (G.a + 2) 0] ⟨pre ++ lkObjs pre.length base G s, nx⟩ fun out m =>
      out = .ret (.agg [.int .i64 base, .str ⟨(imageCode s base).toArray⟩, .row (pre.length + 5) G.d 2 0 s.defs.length, .row (pre.length + 6) G.l 2 0 s.lines.length, .row (pre.length + 4) G.n 2 0 s.places.length]) ∧ ∃ nx', m = ⟨pre ++ lkDone pre.length base G s, nx'⟩ := by
  refine ACalls.forget ?_
  refine ok29.acalls (by simp) ?_
  have hs := hp.small
  have sl := hs.objs
  have s1 := hs.places
  have s2 : s.defs.length ≤ 3000000000000 := by have := hs.defs; omega
  have s4 := hp.base1
  have s0 := hp.base0
  have s5 : s.end_ ≤ 900000000000 := by have := hs.end1; omega
  have hsub : IntKind.i64.wrap (s.end_ - base) = s.end_ - base := wrap64 (by omega) (by omega)
  have hmk : 0 ≤ s.end_ - base ∧ (s.end_ - base).toNat ≤ 140737488355328 ∧ s.end_ - base ≤ 9223372036854775807 := ⟨by omega, by omega, by omega⟩
  generalize hC : imageCode s base = C
  simp [c29, lkObjs, lkCells, hsub, hmk, s4]
  generalize hT : (s.end_ - base).toNat = T at *
  have hTi : (T : Int) = s.end_ - base := by omega
  have hzl : (s.objs.zip s.places).length = s.objs.length := by rw [List.length_zip, s1, Nat.min_self]
  refine wpS_loopS (ι := (Nat × List UInt8) × Nat) (fun u => [(0, .ptr (pre.length + 2) (G.a + 2) 0), (2, .ptr (pre.length + 7) nx 0), (3, .row (pre.length + 8) (nx + 1) 1 0 T), (24, .row (pre.length + 3) G.o 5 0 s.objs.length), (25, .int .i64 s.objs.length), (26, .int .i64 u.1.1)])
    (fun u => ⟨pre ++ (lkObjs pre.length base G s ++ [(nx, .cells [.int .i64 0, .str ⟨#[]⟩, .nilS, .nilS, .nilS]), (nx + 1, .row 5 1 (rowB u.1.2))]), u.2⟩) (fun u => s.objs.length - u.1.1)
    (fun u => u.1.1 ≤ s.objs.length ∧ u.1.2.length = T ∧ C = placeObjs s.nmap base ((s.objs.zip s.places).drop u.1.1) u.1.2) ((0, List.replicate T 0), nx + 1 + 1) ⟨Nat.zero_le _, by simp, by rw [← hC, ← hT]; rfl⟩
    (Sim.of_le (Env.le_of (by simp)) (Mem.le_of rfl (by simp [lkObjs, lkCells, rowB]))) ?_
  intro ⟨⟨i, b⟩, ny⟩ ⟨hi, hbl, hall⟩
  simp only at hi hbl hall
  have hw : IntKind.i64.wrap (i + 1) = i + 1 := wrap64 (by omega) (by omega)
  simp
  refine br_cond rfl (fun h => ?_) (fun h => ?_)
  · have hlt : i < s.objs.length := by have := ltI_t.1 h; omega
    have h' : ltI ↑i ↑s.places.length = true := by rw [s1]; exact h
    have hpl := hp.places i hlt
    have hrf := hp.refs _ (ix_mem hlt)
    have hfit := hs.fit _ (ix_mem hlt)
    have hcd := hfit.code
    have hix : ix (s.objs.zip s.places) i = (ix s.objs i, ix s.places i) := by
      have h1 : i < s.places.length := by omega
      have hz : (s.objs.zip s.places)[i]? = some (s.objs[i], s.places[i]) := by rw [List.getElem?_eq_getElem (by omega)]; simp
      simp [ix, List.getD, hz, hlt, h1]
    rw [drop_ix (by omega), hix, placeObjs] at hall
    generalize hoi : ix s.objs i = o at *
    generalize hdi : ix s.places i = d at *
    have hwa : IntKind.i64.wrap (d.at_ - base) = d.at_ - base := wrap64 (by omega) (by omega)
    have hsz : o.code.data.toList.length = o.code.size := by simp
    simp [h, h', idxM, hoi, hdi, lkObjs, lkCells, DDef.av, Deck.av, hwa, sliceA, boundsA, srcOf]
    have hcond : base ≤ d.at_ ∧ d.at_ - base ≤ (T : Int) := ⟨by omega, by omega⟩
    obtain ⟨a, ha⟩ : ∃ a : Nat, a = (d.at_ - base).toNat := ⟨_, rfl⟩
    have hai : d.at_ - base = (a : Int) := by omega
    have haT : a + o.code.size ≤ T := by omega
    rw [← ha] at hall ⊢
    have hb2 : a + (T - a) ≤ b.length := by omega
    have hsp : (rowB b).take a ++ ((bytesOf o.code).take (min (bytesOf o.code).length (T - a)) ++ (rowB b).drop (a + min (bytesOf o.code).length (T - a))) = rowB (splice b a o.code.data.toList) := by
      have e := rowB_splice (b := b) (s := o.code.data.toList) (off := a) (n := T - a) (by rw [hsz]; omega)
      rw [bytesOf_rowB, rowB_len, ← e, List.append_assoc]
    have hspl : (splice b a o.code.data.toList).length = T := by rw [splice_len (by omega), hbl]
    simp [hcond, hb2, hsp, srcOf]
    rw [hai]
    clear hb2 hsp
    refine wpS_loopS (ι := (Nat × List UInt8) × Nat) (fun u => [(0, .ptr (pre.length + 2) (G.a + 2) 0), (2, .ptr (pre.length + 7) nx 0), (3, .row (pre.length + 8) (nx + 1) 1 0 T), (6, .int .i64 a), (24, .row (pre.length + 3) G.o 5 0 s.objs.length), (25, .int .i64 s.objs.length), (26, .int .i64 i), (53, .list true 3 (o.refs.map DRef.av)), (54, .int .i64 o.refs.length), (55, .int .i64 u.1.1)])
      (fun u => ⟨pre ++ (lkObjs pre.length base G s ++ [(nx, .cells [.int .i64 0, .str ⟨#[]⟩, .nilS, .nilS, .nilS]), (nx + 1, .row 5 1 (rowB u.1.2))]), u.2⟩) (fun u => o.refs.length - u.1.1)
      (fun u => u.1.1 ≤ o.refs.length ∧ u.1.2.length = T ∧ C = placeObjs s.nmap base ((s.objs.zip s.places).drop (i + 1)) (patchRefs s.nmap a (o.refs.drop u.1.1) u.1.2)) ((0, splice b a o.code.data.toList), ny + 1) ⟨Nat.zero_le _, hspl, hall⟩
      (Sim.of_le (Env.le_of (by simp)) (Mem.le_of rfl (by simp [lkObjs, lkCells, rowB]))) ?_
    clear hall hspl hbl
    intro ⟨⟨k, b⟩, nz⟩ ⟨hk, hbl, hka⟩
    simp only at hk hbl hka
    have hrl := hfit.small.refs
    have hwk : IntKind.i64.wrap (k + 1) = k + 1 := wrap64 (by omega) (by omega)
    simp
    refine br_cond rfl (fun h2 => ?_) (fun h2 => ?_)
    · have hlk : k < o.refs.length := by have := ltI_t.1 h2; omega
      obtain ⟨r1, r2, r3, r4⟩ := hrf _ (ix_mem hlk)
      rw [drop_ix hlk, patchRefs] at hka
      generalize hri : ix o.refs k = r at *
      obtain ⟨v, hv⟩ : ∃ v, v = (outerF s.nmap r.name).getD 0 := ⟨_, rfl⟩
      have hv2 : (Option.map (AV.int IntKind.i64) (outerF s.nmap r.name)).getD (AV.int IntKind.i64 0) = AV.int IntKind.i64 v := by
        rw [hv]; cases outerF s.nmap r.name <;> rfl
      have hvb : 0 ≤ v ∧ v ≤ 1000000000000 := by
        rw [hv]
        cases hz : outerF s.nmap r.name with
        | none => simp
        | some x => exact hp.names _ _ hz
      rw [← hv] at hka
      have hwv : IntKind.i64.wrap (v + r.plus) = v + r.plus := wrap64 (by omega) (by omega)
      have hwr : IntKind.i64.wrap (a + r.at_) = a + r.at_ := wrap64 (by omega) (by omega)
      obtain ⟨c, hc⟩ : ∃ c : Nat, c = a + r.at_.toNat := ⟨_, rfl⟩
      have hci : (a : Int) + r.at_ = c := by omega
      have hcT : c + 4 ≤ T := by omega
      have hwc : IntKind.i64.wrap (c : Int) = c := wrap64 (by omega) (by omega)
      have hcT2 : c ≤ T := by omega
      rw [← hc] at hka
      have hcond2 : 0 ≤ (c : Int) ∧ (c : Int) ≤ T := ⟨by omega, by omega⟩
      have hb2 : c + (T - c) ≤ b.length := by omega
      have hmin : min 4 (T - c) = 4 := by omega
      have hf4 := four_row (v + r.plus)
      have hsp : (rowB b).take c ++ (rowB (fourL (v + r.plus)) ++ (rowB b).drop (c + 4)) = rowB (splice b c (fourL (v + r.plus))) := by
        unfold rowB splice
        rw [List.map_append, List.map_append, List.map_take, List.map_drop, List.append_assoc]
        rfl
      have hspl : (splice b c (fourL (v + r.plus))).length = T := by rw [splice_len (by simp [fourL]; omega), hbl]
      rw [hf4] at hsp
      have hsp2 : (rowB b).take c ++ [AV.int .u8 (IntKind.u8.wrap ((v + r.plus).fdiv 16777216))] :: [AV.int .u8 (IntKind.u8.wrap ((v + r.plus).fdiv 65536))] :: [AV.int .u8 (IntKind.u8.wrap ((v + r.plus).fdiv 256))] :: [AV.int .u8 (IntKind.u8.wrap (v + r.plus))] :: (rowB b).drop (c + 4) = rowB (splice b c (fourL (v + r.plus))) := by
        rw [← hsp]
        have e : (v + r.plus).fdiv (2 ^ 0) = v + r.plus := by rw [show (2 : Int) ^ 0 = 1 from rfl, Int.fdiv_one]
        rw [e]
        rfl
      simp [h2, idxM, hri, lkObjs, lkCells, DRef.av, hv2, hwv, hwr, sliceA, boundsA, List.range_succ, IntKind.bits, u32_24, u32_16, u32_8, u32_0, hci, hwc, hcT2, srcOf, hb2, hmin, hbl, hwk]
      exact ⟨k + 1, splice b c (fourL (v + r.plus)), ⟨by omega, hspl, hka⟩, by omega, nz + 1 + 1, Sim.of_le (Env.le_of (by simp)) (Mem.le_of rfl (by simp [lkObjs, lkCells, hsp2]))⟩
    · have hkl : k = o.refs.length := by have := ltI_f.1 h2; omega
      rw [hkl, List.drop_length, patchRefs] at hka
      simp [h2, hw]
      exact ⟨i + 1, b, ⟨by omega, hbl, hka⟩, by omega, nz, Sim.of_le (Env.le_of (by simp)) (Mem.le_of rfl (by simp [lkObjs, lkCells]))⟩
  · have hil : i = s.objs.length := by have := ltI_f.1 h; omega
    rw [hil, List.drop_of_length_le (by omega), placeObjs] at hall
    subst hall
    have hbk := bytes_back C
    have htk : (rowB C).take T = rowB C := List.take_of_length_le (by simp; omega)
    simp [h, lkObjs, lkCells, hbl, htk, hbk]
    have hsd := hp.distinct
    have h57 := fun (m : Mem) (hm : m.obj (pre.length + 5) G.d = some (.row 40 2 (s.defs.map DDef.av))) => call57 m (pre.length + 5) G.d s.defs.length s.defs hm rfl hsd s2
    refine xcall_a (h57 _ (by simp)) ?_
    simp [cr29]
    exact ⟨⟨pre ++ lkDone pre.length base G s, ny⟩, Mem.le_of rfl (by simp [lkDone, hC]), _, rfl⟩
end Go.Pm

/- LkC21: what stays so while the linker puts objects together. -/
namespace Go.Pm
open Go Go.Proofs
attribute [-simp] List.getElem?_map

def RefsFit (o : Deck) : Prop := ∀ r ∈ o.refs, 0 ≤ r.at_ ∧ r.at_ + 4 ≤ o.code.size ∧ -1000000000 ≤ r.plus ∧ r.plus ≤ 1000000000

theorem ix_of_mem {α : Type} [Inhabited α] {l : List α} {x : α} (h : x ∈ l) : ∃ i, i < l.length ∧ ix l i = x := by
  obtain ⟨i, hi, he⟩ := List.getElem_of_mem h
  exact ⟨i, hi, by simp [ix, List.getD, hi, he]⟩
theorem withinF_t {n a b : Int} (h : withinF n a b = true) : a ≤ n ∧ n ≤ b := by
  unfold withinF at h
  rw [Bool.and_eq_true] at h
  exact ⟨leI_t.1 h.1, leI_t.1 h.2⟩
theorem deckOk_fit {o : Deck} (hs : o.Small) (h : deckOk o = true) : o.Fit ∧ RefsFit o := by
  unfold deckOk at h
  simp only [Bool.and_eq_true] at h
  obtain ⟨⟨⟨⟨⟨_, h1⟩, _⟩, h2⟩, h3⟩, h4⟩ := h
  have hc : o.code.size ≤ 20000 := by
    have : ltI 20000 o.code.size = false := by simpa using h1
    have := ltI_f.1 this; omega
  rw [List.all_eq_true] at h2 h3 h4
  refine ⟨⟨hs, hc, fun d hd => ?_, fun d hd => ?_⟩, fun r hr => ?_⟩
  · obtain ⟨i, hi, rfl⟩ := ix_of_mem hd
    have := h2 i (List.mem_range.2 hi)
    unfold defOk at this
    simp only [Bool.and_eq_true] at this
    have := withinF_t this.1.1.2
    omega
  · obtain ⟨i, hi, rfl⟩ := ix_of_mem hd
    have := h4 i (List.mem_range.2 hi)
    unfold lineOk at this
    simp only [Bool.and_eq_true] at this
    have := withinF_t this.1.1.1
    omega
  · obtain ⟨i, hi, rfl⟩ := ix_of_mem hr
    have := h3 i (List.mem_range.2 hi)
    unfold refOk at this
    simp only [Bool.and_eq_true] at this
    obtain ⟨⟨⟨⟨_, a⟩, _⟩, b⟩, _⟩ := this
    have a := withinF_t a
    have b := withinF_t b
    omega

/-- What stays so. -/
structure LSt.Good (s : LSt) (base : Int) : Prop where
  small : s.Small
  base0 : 0 ≤ base
  base1 : base ≤ s.end_
  same : s.nmap = s.defs
  ats : ∀ d ∈ s.defs, 0 ≤ d.at_ ∧ d.at_ ≤ s.end_ + 1048576
  places : ∀ i, i < s.objs.length → base ≤ (ix s.places i).at_ ∧ (ix s.places i).at_ + (ix s.objs i).code.size ≤ s.end_
  refs : ∀ o ∈ s.objs, RefsFit o
  distinct : (s.defs.map (·.name)).Nodup

theorem outerF_mem {l : List DDef} {n : ByteArray} {v : Int} (h : outerF l n = some v) : ∃ d ∈ l, d.name = n ∧ d.at_ = v := by
  unfold outerF at h
  simp only [Option.map_eq_some_iff] at h
  obtain ⟨d, h1, h2⟩ := h
  have h3 : eqS d.name n = true := List.find?_some (p := fun d : DDef => eqS d.name n) h1
  exact ⟨d, List.mem_of_find?_eq_some h1, eqS_t.1 h3, h2⟩
theorem outerF_none {l : List DDef} {n : ByteArray} (h : outerF l n = none) : n ∉ l.map (·.name) := by
  intro hm
  obtain ⟨d, hd, rfl⟩ := List.mem_map.1 hm
  unfold outerF at h
  simp only [Option.map_eq_none_iff, List.find?_eq_none] at h
  exact h d hd (eqS_t.2 rfl)

theorem LSt.Good.placed {s : LSt} {base : Int} (h : s.Good base) : s.Placed base := by
  have h1 := h.small.end1
  have h2 := h.small.objs
  refine ⟨h.small, h.base0, h.base1, h.places, fun o ho r hr => h.refs o ho r hr, fun n v hv => ?_, h.distinct⟩
  rw [h.same] at hv
  obtain ⟨d, hd, _, rfl⟩ := outerF_mem hv
  have := h.ats d hd
  omega

theorem LSt.good_start {base : Int} (h0 : 0 ≤ base) (h1 : base ≤ 65536) : (LSt.start base).Good base :=
  ⟨⟨by simp [LSt.start], by simp [LSt.start], rfl, by simp [LSt.start], by simp [LSt.start], h0, by simp [LSt.start]; exact h1⟩, h0, Int.le_refl _, rfl, by simp [LSt.start], by simp [LSt.start], by simp [LSt.start], by simp [LSt.start]⟩

theorem putNames_good {A : Int} {once : Bool} {E : Int} : ∀ (ds : List DDef) (s s' : LSt), putNames A once ds s = .ok s' → (∀ d ∈ ds, 0 ≤ A + d.at_ ∧ A + d.at_ ≤ E) → s.nmap = s.defs → (∀ d ∈ s.defs, 0 ≤ d.at_ ∧ d.at_ ≤ E) → (s.defs.map (·.name)).Nodup →
    s'.nmap = s'.defs ∧ (∀ d ∈ s'.defs, 0 ≤ d.at_ ∧ d.at_ ≤ E) ∧ (s'.defs.map (·.name)).Nodup
  | [], s, s', h, _, h1, h2, h3 => by simp only [putNames, Except.ok.injEq] at h; subst h; exact ⟨h1, h2, h3⟩
  | d :: ds, s, s', h, hd, h1, h2, h3 => by
    rw [putNames] at h
    split at h
    · split at h
      · cases h
      · exact putNames_good ds s s' h (fun d' hd' => hd d' (List.mem_cons_of_mem _ hd')) h1 h2 h3
    · rename_i hn
      have hn' : outerF s.nmap d.name = none := by cases hx : outerF s.nmap d.name with
        | none => rfl
        | some v => rw [hx] at hn; simp at hn
      refine putNames_good ds _ s' h (fun d' hd' => hd d' (List.mem_cons_of_mem _ hd')) (by simp only [h1]) ?_ ?_
      · intro d' hd'
        rcases List.mem_append.1 hd' with hd' | hd'
        · exact h2 d' hd'
        · rw [List.mem_singleton.1 hd']; exact hd d List.mem_cons_self
      · rw [h1] at hn'
        have hnm := outerF_none hn'
        simp only [List.map_append, List.map_cons, List.map_nil]
        rw [List.nodup_append]
        refine ⟨h3, by simp, fun a ha b hb => ?_⟩
        rw [List.mem_singleton.1 hb]
        intro e
        exact hnm (e ▸ ha)

theorem ix_append_left {α : Type} [Inhabited α] {l r : List α} {i : Nat} (h : i < l.length) : ix (l ++ r) i = ix l i := by
  unfold ix; simp [List.getD, h, List.getElem?_append_left]
theorem ix_append_len {α : Type} [Inhabited α] {l : List α} {x : α} : ix (l ++ [x]) l.length = x := by
  unfold ix; simp [List.getD]

theorem putL_good {once : Bool} {s s' : LSt} {o : Deck} {base : Int} (hs : s.Good base) (ho : o.Fit) (hr : RefsFit o) (hl : s.objs.length < 2000000) (h : putL once s o = .ok s') : s'.Good base := by
  have hsm := putL_small hs.small ho hl h
  obtain ⟨e1, e2, e3, e4, e5, _⟩ := putL_same h
  have hup : upF s.end_ = (s.end_ + 7) / 8 * 8 := rfl
  have hb1 := hs.base1
  have hpl := hs.small.places
  have hup1 : s.end_ ≤ upF s.end_ := by rw [hup]; omega
  have hnm : s'.nmap = s'.defs ∧ (∀ d ∈ s'.defs, 0 ≤ d.at_ ∧ d.at_ ≤ s'.end_ + 1048576) ∧ (s'.defs.map (·.name)).Nodup := by
    have hE : s'.end_ = upF s.end_ + o.code.size := e5
    unfold putL at h
    split at h
    · cases h
    · split at h
      · cases h
      · rename_i s1 h1
        injection h with h
        have hdf : ∀ d ∈ linkDefs o, 0 ≤ upF s.end_ + d.at_ ∧ upF s.end_ + d.at_ ≤ upF s.end_ + o.code.size + 1048576 := fun d hd => by
          have := linkDefs_fit ho d hd
          have := hs.base0
          omega
        have hold : ∀ d ∈ s.defs, 0 ≤ d.at_ ∧ d.at_ ≤ upF s.end_ + o.code.size + 1048576 := fun d hd => by
          have := hs.ats d hd
          omega
        obtain ⟨a, b, c⟩ := putNames_good (E := upF s.end_ + o.code.size + 1048576) _ _ _ h1 hdf hs.same hold hs.distinct
        subst h
        exact ⟨a, b, c⟩
  refine ⟨hsm, hs.base0, by rw [e5]; omega, hnm.1, hnm.2.1, fun i hi => ?_, fun x hx => ?_, hnm.2.2⟩
  · rw [e1, e3, e5]
    rw [e1, List.length_append, List.length_singleton] at hi
    by_cases hil : i < s.objs.length
    · rw [ix_append_left hil, ix_append_left (by omega)]
      have := hs.places i hil
      omega
    · have hie : i = s.objs.length := by omega
      rw [hie, ix_append_len, ← hpl, ix_append_len]
      simp only
      omega
  · rw [e1] at hx
    rcases List.mem_append.1 hx with hx | hx
    · exact hs.refs x hx
    · rw [List.mem_singleton.1 hx]; exact hr

theorem needed_good {libs : List (List Deck)} {base : Int} (hfit : ∀ o ∈ libs.flatten, o.Fit ∧ RefsFit o) : ∀ (n : Nat) (s : LSt), s.Good base → s.objs.length + awayL libs s.own ≤ 2000000 → (neededL libs n s).1.Good base
  | 0, s, h, _ => h
  | n + 1, s, h, hl => by
    rw [neededL]
    split
    · exact h
    · rename_i o ho
      obtain ⟨hm, hown⟩ := firstL_mem ho
      have hless := awayL_less hm hown
      have hpf := putL_false s o
      obtain ⟨e1, e2, _⟩ := putL_same hpf
      refine needed_good hfit n _ (putL_good h (hfit o hm).1 (hfit o hm).2 (by omega) hpf) ?_
      rw [e1, e2, List.length_append, List.length_singleton]
      omega

def putAll : LSt → List Deck → Except ByteArray LSt
  | s, [] => .ok s
  | s, o :: l => match putL true s o with
    | .error n => .error n
    | .ok s' => putAll s' l
end Go.Pm

/- LkC12: contracts: a number of four bytes. -/
namespace Go.Pm
open Go Go.Proofs
attribute [-simp] List.getElem?_map

/-- A number of four bytes, the highest first, as the law reads it. -/
def orF (a b : Int) : Int := IntKind.i64.wrap (BitVec.ofInt 64 a ||| BitVec.ofInt 64 b).toNat
def shF (s : ByteArray) (i k : Nat) : Int := IntKind.i64.wrap (((byteAt s i).toNat : Int) * 2 ^ k)
def numF (s : ByteArray) : Int := orF (orF (orF (shF s 0 24) (shF s 1 16)) (shF s 2 8)) (byteAt s 3).toNat

theorem shl_c (n : Int) (k : Nat) (hk : k < 64) : binA .shl (.int .i64 n) (.int .u64 k) = some (.int .i64 (IntKind.i64.wrap (n * 2 ^ k))) := by
  rw [binA_shl, if_neg (by omega), Int.toNat_natCast, Nat.min_eq_left (by show k ≤ 64; omega)]
theorem or_c (a b : Int) : binA .or (.int .i64 a) (.int .i64 b) = some (.int .i64 (orF a b)) := by rw [binA_or]; rfl
theorem wrap_byte (b : UInt8) : IntKind.i64.wrap (b.toNat : Int) = b.toNat := by
  have := b.toNat_lt
  exact wrap64 (by omega) (by omega)

theorem call16 (s : ByteArray) (hs : 4 ≤ s.size) : PCalls Try.prog 16 [.str s] fun out => out = .ret (.int .i64 (numF s)) := by
  refine ok16.pcalls (by simp) ?_
  have h0 : s[0]? = some (byteAt s 0) := idxS (ltN (by omega))
  have h1 : s[1]? = some (byteAt s 1) := idxS (ltN (by omega))
  have h2 : s[2]? = some (byteAt s 2) := idxS (ltN (by omega))
  have h3 : s[3]? = some (byteAt s 3) := idxS (ltN (by omega))
  have e1 := fun n : Int => shl_c n 24 (by omega)
  have e2 := fun n : Int => shl_c n 16 (by omega)
  have e3 := fun n : Int => shl_c n 8 (by omega)
  rw [show ((24 : Nat) : Int) = 24 from rfl] at e1
  rw [show ((16 : Nat) : Int) = 16 from rfl] at e2
  rw [show ((8 : Nat) : Int) = 8 from rfl] at e3
  have f1 : IntKind.i64.wrap (((byteAt s 0).toNat : Int) * 2 ^ 24) = shF s 0 24 := rfl
  have f2 : IntKind.i64.wrap (((byteAt s 1).toNat : Int) * 2 ^ 16) = shF s 1 16 := rfl
  have f3 : IntKind.i64.wrap (((byteAt s 2).toNat : Int) * 2 ^ 8) = shF s 2 8 := rfl
  unfold numF
  rw [← f1, ← f2, ← f3]
  generalize (2 : Int) ^ 24 = a at *
  generalize (2 : Int) ^ 16 = b at *
  generalize (2 : Int) ^ 8 = c at *
  simp [c16, cr16, -binA_shl, -binA_or, h0, h1, h2, h3, e1, e2, e3, or_c, wrap_byte]
end Go.Pm

/- LkC27: contracts: R34's image, put together. -/
namespace Go.Pm
open Go Go.Proofs
attribute [-simp] List.getElem?_map

/-- Whatever is the one is the other, too. -/
def Wk (x y : AV) : Prop := ∀ (σ : Sig) (K : Bool → Nat → Prop) (w : World) (u : Value), VR σ K w x u → VR σ K w y u
theorem Wk.nil {p : Bool} {sz : Nat} : Wk .nilS (.list p sz []) := by
  intro σ K w u h
  simp only [VR] at h ⊢
  exact ⟨none, 0, 0, 0, h, Nat.le_refl _, .inl trivial, by simp [LR]⟩

theorem Sim.weak_cell {e : Env} {m : Mem} {pos g : Nat} {vs : List AV} (i : Nat) {x y : AV} (hp : m.store[pos]? = some (g, .cells vs)) (hi : vs[i]? = some x) (hw : Wk x y) :
    Sim e (m.put pos g (.cells (vs.set i y))) e m := by
  intro β N a w σ K hst
  refine ⟨σ, List.prefix_refl _, ?_, hst.env, hst.defers, hst.size⟩
  obtain ⟨s, hs, ho⟩ := hst.rel.objs pos g _ hp
  refine hst.rel.put hp hs ⟨rfl, rfl, rfl, Nat.le_refl _, fun _ _ _ => rfl⟩ ?_
  obtain ⟨b, c⟩ := s
  cases b with
  | none => exact ho
  | some b =>
    obtain ⟨cur, e, hb, hl, hcr⟩ := ho
    refine ⟨cur, e, hb, by rw [List.length_set]; exact hl, CR_iff.2 fun j z hj => ?_⟩
    rw [List.getElem?_set] at hj
    split at hj
    · rename_i hij
      subst hij
      split at hj
      · injection hj with hj; subst hj
        obtain ⟨u, hu1, hu2, hu3⟩ := CR_iff.1 hcr i _ hi
        exact ⟨u, hu1, hu2, hw _ _ _ _ hu3⟩
      · cases hj
    · exact CR_iff.1 hcr j z hj

def zeros (n : Nat) : ByteArray := ⟨Array.replicate n 0⟩
def padF (c : ByteArray) : ByteArray := c ++ zeros ((8 - c.size % 8) % 8)
theorem padF_same {c : ByteArray} (h : c.size % 8 = 0) : padF c = c := by
  unfold padF; rw [h]; exact ByteArray.append_empty
theorem zeros_one (n : Nat) : (⟨#[0]⟩ : ByteArray) ++ zeros n = zeros (n + 1) := by
  apply ByteArray.ext
  rw [ByteArray.data_append]
  unfold zeros
  rw [Array.replicate_succ', ← Array.toList_inj]
theorem zeros_size (n : Nat) : (zeros n).size = n := by simp [zeros, ByteArray.size]
theorem padF_more {c : ByteArray} (h : c.size % 8 ≠ 0) : padF (c ++ ⟨#[0]⟩) = padF c := by
  have e : ∃ n, (8 - c.size % 8) % 8 = n + 1 ∧ (8 - (c.size + 1) % 8) % 8 = n := ⟨(8 - c.size % 8) % 8 - 1, by omega, by omega⟩
  obtain ⟨n, h1, h2⟩ := e
  have hs : (c ++ ⟨#[0]⟩ : ByteArray).size = c.size + 1 := by rw [ByteArray.size_append]; rfl
  unfold padF
  rw [hs, h1, h2, ByteArray.append_assoc, zeros_one]
theorem padF_size (c : ByteArray) : (padF c).size = (c.size + 7) / 8 * 8 := by
  unfold padF; rw [ByteArray.size_append]
  rw [zeros_size]; omega

/-- R34's image as far as it is put together. -/
structure RSt where
  starts : List Int
  code : ByteArray
  defs : List DDef
  lines : List DLine
  names : List DDef

def addDefs (at_ : Int) (ds : List DDef) (acc : List DDef) : List DDef := ds.foldl (fun a d => definedF a ⟨d.name, at_ + d.at_⟩) acc
def putR (base : Int) (s : RSt) (o : Deck) : RSt :=
  ⟨s.starts ++ [base + (padF s.code).size], padF s.code ++ o.code, addDefs (base + (padF s.code).size) (defsF o) s.defs, s.lines ++ o.lines.map (fun x => ⟨base + (padF s.code).size + x.at_, x.stmt⟩), s.names ++ [⟨o.name, base + (padF s.code).size⟩]⟩
def RSt.start : RSt := ⟨[], ⟨#[]⟩, [], [], []⟩
def putAllR (base : Int) (s : RSt) (l : List Deck) : RSt := l.foldl (putR base) s
def findR (root defs : List DDef) (n : ByteArray) : Int := (outerF root n).getD ((outerF defs n).getD 0)
def setFour (c : ByteArray) (p : Nat) (n : Int) : ByteArray := c.extract 0 p ++ fourF n ++ c.extract (p + 4) c.size
def patchR (root defs : List DDef) (off : Int) : List DRef → ByteArray → ByteArray
  | [], c => c
  | r :: rs, c => patchR root defs off rs (setFour c (off + r.at_).toNat (findR root defs r.name + r.plus))
def patchAllR (root defs : List DDef) (base : Int) : List (Deck × Int) → ByteArray → ByteArray
  | [], c => c
  | (o, a) :: l, c => patchAllR root defs base l (patchR root defs (a - base) o.refs c)
def imgR (base : Int) (root : List DDef) (l : List Deck) : Img :=
  ⟨base, patchAllR root (putAllR base .start l).defs base (l.zip (putAllR base .start l).starts) (putAllR base .start l).code, (putAllR base .start l).defs, (putAllR base .start l).lines, (putAllR base .start l).names⟩
instance : Inhabited (Deck × Int) := ⟨(default, default)⟩

theorem definedF_len (l : List DDef) (d : DDef) : (definedF l d).length ≤ l.length + 1 := by
  unfold definedF; split
  · omega
  · simp; omega
theorem addDefs_len (a : Int) : ∀ (ds acc : List DDef), (addDefs a ds acc).length ≤ acc.length + ds.length
  | [], acc => by simp [addDefs]
  | d :: ds, acc => by
    have ih := addDefs_len a ds (definedF acc ⟨d.name, a + d.at_⟩)
    have := definedF_len acc ⟨d.name, a + d.at_⟩
    simp only [addDefs, List.foldl_cons, List.length_cons] at ih ⊢
    omega
theorem defsF_fit {o : Deck} (h : o.Fit) : ∀ d ∈ defsF o, 0 ≤ d.at_ ∧ d.at_ ≤ 1048576 := by
  intro d hd
  unfold defsF at hd
  split at hd
  · exact h.defs d hd
  · rcases List.mem_append.1 hd with hd | hd
    · exact h.defs d hd
    · rw [List.mem_singleton] at hd; subst hd; exact ⟨Int.le_refl _, by simp⟩

structure RSt.Ok (base : Int) (l : List Deck) (s : RSt) (i : Nat) : Prop where
  starts : s.starts.length = i
  names : s.names.length = i
  code : s.code.size ≤ 20008 * i
  defs : s.defs.length ≤ 1048577 * i
  lines : s.lines.length ≤ 1048576 * i
  at_ : ∀ j, j < i → base ≤ ix s.starts j ∧ ix s.starts j - base + (ix l j).code.size ≤ s.code.size

theorem ix_append_lt {α : Type} [Inhabited α] {a b : List α} {j : Nat} (h : j < a.length) : ix (a ++ b) j = ix a j := by
  simp [ix, List.getD, h, List.getElem?_append_left]
theorem ix_append_at {α : Type} [Inhabited α] {a : List α} {x : α} {j : Nat} (h : j = a.length) : ix (a ++ [x]) j = x := by
  subst h; simp [ix, List.getD]

theorem putR_ok {base : Int} {l : List Deck} {s : RSt} {i : Nat} (h : s.Ok base l i) (hf : ∀ o ∈ l, o.Fit) (hi : i < l.length) : (putR base s (ix l i)).Ok base l (i + 1) := by
  have hfit := hf _ (ix_mem hi)
  have c1 := hfit.code
  have c2 := hfit.small.defs
  have c3 := hfit.small.lines
  have c4 := defsF_len (ix l i)
  have c5 := addDefs_len (base + (padF s.code).size) (defsF (ix l i)) s.defs
  have c6 := padF_size s.code
  obtain ⟨h1, h2, h3, h4, h5, h6⟩ := h
  refine ⟨by simp [putR, h1], by simp [putR, h2], ?_, ?_, ?_, fun j hj => ?_⟩
  · simp only [putR, ByteArray.size_append]; omega
  · simp only [putR]; omega
  · simp only [putR, List.length_append, List.length_map]; omega
  · simp only [putR, ByteArray.size_append]
    rcases Nat.lt_or_ge j i with h7 | h7
    · have := h6 j h7
      rw [ix_append_lt (by omega)]; omega
    · have hj : j = i := by omega
      subst hj
      rw [ix_append_at h1.symm]; omega

theorem fourF_wrap (n : Int) : fourF (IntKind.i64.wrap n) = fourF n := by
  have h : ∃ k : Int, IntKind.i64.wrap n = n + k * 18446744073709551616 := by
    simp [IntKind.wrap, IntKind.bits, IntKind.signed]
    split
    · exact ⟨-(n / 18446744073709551616) - 1, by omega⟩
    · exact ⟨-(n / 18446744073709551616), by omega⟩
  obtain ⟨k, h⟩ := h
  have e : ∀ (j : Nat) (q : Int), q = 2 ^ j → (q = 16777216 ∨ q = 65536 ∨ q = 256 ∨ q = 1) → IntKind.u8.wrap ((n + k * 18446744073709551616).fdiv (2 ^ j)) = IntKind.u8.wrap (n.fdiv (2 ^ j)) := by
    intro j q hq hc
    rw [← hq, u8_wrap, u8_wrap, Int.fdiv_eq_ediv_of_nonneg _ (by omega), Int.fdiv_eq_ediv_of_nonneg _ (by omega)]
    rcases hc with rfl | rfl | rfl | rfl <;> omega
  rw [h]
  unfold fourF byteF
  rw [e 24 _ rfl (by decide), e 16 _ rfl (by decide), e 8 _ rfl (by decide), e 0 _ rfl (by decide)]

def M38 (base : Int) (c : ByteArray) (df : List DDef) (ls : List DLine) (nm : List DDef) (st : List Int) (gs gn gl nx : Nat) : Mem :=
  ⟨[(0, .cells [.int .i64 0, .str ⟨#[]⟩, .nilS, .nilS, .nilS]), (1, .cells [.int .i64 base, .str c, .list true 2 (df.map DDef.av), .row 4 gl 2 0 ls.length, .row 3 gn 2 0 nm.length]),
    (gs, .row 3 1 (st.map fun x => [.int .i64 x])), (gn, .row 40 2 (nm.map DDef.av)), (gl, .row 102 2 (ls.map DLine.av))], nx⟩

theorem nil38 (base : Int) {e : Env} (he : e.get 8 = .nilS) : Sim (e.set 8 (.row 2 2 1 0 0)) (M38 base ⟨#[]⟩ [] [] [] [] 2 3 4 5) e ⟨[(0, .cells [.int .i64 0, .str ⟨#[]⟩, .nilS, .nilS, .nilS]), (1, .cells [.int .i64 base, .str ⟨#[]⟩, .nilS, .nilS, .nilS])], 2⟩ := by
  refine Sim.after (Sim.weak_cell (pos := 1) (g := 1) 2 (y := .list true 2 []) rfl rfl Wk.nil) ?_
  refine Sim.after (Sim.nil_env 8 3 (sz := 1) (by omega) he) ?_
  refine Sim.after (Sim.nil_cell (pos := 1) (g := 1) 4 40 (sz := 2) (by omega) rfl rfl) ?_
  exact Sim.nil_cell (pos := 1) (g := 1) (vs := [.int .i64 base, .str ⟨#[]⟩, .list true 2 [], .nilS, .row 3 3 2 0 0]) 3 102 (sz := 2) (by omega) rfl rfl

set_option maxHeartbeats 4000000 in
theorem call38 (p r : Bool) (l : List Deck) (base : Int) (root : List DDef) (hf : ∀ o ∈ l, o.Fit) (hr : ∀ o ∈ l, RefsFit o) (hl : l.length ≤ 2000000) (hrl : root.length ≤ 4000000000000) (hb0 : 0 ≤ base) (hb1 : base ≤ 65536) :
    PCalls Try.prog 38 [.list p 5 (l.map Deck.av), .int .i64 base, .list r 2 (root.map DDef.av)] fun out => out = .ret (.agg (imgR base root l).av) := by
  refine ok38.pcalls (by simp) ?_
  simp [c38]
  obtain ⟨F, hF⟩ : ∃ F : RSt, F = putAllR base .start l := ⟨_, rfl⟩
  refine wpS_loopS (ι := (Nat × RSt) × (Nat × Nat × Nat × Nat)) (fun g => [(0, .list p 5 (l.map Deck.av)), (1, .int .i64 base), (2, .list r 2 (root.map DDef.av)), (6, .ptr 0 0 0), (7, .ptr 1 1 0), (8, .row 2 g.2.1 1 0 g.1.2.starts.length), (9, .int .i64 g.1.1)])
    (fun g => M38 base g.1.2.code g.1.2.defs g.1.2.lines g.1.2.names g.1.2.starts g.2.1 g.2.2.1 g.2.2.2.1 g.2.2.2.2) (fun g => l.length - g.1.1)
    (fun g => g.1.1 ≤ l.length ∧ F = putAllR base g.1.2 (l.drop g.1.1) ∧ g.1.2.Ok base l g.1.1)
    ((0, .start), (2, 3, 4, 5)) ⟨Nat.zero_le _, by rw [hF]; rfl, ⟨rfl, rfl, by simp [RSt.start]; rfl, Nat.zero_le _, Nat.zero_le _, fun j hj => absurd hj (Nat.not_lt_zero _)⟩⟩ (Sim.after (nil38 base (by simp)) (Sim.of_le (Env.le_of (by simp [RSt.start])) (Mem.le_of rfl (by simp [M38, RSt.start])))) ?_
  intro ⟨⟨i, s⟩, ⟨gs, gn, gl, nx⟩⟩ ⟨hi, hall, hok⟩
  simp only at hi hall hok
  have hw : IntKind.i64.wrap (i + 1) = i + 1 := wrap64 (by omega) (by omega)
  simp [M38]
  refine br_cond rfl (fun h => ?_) (fun h => ?_)
  · have hlt : i < l.length := by have := ltI_t.1 h; omega
    have hfit := hf _ (ix_mem hlt)
    have c1 := hfit.code
    have c2 := hfit.small.defs
    have c3 := hfit.small.lines
    have c4 := defsF_len (ix l i)
    have c6 := padF_size s.code
    have hk2 := putR_ok hok hf hlt
    obtain ⟨hs1, hs2, hs3, hs4, hs5, hs6⟩ := hok
    rw [drop_ix hlt] at hall
    simp only [putAllR, List.foldl_cons] at hall
    generalize ho : ix l i = o at *
    simp [h]
    refine wpS_loop (ι := ByteArray) (fun _ => [(0, .list p 5 (l.map Deck.av)), (1, .int .i64 base), (2, .list r 2 (root.map DDef.av)), (6, .ptr 0 0 0), (7, .ptr 1 1 0), (8, .row 2 gs 1 0 s.starts.length), (9, .int .i64 i)])
      (fun c => M38 base c s.defs s.lines s.names s.starts gs gn gl nx) (fun c => (8 - c.size % 8) % 8) (fun c => padF c = padF s.code ∧ c.size ≤ s.code.size + 8 ) s.code ⟨rfl, by omega⟩ (Env.le_of (by simp)) (by simp [M38]) ?_
    intro c ⟨hc1, hc2⟩
    have hcb : c.size + 1 ≤ 9223372036854775807 := by omega
    simp [M38]
    refine br_cond rfl (fun h1 => ?_) (fun h1 => ?_)
    · simp at h1
      have h8 : c.size % 8 ≠ 0 := by
        have := eqI_f.1 h1
        intro h9
        exact this (by rw [Int.tmod_eq_emod_of_nonneg (by omega)]; omega)
      have h10 : s.code.size % 8 ≠ 0 → c.size ≤ s.code.size + 8 := fun _ => hc2
      have hsz : (c ++ ⟨#[0]⟩ : ByteArray).size = c.size + 1 := by rw [ByteArray.size_append]; rfl
      have hz1 : (⟨#[0]⟩ : ByteArray).size = 1 := rfl
      have hm := padF_more h8
      have hps := padF_size c
      rw [hc1, c6] at hps
      simp [h1, hz1, hcb]
      exact ⟨c ++ ⟨#[0]⟩, ⟨hm.trans hc1, by omega⟩, by omega, Env.le_of (by simp), Mem.le_of rfl (by simp)⟩
    · simp at h1
      have h8 : c.size % 8 = 0 := by
        have := eqI_t.1 h1
        rw [Int.tmod_eq_emod_of_nonneg (by omega)] at this; omega
      rw [padF_same h8] at hc1
      rw [← hc1] at c6
      simp only [putR, ← hc1] at hall hk2
      have hwa : IntKind.i64.wrap (base + c.size) = base + c.size := wrap64 (by omega) (by omega)
      have b1 : (s.starts.length + 1) * 8 ≤ 140737488355328 ∧ s.starts.length + 1 ≤ 9223372036854775807 := ⟨by omega, by omega⟩
      have b2 : (s.names.length + 1) * 24 ≤ 140737488355328 ∧ s.names.length + 1 ≤ 9223372036854775807 := ⟨by omega, by omega⟩
      have b3 : c.size + o.code.size ≤ 9223372036854775807 := by omega
      simp [h1, h, idxM, ho, Deck.av, hwa, appendA, b1, b2, b3, List.range_succ]
      refine xcall_p (call64 o hfit.small) (by simp [Deck.av]) ?_
      simp
      have d5 := defsF_fit hfit
      have dd : ∀ k, k < (defsF o).length → IntKind.i64.wrap (base + c.size + (ix (defsF o) k).at_) = base + c.size + (ix (defsF o) k).at_ := fun k hk => by
        have := d5 _ (ix_mem hk)
        exact wrap64 (by omega) (by omega)
      generalize hat : base + (c.size : Int) = at_ at *
      refine wpS_loopS (ι := (Nat × List DDef) × Nat) (fun u => [(0, .list p 5 (l.map Deck.av)), (1, .int .i64 base), (2, .list r 2 (root.map DDef.av)), (6, .ptr 0 0 0), (7, .ptr 1 1 0), (8, .row 2 (nx + 1) 1 0 (s.starts ++ [at_]).length), (9, .int .i64 i), (10, .int .i64 at_), (11, .list true 2 ((defsF o).map DDef.av)), (12, .int .i64 u.1.1)])
        (fun u => M38 base (c ++ o.code) u.1.2 s.lines (s.names ++ [⟨o.name, at_⟩]) (s.starts ++ [at_]) (nx + 1) (nx + 1 + 1 + 1) gl u.2) (fun u => (defsF o).length - u.1.1)
        (fun u => u.1.1 ≤ (defsF o).length ∧ addDefs at_ (defsF o) s.defs = addDefs at_ ((defsF o).drop u.1.1) u.1.2 ∧ u.1.2.length ≤ s.defs.length + u.1.1) ((0, s.defs), nx + 1 + 1 + 1 + 1) ⟨Nat.zero_le _, rfl, by simp⟩ (Sim.of_le (Env.le_of (by simp)) (Mem.le_of rfl (by simp [M38, DDef.av]))) ?_
      intro ⟨⟨k, df⟩, ny⟩ ⟨hk, hdf, hdl⟩
      simp only at hk hdf hdl
      have hwk : IntKind.i64.wrap (k + 1) = k + 1 := wrap64 (by omega) (by omega)
      simp [M38]
      refine br_cond rfl (fun h2 => ?_) (fun h2 => ?_)
      · have hlk : k < (defsF o).length := by have := ltI_t.1 h2; omega
        have hwd := dd k hlk
        rw [drop_ix hlk] at hdf
        replace hdf : addDefs at_ (defsF o) s.defs = addDefs at_ ((defsF o).drop (k + 1)) (definedF df ⟨(ix (defsF o) k).name, at_ + (ix (defsF o) k).at_⟩) := hdf
        generalize hd : ix (defsF o) k = d at *
        have hdl2 := definedF_len df ⟨d.name, at_ + d.at_⟩
        simp [h2, idxM, hd, DDef.av, hwd]
        refine xdcall_p rfl (call68 df ⟨d.name, at_ + d.at_⟩ (by omega)) (by simp [DDef.av]) ?_
        simp [hwk]
        exact ⟨k + 1, definedF df ⟨d.name, at_ + d.at_⟩, ⟨by omega, hdf, by omega⟩, by omega, ny, Sim.of_le (Env.le_of (by simp)) (Mem.le_of rfl (by simp [DDef.av]))⟩
      · have hkl : k = (defsF o).length := by have := ltI_f.1 h2; omega
        rw [hkl, List.drop_length] at hdf
        have hdf : addDefs at_ (defsF o) s.defs = df := hdf
        rw [hdf] at hall hk2
        have hfl := hfit.lines
        simp [h2, h, idxM, ho, Deck.av]
        refine wpS_loopS (ι := (Nat × List DLine) × (Nat × Nat)) (fun u => [(0, .list p 5 (l.map Deck.av)), (1, .int .i64 base), (2, .list r 2 (root.map DDef.av)), (6, .ptr 0 0 0), (7, .ptr 1 1 0), (8, .row 2 (nx + 1) 1 0 (s.starts ++ [at_]).length), (9, .int .i64 i), (10, .int .i64 at_), (13, .int .i64 u.1.1)])
          (fun u => M38 base (c ++ o.code) df u.1.2 (s.names ++ [⟨o.name, at_⟩]) (s.starts ++ [at_]) (nx + 1) (nx + 1 + 1 + 1) u.2.1 u.2.2) (fun u => o.lines.length - u.1.1)
          (fun u => u.1.1 ≤ o.lines.length ∧ u.1.2 = s.lines ++ (o.lines.take u.1.1).map (fun x => ⟨at_ + x.at_, x.stmt⟩)) ((0, s.lines), (gl, ny)) ⟨Nat.zero_le _, by simp⟩ (Sim.of_le (Env.le_of (by simp)) (Mem.le_of rfl (by simp [M38, DDef.av]))) ?_
        intro ⟨⟨k2, ls⟩, ⟨gl2, nz⟩⟩ ⟨hk3, hls⟩
        simp only at hk3 hls
        have hwk2 : IntKind.i64.wrap (k2 + 1) = k2 + 1 := wrap64 (by omega) (by omega)
        have hlen : ls.length = s.lines.length + k2 := by rw [hls]; simp; omega
        have b4 : (ls.length + 1) * 16 ≤ 140737488355328 ∧ ls.length + 1 ≤ 9223372036854775807 := ⟨by omega, by omega⟩
        simp [M38, h, idxM, ho, Deck.av]
        refine br_cond rfl (fun h3 => ?_) (fun h3 => ?_)
        · have hlk : k2 < o.lines.length := by have := ltI_t.1 h3; omega
          have hx := hfl _ (ix_mem hlk)
          have hwx : IntKind.i64.wrap (at_ + (ix o.lines k2).at_) = at_ + (ix o.lines k2).at_ := wrap64 (by omega) (by omega)
          have htk : o.lines.take (k2 + 1) = o.lines.take k2 ++ [ix o.lines k2] := by rw [List.take_add_one, idx h3]; rfl
          simp [h3, h, idxM, ho, Deck.av, DLine.av, hwx, hwk2, appendA, b4, List.range_succ]
          exact ⟨k2 + 1, ls ++ [⟨at_ + (ix o.lines k2).at_, (ix o.lines k2).stmt⟩], ⟨by omega, by rw [← List.map_take, htk, hls, List.map_append, List.append_assoc]; rfl⟩, by omega, nz + 1, nz + 1 + 1, Sim.of_le (Env.le_of (by simp)) (Mem.le_of rfl (by simp [DLine.av]))⟩
        · have hkl2 : k2 = o.lines.length := by have := ltI_f.1 h3; omega
          rw [hkl2, List.take_length] at hls
          rw [← hls] at hall hk2
          simp [h3, hw]
          replace hall : F = putAllR base (⟨s.starts ++ [at_], c ++ o.code, df, ls, s.names ++ [(⟨o.name, at_⟩ : DDef)]⟩ : RSt) (l.drop (i + 1)) := hall
          exact ⟨i + 1, (⟨s.starts ++ [at_], c ++ o.code, df, ls, s.names ++ [(⟨o.name, at_⟩ : DDef)]⟩ : RSt), ⟨by omega, hall, hk2⟩, by omega, nx + 1, nx + 1 + 1 + 1, gl2, nz, Sim.of_le (Env.le_of (by simp)) (Mem.le_of rfl (by simp [DDef.av]))⟩
  · have hil : i = l.length := by have := ltI_f.1 h; omega
    rw [hil, List.drop_length] at hall
    replace hall : s = F := hall.symm
    rw [hil] at hok
    rw [hall] at hok
    have hC : imgR base root l = ⟨base, patchAllR root F.defs base (l.zip F.starts) F.code, F.defs, F.lines, F.names⟩ := by rw [hF]; rfl
    obtain ⟨C, hCC⟩ : ∃ C, C = patchAllR root F.defs base (l.zip F.starts) F.code := ⟨_, rfl⟩
    rw [← hCC] at hC
    rw [hall]
    clear hall hF
    obtain ⟨hs1, hs2, hs3, hs4, hs5, hs6⟩ := hok
    obtain ⟨st, cd, df, ls, nm⟩ := F
    simp only at hs1 hs2 hs3 hs4 hs5 hs6 hCC hC
    simp [h]
    have hzl : (l.zip st).length = l.length := by rw [List.length_zip, hs1, Nat.min_self]
    refine wpS_loopS (ι := (Nat × ByteArray) × Nat) (fun u => [(0, .list p 5 (l.map Deck.av)), (1, .int .i64 base), (2, .list r 2 (root.map DDef.av)), (6, .ptr 0 0 0), (7, .ptr 1 1 0), (8, .row 2 gs 1 0 st.length), (14, .int .i64 u.1.1)])
      (fun u => M38 base u.1.2 df ls nm st gs gn gl u.2) (fun u => l.length - u.1.1)
      (fun u => u.1.1 ≤ l.length ∧ C = patchAllR root df base ((l.zip st).drop u.1.1) u.1.2 ∧ u.1.2.size = cd.size) ((0, cd), nx) ⟨Nat.zero_le _, hCC, rfl⟩ (Sim.of_le (Env.le_of (by simp)) (Mem.le_of rfl (by simp [M38]))) ?_
    intro ⟨⟨i2, c⟩, ny⟩ ⟨hi2, hpa, hcs⟩
    simp only at hi2 hpa hcs
    have hw2 : IntKind.i64.wrap (i2 + 1) = i2 + 1 := wrap64 (by omega) (by omega)
    simp [M38]
    refine br_cond rfl (fun h1 => ?_) (fun h1 => ?_)
    · have hlt : i2 < l.length := by have := ltI_t.1 h1; omega
      have h1' : ltI ↑i2 ↑st.length = true := by rw [hs1]; exact h1
      have hfit := hf _ (ix_mem hlt)
      have hrf := hr _ (ix_mem hlt)
      have hpos := hs6 i2 hlt
      have c1 := hfit.code
      have c2 := hfit.small.refs
      have hix : ix (l.zip st) i2 = (ix l i2, ix st i2) := by
        have h2 : i2 < st.length := by omega
        have hz : (l.zip st)[i2]? = some (l[i2], st[i2]) := by rw [List.getElem?_eq_getElem (by omega)]; simp
        simp [ix, List.getD, hz, hlt, h2]
      rw [drop_ix (by omega), hix, patchAllR] at hpa
      generalize ho : ix l i2 = o at *
      generalize ha : ix st i2 = a at *
      obtain ⟨c0, hc0⟩ : ∃ c0, c0 = patchR root df (a - base) o.refs c := ⟨_, rfl⟩
      rw [← hc0] at hpa
      simp [h1]
      refine wpS_loopS (ι := (Nat × ByteArray) × Nat) (fun u => [(0, .list p 5 (l.map Deck.av)), (1, .int .i64 base), (2, .list r 2 (root.map DDef.av)), (6, .ptr 0 0 0), (7, .ptr 1 1 0), (8, .row 2 gs 1 0 st.length), (14, .int .i64 i2), (15, .int .i64 u.1.1)])
        (fun u => M38 base u.1.2 df ls nm st gs gn gl u.2) (fun u => o.refs.length - u.1.1)
        (fun u => u.1.1 ≤ o.refs.length ∧ c0 = patchR root df (a - base) (o.refs.drop u.1.1) u.1.2 ∧ u.1.2.size = cd.size) ((0, c), ny) ⟨Nat.zero_le _, hc0, hcs⟩ (Sim.of_le (Env.le_of (by simp)) (Mem.le_of rfl (by simp [M38]))) ?_
      intro ⟨⟨k, c⟩, nz⟩ ⟨hk, hpr, hcs⟩
      simp only at hk hpr hcs
      have hwk : IntKind.i64.wrap (k + 1) = k + 1 := wrap64 (by omega) (by omega)
      simp [M38, h1, idxM, ho, Deck.av]
      refine br_cond rfl (fun h2 => ?_) (fun h2 => ?_)
      · have hlk : k < o.refs.length := by have := ltI_t.1 h2; omega
        have hx := hrf _ (ix_mem hlk)
        rw [drop_ix hlk, patchR] at hpr
        generalize hd : ix o.refs k = d at *
        have hw3 : IntKind.i64.wrap (a - base) = a - base := wrap64 (by omega) (by omega)
        have hw4 : IntKind.i64.wrap (a - base + d.at_) = a - base + d.at_ := wrap64 (by omega) (by omega)
        have hw5 : IntKind.i64.wrap (a - base + d.at_ + 4) = a - base + d.at_ + 4 := wrap64 (by omega) (by omega)
        generalize hP : a - base + d.at_ = P at *
        obtain ⟨X, hX⟩ : ∃ X, X = c.extract 0 P.toNat := ⟨_, rfl⟩
        obtain ⟨Y, hY⟩ : ∃ Y, Y = c.extract (P.toNat + 4) c.size := ⟨_, rfl⟩
        obtain ⟨Z, hZ⟩ : ∃ Z, Z = fourF (findR root df d.name + d.plus) := ⟨_, rfl⟩
        have hXs : X.size = P.toNat := by rw [hX]; simp; omega
        have hYs : Y.size = c.size - (P.toNat + 4) := by rw [hY]; simp
        have hZs : Z.size = 4 := by rw [hZ]; rfl
        have hns : (X ++ Z ++ Y).size = cd.size := by rw [ByteArray.size_append, ByteArray.size_append]; omega
        have hxz : X.size + Z.size ≤ 9223372036854775807 := by omega
        have hxzy : X.size + Z.size + Y.size ≤ 9223372036854775807 := by omega
        have hsl1 : sliceA false true 0 [.str c, .int .i64 P] = some (.str X) := by
          simp [sliceA, boundsA, hX]; omega
        have hsl2 : sliceA true false 0 [.str c, .int .i64 (P + 4)] = some (.str Y) := by
          have : (P + 4).toNat = P.toNat + 4 := by omega
          simp [sliceA, boundsA, hY, this]; omega
        have h69 : ∀ v, v = findR root df d.name → PCalls Try.prog 69 [.int .i64 (IntKind.i64.wrap (v + d.plus))] fun out => out = .ret (.str Z) := by
          intro v hv
          rw [hv, hZ, ← fourF_wrap]
          exact call69 _
        replace hpr : c0 = patchR root df (a - base) (o.refs.drop (k + 1)) (X ++ Z ++ Y) := by rw [hpr, hX, hY, hZ, setFour]
        simp [h2, h1, idxM, ho, hd, Deck.av, DRef.av]
        refine xcall_p (call65 r root d.name hrl) (by simp) ?_
        cases hz : outerF root d.name with
        | some v =>
          have h69v := h69 v (by simp [findR, hz])
          simp [h1', idxM, ha, hw3, hw4, hw5, hP, hsl1]
          refine xdcall_p rfl h69v (by simp) ?_
          simp [hw5, hsl2, hxz, hxzy, hwk]
          exact ⟨k + 1, X ++ Z ++ Y, ⟨by omega, hpr, hns⟩, by omega, nz + 1, Sim.of_le (Env.le_of (by simp)) (Mem.le_of rfl (by simp))⟩
        | none =>
          have h69v := h69 ((outerF df d.name).getD 0) (by simp [findR, hz])
          simp
          refine xcall_p (call65 true df d.name (by omega)) (by simp) ?_
          simp [h1', idxM, ha, hw3, hw4, hw5, hP, hsl1]
          refine xdcall_p rfl h69v (by simp) ?_
          simp [hw5, hsl2, hxz, hxzy, hwk]
          exact ⟨k + 1, X ++ Z ++ Y, ⟨by omega, hpr, hns⟩, by omega, nz + 1, Sim.of_le (Env.le_of (by simp)) (Mem.le_of rfl (by simp))⟩
      · have hkl : k = o.refs.length := by have := ltI_f.1 h2; omega
        rw [hkl, List.drop_length] at hpr
        replace hpr : c = c0 := hpr.symm
        rw [← hpr] at hpa
        simp [h2, hw2]
        exact ⟨i2 + 1, c, ⟨by omega, hpa, hcs⟩, by omega, nz, Sim.of_le (Env.le_of (by simp)) (Mem.le_of rfl (by simp))⟩
    · have hil2 : i2 = l.length := by have := ltI_f.1 h1; omega
      rw [hil2, ← hzl, List.drop_length] at hpa
      replace hpa : C = c := hpa
      simp [h1, cr38, hC, Img.av, hpa]
end Go.Pm

/- LkC28: contracts: R34's Image says yes to an image that is well formed. -/
namespace Go.Pm
open Go Go.Proofs
attribute [-simp] List.getElem?_map

structure Img.Fine (x : Img) : Prop where
  base : baseF x.base = true
  end_ : x.base + x.code.size ≤ 65536
  dlen : x.defs.length ≤ 4000000000000
  llen : x.lines.length ≤ 4000000000000
  nlen : x.names.length ≤ 4000000000000
  dname : ∀ i, i < x.defs.length → (ix x.defs i).name.size ≤ 1048576 ∧ nameOk (ix x.defs i).name = true ∧ withinF (ix x.defs i).at_ x.base (x.base + x.code.size) = true
  dless : ∀ i, i + 1 < x.defs.length → ltS (ix x.defs i).name (ix x.defs (i + 1)).name = true
  nname : ∀ i, i < x.names.length → (ix x.names i).name.size ≤ 1048576 ∧ nameOk (ix x.names i).name = true ∧ withinF (ix x.names i).at_ x.base (x.base + x.code.size) = true ∧ eqI ((ix x.names i).at_.tmod 8) 0 = true
  nless : ∀ i, i + 1 < x.names.length → ltI (ix x.names (i + 1)).at_ (ix x.names i).at_ = false
  line : ∀ i, i < x.lines.length → withinF (ix x.lines i).at_ x.base (x.base + x.code.size) = true
  lless : ∀ i, i + 1 < x.lines.length → leI (ix x.lines (i + 1)).at_ (ix x.lines i).at_ = false

set_option maxHeartbeats 4000000 in
theorem call31 (x : Img) (hx : x.Fine) : PCalls Try.prog 31 [.agg x.av] fun out => out = .ret (.bool true) := by
  refine ok31.pcalls (by simp) ?_
  have hb := hx.base
  have he := hx.end_
  have hl1 := hx.dlen
  have hl2 := hx.llen
  have hl3 := hx.nlen
  have hb0 : 0 ≤ x.base ∧ x.base ≤ 65528 := by
    have hb2 := hb
    unfold baseF at hb2
    rw [Bool.and_eq_true] at hb2
    exact withinF_t hb2.1
  have hwe : IntKind.i64.wrap (x.base + x.code.size) = x.base + x.code.size := wrap64 (by omega) (by omega)
  have hgt : ltI 65536 (x.base + x.code.size) = false := ltI_f.2 he
  have h00 : ltI 0 0 = false := rfl
  have hw1 : IntKind.i64.wrap 1 = 1 := wrap64 (by omega) (by omega)
  simp [c31, Img.av, hwe]
  refine xcall_p (call35 x.base) rfl ?_
  simp [hb, hgt]
  generalize hE : x.base + (x.code.size : Int) = E at *
  refine wpS_loopS (ι := Nat) (fun i => [(1, .ptr 0 0 0), (3, .int .i64 E), (4, .int .i64 i)]) (fun _ => ⟨[(0, .cells x.av)], 1⟩) (fun i => x.defs.length - i) (fun i => i ≤ x.defs.length) 0 (Nat.zero_le _) (Sim.of_le (Env.le_of (by simp)) (Mem.le_of rfl (by simp [Img.av]))) ?_
  intro i hi
  have hw : IntKind.i64.wrap (i + 1) = i + 1 := wrap64 (by omega) (by omega)
  simp [Img.av]
  refine br_cond rfl (fun h => ?_) (fun h => ?_)
  · have hlt : i < x.defs.length := by have := ltI_t.1 h; omega
    obtain ⟨hd1, hd2, hd3⟩ := hx.dname i hlt
    simp [h, idxM, DDef.av]
    refine xdcall_p rfl (call61 _ hd1) rfl ?_
    simp [hd2, h, idxM, DDef.av]
    refine xdcall_p rfl (call62 (ix x.defs i).at_ x.base E) rfl ?_
    rw [hE] at hd3
    rcases Nat.eq_zero_or_pos i with hi0 | hi0
    · subst hi0
      simp [hd3, h00, hw1]
      exact ⟨1, by omega, by omega, Sim.of_le (Env.le_of (by simp)) (Mem.le_of rfl (by simp))⟩
    · have h0 : ltI 0 ↑i = true := ltI_t.2 (by omega)
      have hwm : IntKind.i64.wrap (i - 1) = ((i - 1 : Nat) : Int) := by rw [wrap64 (by omega) (by omega)]; omega
      have hj : ltI ↑(i - 1) ↑x.defs.length = true := ltN (by omega)
      have hls := hx.dless (i - 1) (by omega)
      rw [Nat.sub_add_cancel hi0] at hls
      simp [hd3, h0, hwm, hj, idxM, DDef.av, h, hls]
      simp [hw]
      exact ⟨i + 1, by omega, by omega, Sim.of_le (Env.le_of (by simp)) (Mem.le_of rfl (by simp))⟩
  simp [h]
  clear h
  refine wpS_loopS (ι := Nat) (fun i => [(1, .ptr 0 0 0), (3, .int .i64 E), (5, .int .i64 i)]) (fun _ => ⟨[(0, .cells x.av)], 1⟩) (fun i => x.names.length - i) (fun i => i ≤ x.names.length) 0 (Nat.zero_le _) (Sim.of_le (Env.le_of (by simp)) (Mem.le_of rfl (by simp [Img.av]))) ?_
  intro i hi
  have hw : IntKind.i64.wrap (i + 1) = i + 1 := wrap64 (by omega) (by omega)
  simp [Img.av]
  refine br_cond rfl (fun h => ?_) (fun h => ?_)
  · have hlt : i < x.names.length := by have := ltI_t.1 h; omega
    obtain ⟨hd1, hd2, hd3, hd4⟩ := hx.nname i hlt
    simp [h, idxM, DDef.av]
    refine xdcall_p rfl (call61 _ hd1) rfl ?_
    simp [hd2, h, idxM, DDef.av]
    refine xdcall_p rfl (call62 (ix x.names i).at_ x.base E) rfl ?_
    rw [hE] at hd3
    rcases Nat.eq_zero_or_pos i with hi0 | hi0
    · subst hi0
      have hz0 : (x.names.map DDef.av)[0]? = some (ix x.names 0).av := idxM h
      simp [hd3, hd4, h00, hw1, hz0, DDef.av]
      exact ⟨1, by omega, by omega, Sim.of_le (Env.le_of (by simp)) (Mem.le_of rfl (by simp))⟩
    · have h0 : ltI 0 ↑i = true := ltI_t.2 (by omega)
      have hwm : IntKind.i64.wrap (i - 1) = ((i - 1 : Nat) : Int) := by rw [wrap64 (by omega) (by omega)]; omega
      have hj : ltI ↑(i - 1) ↑x.names.length = true := ltN (by omega)
      have hls := hx.nless (i - 1) (by omega)
      rw [Nat.sub_add_cancel hi0] at hls
      simp [hd3, hd4, h0, hwm, hj, idxM, DDef.av, h, hls]
      simp [hw]
      exact ⟨i + 1, by omega, by omega, Sim.of_le (Env.le_of (by simp)) (Mem.le_of rfl (by simp))⟩
  simp [h]
  clear h
  refine wpS_loopS (ι := Nat) (fun i => [(1, .ptr 0 0 0), (3, .int .i64 E), (6, .int .i64 i)]) (fun _ => ⟨[(0, .cells x.av)], 1⟩) (fun i => x.lines.length - i) (fun i => i ≤ x.lines.length) 0 (Nat.zero_le _) (Sim.of_le (Env.le_of (by simp)) (Mem.le_of rfl (by simp [Img.av]))) ?_
  intro i hi
  have hw : IntKind.i64.wrap (i + 1) = i + 1 := wrap64 (by omega) (by omega)
  simp [Img.av]
  refine br_cond rfl (fun h => ?_) (fun h => ?_)
  · have hlt : i < x.lines.length := by have := ltI_t.1 h; omega
    have hd3 := hx.line i hlt
    simp [h, idxM, DLine.av]
    refine xdcall_p rfl (call62 (ix x.lines i).at_ x.base E) rfl ?_
    rw [hE] at hd3
    rcases Nat.eq_zero_or_pos i with hi0 | hi0
    · subst hi0
      have hz0 : (x.lines.map DLine.av)[0]? = some (ix x.lines 0).av := idxM h
      simp [hd3, h00, hw1, hz0, DLine.av]
      exact ⟨1, by omega, by omega, Sim.of_le (Env.le_of (by simp)) (Mem.le_of rfl (by simp))⟩
    · have h0 : ltI 0 ↑i = true := ltI_t.2 (by omega)
      have hwm : IntKind.i64.wrap (i - 1) = ((i - 1 : Nat) : Int) := by rw [wrap64 (by omega) (by omega)]; omega
      have hj : ltI ↑(i - 1) ↑x.lines.length = true := ltN (by omega)
      have hls := hx.lless (i - 1) (by omega)
      rw [Nat.sub_add_cancel hi0] at hls
      simp [hd3, h0, hwm, hj, idxM, DLine.av, h, hls]
      simp [hw]
      exact ⟨i + 1, by omega, by omega, Sim.of_le (Env.le_of (by simp)) (Mem.le_of rfl (by simp))⟩
  simp [h, cr31]
end Go.Pm

/- LkQ1: contracts: R34's Image, for any image. -/
namespace Go.Pm
open Go Go.Proofs
attribute [-simp] List.getElem?_map

def iDefOk (b e : Int) (ds : List DDef) (i : Nat) : Bool := nameOk (ix ds i).name && withinF (ix ds i).at_ b e && !(ltI 0 i && !ltS (ix ds (i - 1)).name (ix ds i).name)
def iNameOk (b e : Int) (ds : List DDef) (i : Nat) : Bool := nameOk (ix ds i).name && withinF (ix ds i).at_ b e && eqI ((ix ds i).at_.tmod 8) 0 && !(ltI 0 i && ltI (ix ds i).at_ (ix ds (i - 1)).at_)
def iLineOk (b e : Int) (ds : List DLine) (i : Nat) : Bool := withinF (ix ds i).at_ b e && !(ltI 0 i && leI (ix ds i).at_ (ix ds (i - 1)).at_)
def imgOk (x : Img) : Bool := baseF x.base && !ltI 65536 (x.base + x.code.size) && (List.range x.defs.length).all (iDefOk x.base (x.base + x.code.size) x.defs) && (List.range x.names.length).all (iNameOk x.base (x.base + x.code.size) x.names) && (List.range x.lines.length).all (iLineOk x.base (x.base + x.code.size) x.lines)

set_option maxHeartbeats 4000000 in
theorem call31a (x : Img) (hx : x.Small) : PCalls Try.prog 31 [.agg x.av] fun out => out = .ret (.bool (imgOk x)) := by
  refine ok31.pcalls (by simp) ?_
  have hl1 := hx.defs
  have hl2 := hx.lines
  have hl3 := hx.names
  have hl4 := hx.code
  simp [c31, Img.av]
  refine xcall_p (call35 x.base) rfl ?_
  cases hb : baseF x.base with
  | false => simp [cr31, imgOk, hb]
  | true =>
  have hb0 : 0 ≤ x.base ∧ x.base ≤ 65528 := by
    have hb2 := hb
    unfold baseF at hb2
    rw [Bool.and_eq_true] at hb2
    exact withinF_t hb2.1
  have hwe : IntKind.i64.wrap (x.base + x.code.size) = x.base + x.code.size := wrap64 (by omega) (by omega)
  have hw1 : IntKind.i64.wrap 1 = 1 := wrap64 (by omega) (by omega)
  have h00 : ltI 0 0 = false := rfl
  generalize hE : x.base + (x.code.size : Int) = E at *
  simp [hwe]
  refine br_cond rfl (fun hgt => ?_) (fun hgt => ?_)
  · simp [cr31, imgOk, hb, hE, hgt]
  simp
  refine wpS_loopS (ι := Nat) (fun i => [(1, .ptr 0 0 0), (3, .int .i64 E), (4, .int .i64 i)]) (fun _ => ⟨[(0, .cells x.av)], 1⟩) (fun i => x.defs.length - i) (fun i => i ≤ x.defs.length ∧ ∀ j, j < i → iDefOk x.base E x.defs j = true) 0 ⟨Nat.zero_le _, fun j hj => absurd hj (Nat.not_lt_zero _)⟩ (Sim.of_le (Env.le_of (by simp)) (Mem.le_of rfl (by simp [Img.av]))) ?_
  intro i ⟨hi, hall⟩
  have hw : IntKind.i64.wrap (i + 1) = i + 1 := wrap64 (by omega) (by omega)
  simp [Img.av]
  refine br_cond rfl (fun h => ?_) (fun h => ?_)
  · have hlt : i < x.defs.length := by have := ltI_t.1 h; omega
    have bad : iDefOk x.base E x.defs i = false → imgOk x = false := fun h => by simp [imgOk, hE, all_f hlt h]
    have good : iDefOk x.base E x.defs i = true → ∀ j, j < i + 1 → iDefOk x.base E x.defs j = true := upto hall
    simp [h, idxM, DDef.av]
    refine xdcall_p rfl (call61 _ (hx.dname _ (ix_mem hlt))) rfl ?_
    simp
    refine br_dguard_f rfl (fun h5 => ?_) (fun h5 => ?_) <;> simp at h5
    · simp [h5, cr31, bad (by simp [iDefOk, h5])]
    simp [h5, h, idxM, DDef.av]
    refine xdcall_p rfl (call62 (ix x.defs i).at_ x.base E) rfl ?_
    simp
    refine br_dguard_f rfl (fun h6 => ?_) (fun h6 => ?_) <;> simp at h6
    · simp [h6, cr31, bad (by simp [iDefOk, h6])]
    simp [h6]
    refine br_dguard_t rfl (fun h8 => ?_) (fun h8 => ?_)
    · have h0 := ltI_t.1 h8
      have hwm : IntKind.i64.wrap (i - 1) = ((i - 1 : Nat) : Int) := by rw [wrap64 (by omega) (by omega)]; omega
      have h9 : ltI ↑(i - 1) ↑x.defs.length = true := ltN (by omega)
      simp [h8, hwm, h9, h, idxM, DDef.av]
      refine br_cond rfl (fun h10 => ?_) (fun h10 => ?_) <;> simp at h10
      · simp [cr31, bad (by simp [iDefOk, h8, h10])]
      · simp [hw]
        exact ⟨i + 1, ⟨by omega, good (by simp [iDefOk, h5, h6, h10])⟩, by omega, Sim.of_le (Env.le_of (by simp)) (Mem.le_of rfl (by simp))⟩
    · simp [h8, hw]
      exact ⟨i + 1, ⟨by omega, good (by simp [iDefOk, h5, h6, h8])⟩, by omega, Sim.of_le (Env.le_of (by simp)) (Mem.le_of rfl (by simp))⟩
  have hid : i = x.defs.length := by have := ltI_f.1 h; omega
  have hD : (List.range x.defs.length).all (iDefOk x.base E x.defs) = true := all_t (by rw [← hid]; exact hall)
  simp [h]
  clear h hall hi hw hid
  refine wpS_loopS (ι := Nat) (fun i => [(1, .ptr 0 0 0), (3, .int .i64 E), (5, .int .i64 i)]) (fun _ => ⟨[(0, .cells x.av)], 1⟩) (fun i => x.names.length - i) (fun i => i ≤ x.names.length ∧ ∀ j, j < i → iNameOk x.base E x.names j = true) 0 ⟨Nat.zero_le _, fun j hj => absurd hj (Nat.not_lt_zero _)⟩ (Sim.of_le (Env.le_of (by simp)) (Mem.le_of rfl (by simp [Img.av]))) ?_
  intro i ⟨hi, hall⟩
  have hw : IntKind.i64.wrap (i + 1) = i + 1 := wrap64 (by omega) (by omega)
  simp [Img.av]
  refine br_cond rfl (fun h => ?_) (fun h => ?_)
  · have hlt : i < x.names.length := by have := ltI_t.1 h; omega
    have bad : iNameOk x.base E x.names i = false → imgOk x = false := fun h => by simp [imgOk, hE, all_f hlt h]
    have good : iNameOk x.base E x.names i = true → ∀ j, j < i + 1 → iNameOk x.base E x.names j = true := upto hall
    simp [h, idxM, DDef.av]
    refine xdcall_p rfl (call61 _ (hx.nname _ (ix_mem hlt))) rfl ?_
    simp
    refine br_dguard_f rfl (fun h5 => ?_) (fun h5 => ?_) <;> simp at h5
    · simp [h5, cr31, bad (by simp [iNameOk, h5])]
    simp [h5, h, idxM, DDef.av]
    refine xdcall_p rfl (call62 (ix x.names i).at_ x.base E) rfl ?_
    simp
    refine br_dguard_f rfl (fun h6 => ?_) (fun h6 => ?_) <;> simp at h6
    · simp [h6, cr31, bad (by simp [iNameOk, h6])]
    simp [h6, h, idxM, DDef.av]
    refine br_dguard_f rfl (fun h7 => ?_) (fun h7 => ?_) <;> simp at h7
    · simp [h7, cr31, bad (by simp [iNameOk, h7])]
    simp [h7]
    refine br_dguard_t rfl (fun h8 => ?_) (fun h8 => ?_)
    · have h0 := ltI_t.1 h8
      have hwm : IntKind.i64.wrap (i - 1) = ((i - 1 : Nat) : Int) := by rw [wrap64 (by omega) (by omega)]; omega
      have h9 : ltI ↑(i - 1) ↑x.names.length = true := ltN (by omega)
      simp [h8, hwm, h9, h, idxM, DDef.av]
      refine br_cond rfl (fun h10 => ?_) (fun h10 => ?_)
      · simp [cr31, bad (by simp [iNameOk, h8, h10])]
      · simp [hw]
        exact ⟨i + 1, ⟨by omega, good (by simp [iNameOk, h5, h6, h7, h10])⟩, by omega, Sim.of_le (Env.le_of (by simp)) (Mem.le_of rfl (by simp))⟩
    · simp [h8, hw]
      exact ⟨i + 1, ⟨by omega, good (by simp [iNameOk, h5, h6, h7, h8])⟩, by omega, Sim.of_le (Env.le_of (by simp)) (Mem.le_of rfl (by simp))⟩
  have hid : i = x.names.length := by have := ltI_f.1 h; omega
  have hN : (List.range x.names.length).all (iNameOk x.base E x.names) = true := all_t (by rw [← hid]; exact hall)
  simp [h]
  clear h hall hi hw hid
  refine wpS_loopS (ι := Nat) (fun i => [(1, .ptr 0 0 0), (3, .int .i64 E), (6, .int .i64 i)]) (fun _ => ⟨[(0, .cells x.av)], 1⟩) (fun i => x.lines.length - i) (fun i => i ≤ x.lines.length ∧ ∀ j, j < i → iLineOk x.base E x.lines j = true) 0 ⟨Nat.zero_le _, fun j hj => absurd hj (Nat.not_lt_zero _)⟩ (Sim.of_le (Env.le_of (by simp)) (Mem.le_of rfl (by simp [Img.av]))) ?_
  intro i ⟨hi, hall⟩
  have hw : IntKind.i64.wrap (i + 1) = i + 1 := wrap64 (by omega) (by omega)
  simp [Img.av]
  refine br_cond rfl (fun h => ?_) (fun h => ?_)
  · have hlt : i < x.lines.length := by have := ltI_t.1 h; omega
    have bad : iLineOk x.base E x.lines i = false → imgOk x = false := fun h => by simp [imgOk, hE, all_f hlt h]
    have good : iLineOk x.base E x.lines i = true → ∀ j, j < i + 1 → iLineOk x.base E x.lines j = true := upto hall
    simp [h, idxM, DLine.av]
    refine xdcall_p rfl (call62 (ix x.lines i).at_ x.base E) rfl ?_
    simp
    refine br_dguard_f rfl (fun h6 => ?_) (fun h6 => ?_) <;> simp at h6
    · simp [h6, cr31, bad (by simp [iLineOk, h6])]
    simp [h6]
    refine br_dguard_t rfl (fun h8 => ?_) (fun h8 => ?_)
    · have h0 := ltI_t.1 h8
      have hwm : IntKind.i64.wrap (i - 1) = ((i - 1 : Nat) : Int) := by rw [wrap64 (by omega) (by omega)]; omega
      have h9 : ltI ↑(i - 1) ↑x.lines.length = true := ltN (by omega)
      simp [h8, hwm, h9, h, idxM, DLine.av]
      refine br_cond rfl (fun h10 => ?_) (fun h10 => ?_)
      · simp [cr31, bad (by simp [iLineOk, h8, h10])]
      · simp [hw]
        exact ⟨i + 1, ⟨by omega, good (by simp [iLineOk, h6, h10])⟩, by omega, Sim.of_le (Env.le_of (by simp)) (Mem.le_of rfl (by simp))⟩
    · simp [h8, hw]
      exact ⟨i + 1, ⟨by omega, good (by simp [iLineOk, h6, h8])⟩, by omega, Sim.of_le (Env.le_of (by simp)) (Mem.le_of rfl (by simp))⟩
  have hid : i = x.lines.length := by have := ltI_f.1 h; omega
  have hL : (List.range x.lines.length).all (iLineOk x.base E x.lines) = true := all_t (by rw [← hid]; exact hall)
  simp [h, cr31, imgOk, hb, hE, hgt, hD, hN, hL]
end Go.Pm
