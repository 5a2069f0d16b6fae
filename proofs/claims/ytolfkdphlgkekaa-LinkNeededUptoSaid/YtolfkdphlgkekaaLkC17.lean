/- LkC17: contracts: an object is put behind the others. -/
import Derived.Test.YtolfkdphlgkekaaLkL
namespace Go.Pm
open Go Go.Proofs
attribute [-simp] List.getElem?_map

theorem linkDefs_len (o : Deck) : (linkDefs o).length ≤ o.defs.length + 1 := by unfold linkDefs; split <;> simp
theorem linkDefs_fit {o : Deck} (h : o.Fit) : ∀ d ∈ linkDefs o, 0 ≤ d.at_ ∧ d.at_ ≤ 1048576 := by
  intro d hd
  unfold linkDefs at hd
  split at hd
  · exact h.defs d hd
  · rcases List.mem_cons.1 hd with rfl | hd
    · exact ⟨Int.le_refl _, by simp⟩
    · exact h.defs d hd

def wrongV (n : ByteArray) : AV := .iface 58 (.agg [.int .i64 6, .str n])

theorem postA_norm {rs : List Res} {R : AOut → Mem → Prop} {e : Env} {m : Mem} : postA rs R .norm e m = ∃ v, resA rs e m = some v ∧ R (.ret v) m := rfl
attribute [simp] updAdd findN nilCheckA postA_norm

def SC.fst : SC → SC
  | .seq a _ => a
  | s => s
def SC.snd : SC → SC
  | .seq _ b => b
  | s => s

def r27 : SC := c27.snd.snd
theorem p27 : c27 = .seq c27.fst (.seq c27.snd.fst r27) := rfl

/-- What a call of put leaves. -/
def put27 (pre : List (Nat × AObj)) (base : Int) (G : LG) (once : Bool) (s : LSt) (o : Deck) (out : AOut) (m : Mem) : Prop := match putL once s o with
  | .ok s' => out = .ret (.tuple []) ∧ ∃ o' n' d' l' nx', m = ⟨pre ++ lkObjs pre.length base ⟨G.a, o', n', d', l'⟩ s', nx'⟩
  | .error n => out = .panic (wrongV n) ∧ ∃ nx', m = ⟨pre, nx'⟩

theorem le_pre (pre q : List (Nat × AObj)) (k : Nat) : Mem.le ⟨pre, k⟩ ⟨pre ++ q, k⟩ := ⟨rfl, pre.length, by simp⟩

set_option maxHeartbeats 4000000 in
theorem rest27 (pre : List (Nat × AObj)) (base : Int) (G : LG) (s : LSt) (o : Deck) (once : Bool) (nx : Nat) (hs : s.Small) (ho : o.Fit) (x7 : AV) (hput : ∀ out m, (match putNames (upF s.end_) once (linkDefs o) { s with own := addS s.own o.name, objs := s.objs ++ [o], places := s.places ++ [⟨o.name, upF s.end_⟩] } with
      | .error n => out = .panic (wrongV n) ∧ ∃ nx', m = ⟨pre, nx'⟩
      | .ok s' => out = .ret (.tuple []) ∧ ∃ o' n' d' l' nx', m = ⟨pre ++ lkObjs pre.length base ⟨G.a, o', n', d', l'⟩ { s' with lines := s'.lines ++ o.lines.map (fun x => ⟨upF s.end_ + x.at_, x.stmt⟩), end_ := upF s.end_ + o.code.size }, nx'⟩) → put27 pre base G once s o out m) :
    wpS Try.prog Lk.imp r27 [] (postA cr27 fun out m' => ∃ m'', Mem.le m'' m' ∧ put27 pre base G once s o out m'') [(0, .ptr (pre.length + 2) (G.a + 2) 0), (1, .agg o.av), (2, .bool once), (4, .ptr (pre.length + 7) nx 0), (7, x7), (37, .bool false)] ⟨pre ++ (lkObjs pre.length base G s ++ [(nx, .cells o.av)]), nx + 1⟩ := by
  have sl := hs.objs
  have s1 := hs.places
  have s2 : s.defs.length ≤ 3000000000000 := by have := hs.defs; omega
  have s3 : s.lines.length ≤ 3000000000000 := by have := hs.lines; omega
  have s4 := hs.end0
  have s5 : s.end_ ≤ 900000000000 := by have := hs.end1; omega
  have hsm := ho.small
  have d1 := hsm.defs
  have d2 := hsm.lines
  have d3 := hsm.code
  have d4 := linkDefs_len o
  have d5 := linkDefs_fit ho
  have h53 := call53 s.end_ s4 (by omega)
  have hup : upF s.end_ = (s.end_ + 7) / 8 * 8 := rfl
  have hup0 : 0 ≤ upF s.end_ := by rw [hup]; omega
  have hup1 : upF s.end_ ≤ 900000000100 := by rw [hup]; omega
  rw [show (s.end_ + 7) / 8 * 8 = upF s.end_ from rfl] at h53
  have b1 : (s.objs.length + 1) * 104 ≤ 140737488355328 ∧ s.objs.length + 1 ≤ 9223372036854775807 := ⟨by omega, by omega⟩
  have b2 : (s.places.length + 1) * 24 ≤ 140737488355328 ∧ s.places.length + 1 ≤ 9223372036854775807 := ⟨by omega, by omega⟩
  simp [r27, c27, SC.snd, lkObjs, lkCells, Deck.av]
  refine xcall_p h53 (by simp) ?_
  simp [appendA, b1, b2, List.range_succ]
  refine xcall_p (call54 o hsm) (by simp [Deck.av]) ?_
  simp
  obtain ⟨s0, hs0⟩ : ∃ s0 : LSt, s0 = { s with own := addS s.own o.name, objs := s.objs ++ [o], places := s.places ++ [⟨o.name, upF s.end_⟩] } := ⟨_, rfl⟩
  rw [← hs0] at hput
  have dd : ∀ i, i < (linkDefs o).length → IntKind.i64.wrap (upF s.end_ + (ix (linkDefs o) i).at_) = upF s.end_ + (ix (linkDefs o) i).at_ := fun i hi => by
    have := d5 _ (ix_mem hi)
    exact wrap64 (by omega) (by omega)
  refine wpS_loopS (ι := (Nat × List DDef × List DDef) × (Nat × Nat)) (fun g => [(0, .ptr (pre.length + 2) (G.a + 2) 0), (2, .bool once), (4, .ptr (pre.length + 7) nx 0), (8, .int .i64 (upF s.end_)), (79, .list true 2 ((linkDefs o).map DDef.av)), (80, .int .i64 (linkDefs o).length), (81, .int .i64 g.1.1)])
    (fun g => ⟨pre ++ (lkObjs pre.length base ⟨G.a, nx + 1 + 1, nx + 1 + 1 + 1 + 1, g.2.1, G.l⟩ { s0 with nmap := g.1.2.1, defs := g.1.2.2 } ++ [(nx, .cells o.av)]), g.2.2⟩) (fun g => (linkDefs o).length - g.1.1)
    (fun g => g.1.1 ≤ (linkDefs o).length ∧ putNames (upF s.end_) once (linkDefs o) s0 = putNames (upF s.end_) once ((linkDefs o).drop g.1.1) { s0 with nmap := g.1.2.1, defs := g.1.2.2 } ∧ g.1.2.2.length ≤ s.defs.length + g.1.1)
    ((0, s.nmap, s.defs), (G.d, nx + 1 + 1 + 1 + 1 + 1)) ⟨Nat.zero_le _, by rw [hs0]; rfl, by simp⟩ (Sim.of_le (Env.le_of (by simp)) (Mem.le_of rfl (by simp [lkObjs, lkCells, hs0, Deck.av, DDef.av]))) ?_
  intro ⟨⟨i, nm, df⟩, ⟨gd, ny⟩⟩ ⟨hi, hall, hdl⟩
  simp only at hi hall hdl
  have hw : IntKind.i64.wrap (i + 1) = i + 1 := wrap64 (by omega) (by omega)
  have b3 : (df.length + 1) * 24 ≤ 140737488355328 ∧ df.length + 1 ≤ 9223372036854775807 := ⟨by omega, by omega⟩
  simp
  refine br_cond rfl (fun h => ?_) (fun h => ?_)
  · have hlt : i < (linkDefs o).length := by have := ltI_t.1 h; omega
    have hwd := dd i hlt
    rw [drop_ix hlt, putNames] at hall
    generalize hd : ix (linkDefs o) i = d at *
    cases hz : outerF nm d.name with
    | some v =>
      rw [if_pos (by simp only [hz]; rfl)] at hall
      cases once with
      | true =>
        have hp := hput (.panic (wrongV d.name)) ⟨pre, ny + 1⟩ (by rw [hall]; exact ⟨rfl, _, rfl⟩)
        simp [h, idxM, hd, DDef.av, lkObjs, lkCells, hz, cr27, postA_panic]
        exact ⟨_, _, ⟨rfl, rfl⟩, _, le_pre _ _ _, hp⟩
      | false =>
        simp [h, idxM, hd, DDef.av, lkObjs, lkCells, hz, hw]
        exact ⟨i + 1, nm, df, ⟨by omega, hall, by omega⟩, by omega, gd, ny + 1, Sim.of_le (Env.le_of (by simp)) (Mem.le_of rfl (by simp [lkObjs, lkCells]))⟩
    | none =>
      rw [if_neg (by simp [hz])] at hall
      have hu := updN d.name (upF s.end_ + d.at_) nm hz
      simp [h, idxM, hd, DDef.av, lkObjs, lkCells, hz, hu, hwd, hw, appendA, b3, List.range_succ]
      exact ⟨i + 1, nm ++ [⟨d.name, upF s.end_ + d.at_⟩], df ++ [⟨d.name, upF s.end_ + d.at_⟩], ⟨by omega, hall, by simp; omega⟩, by omega, ny + 1 + 1, ny + 1 + 1 + 1, Sim.of_le (Env.le_of (by simp)) (Mem.le_of rfl (by simp [lkObjs, lkCells, DDef.av]))⟩
  · have hil : i = (linkDefs o).length := by have := ltI_f.1 h; omega
    rw [hil, List.drop_length, putNames] at hall
    rw [hall] at hput
    simp only at hput
    simp [h, lkObjs, lkCells, Deck.av]
    have hfl := ho.lines
    refine wpS_loopS (ι := (Nat × List DLine) × (Nat × Nat)) (fun g => [(0, .ptr (pre.length + 2) (G.a + 2) 0), (4, .ptr (pre.length + 7) nx 0), (8, .int .i64 (upF s.end_)), (131, .list true 2 (o.lines.map DLine.av)), (132, .int .i64 o.lines.length), (133, .int .i64 g.1.1)])
      (fun g => ⟨pre ++ (lkObjs pre.length base ⟨G.a, nx + 1 + 1, nx + 1 + 1 + 1 + 1, gd, g.2.1⟩ { s0 with nmap := nm, defs := df, lines := g.1.2 } ++ [(nx, .cells o.av)]), g.2.2⟩) (fun g => o.lines.length - g.1.1)
      (fun g => g.1.1 ≤ o.lines.length ∧ g.1.2 = s.lines ++ (o.lines.take g.1.1).map (fun x => ⟨upF s.end_ + x.at_, x.stmt⟩)) ((0, s.lines), (G.l, ny)) ⟨Nat.zero_le _, by simp⟩ (Sim.of_le (Env.le_of (by simp)) (Mem.le_of rfl (by simp [lkObjs, lkCells, hs0, Deck.av]))) ?_
    intro ⟨⟨k, ls⟩, ⟨gl, nz⟩⟩ ⟨hk, hls⟩
    simp only at hk hls
    have hwk : IntKind.i64.wrap (k + 1) = k + 1 := wrap64 (by omega) (by omega)
    have hlen : ls.length = s.lines.length + k := by rw [hls]; simp; omega
    have b4 : (ls.length + 1) * 16 ≤ 140737488355328 ∧ ls.length + 1 ≤ 9223372036854775807 := ⟨by omega, by omega⟩
    simp
    refine br_cond rfl (fun h2 => ?_) (fun h2 => ?_)
    · have hlk : k < o.lines.length := by have := ltI_t.1 h2; omega
      have hx := hfl _ (ix_mem hlk)
      have hwx : IntKind.i64.wrap (upF s.end_ + (ix o.lines k).at_) = upF s.end_ + (ix o.lines k).at_ := wrap64 (by omega) (by omega)
      have htk : o.lines.take (k + 1) = o.lines.take k ++ [ix o.lines k] := by rw [List.take_add_one, idx h2]; rfl
      simp [h2, idxM, DLine.av, lkObjs, lkCells, hwx, hwk, appendA, b4, List.range_succ]
      exact ⟨k + 1, ls ++ [⟨upF s.end_ + (ix o.lines k).at_, (ix o.lines k).stmt⟩], ⟨by omega, by rw [← List.map_take, htk, hls, List.map_append, List.append_assoc]; rfl⟩, by omega, nz + 1 + 1, nz + 1 + 1 + 1, Sim.of_le (Env.le_of (by simp)) (Mem.le_of rfl (by simp [lkObjs, lkCells, DLine.av]))⟩
    · have hkl : k = o.lines.length := by have := ltI_f.1 h2; omega
      rw [hkl, List.take_length] at hls
      have hwe : IntKind.i64.wrap (upF s.end_ + o.code.size) = upF s.end_ + o.code.size := wrap64 (by omega) (by omega)
      simp [h2, lkObjs, lkCells, Deck.av, cr27, hwe]
      refine ⟨⟨pre ++ lkObjs pre.length base ⟨G.a, nx + 1 + 1, nx + 1 + 1 + 1 + 1, gd, gl⟩ { s0 with nmap := nm, defs := df, lines := ls, end_ := upF s.end_ + o.code.size }, nz⟩, Mem.le_of rfl ?_, hput _ _ ⟨rfl, nx + 1 + 1, nx + 1 + 1 + 1 + 1, gd, gl, nz, ?_⟩⟩
      · simp [lkObjs, lkCells]
      · rw [hls, show s0.lines = s.lines by rw [hs0]]

set_option maxHeartbeats 4000000 in
theorem call27 (pre : List (Nat × AObj)) (base : Int) (G : LG) (s : LSt) (o : Deck) (once : Bool) (nx : Nat) (hs : s.Small) (ho : o.Fit) :
    ACalls Try.prog 27 [.ptr (pre.length + 2) (G.a + 2) 0, .agg o.av, .bool once] ⟨pre ++ lkObjs pre.length base G s, nx⟩ (put27 pre base G once s o) := by
  refine ACalls.forget ?_
  refine ok27.acalls (by simp) ?_
  rw [p27]
  have rest := rest27 pre base G s o once nx hs ho
  cases once with
  | false =>
    simp [c27, SC.fst, SC.snd, lkObjs, lkCells, Deck.av]
    exact rest _ fun out m h => by
      unfold put27 putL
      cases hp : putNames (upF s.end_) false (linkDefs o) { s with own := addS s.own o.name, objs := s.objs ++ [o], places := s.places ++ [⟨o.name, upF s.end_⟩] } <;> rw [hp] at h <;> simpa [hp] using h
  | true =>
    cases hx : outerF s.nmap o.name with
    | some v =>
      have hput : put27 pre base G true s o (.panic (wrongV o.name)) ⟨pre, nx + 1⟩ := by unfold put27 putL; simp [hx]
      simp [c27, SC.fst, SC.snd, lkObjs, lkCells, Deck.av, hx, cr27, postA_panic]
      exact ⟨_, _, ⟨rfl, rfl⟩, _, le_pre _ _ _, hput⟩
    | none =>
      cases hy : hasS s.own o.name with
      | true =>
        have hput : put27 pre base G true s o (.panic (wrongV o.name)) ⟨pre, nx + 1⟩ := by unfold put27 putL; simp [hx, hy]
        simp [c27, SC.fst, SC.snd, lkObjs, lkCells, Deck.av, hx, hy, cr27, postA_panic]
        exact ⟨_, _, ⟨rfl, rfl⟩, _, le_pre _ _ _, hput⟩
      | false =>
        simp [c27, SC.fst, SC.snd, lkObjs, lkCells, Deck.av, hx, hy]
        exact rest _ fun out m h => by
          unfold put27 putL
          cases hp : putNames (upF s.end_) true (linkDefs o) { s with own := addS s.own o.name, objs := s.objs ++ [o], places := s.places ++ [⟨o.name, upF s.end_⟩] } <;> rw [hp] at h <;> simpa [hp, hx, hy] using h

/-- put, where names may be there. -/
theorem putNames_false (A : Int) : ∀ (ds : List DDef) (s : LSt), ∃ s', putNames A false ds s = .ok s'
  | [], s => ⟨s, rfl⟩
  | d :: ds, s => by
    rw [putNames]
    split
    · exact putNames_false A ds s
    · exact putNames_false A ds _
theorem putNames_same (A : Int) (once : Bool) : ∀ (ds : List DDef) (s s' : LSt), putNames A once ds s = .ok s' → s'.objs = s.objs ∧ s'.own = s.own ∧ s'.places = s.places ∧ s'.lines = s.lines ∧ s'.end_ = s.end_ ∧ s'.defs.length ≤ s.defs.length + ds.length
  | [], s, s', h => by simp only [putNames, Except.ok.injEq] at h; subst h; simp
  | d :: ds, s, s', h => by
    rw [putNames] at h
    split at h
    · split at h
      · cases h
      · obtain ⟨h1, h2, h3, h4, h5, h6⟩ := putNames_same A once ds s s' h
        exact ⟨h1, h2, h3, h4, h5, by simp; omega⟩
    · obtain ⟨h1, h2, h3, h4, h5, h6⟩ := putNames_same A once ds _ s' h
      exact ⟨h1, h2, h3, h4, h5, by simp at h6 ⊢; omega⟩
theorem putL_same {once : Bool} {s s' : LSt} {o : Deck} (h : putL once s o = .ok s') : s'.objs = s.objs ++ [o] ∧ s'.own = addS s.own o.name ∧ s'.places = s.places ++ [⟨o.name, upF s.end_⟩] ∧ s'.lines = s.lines ++ o.lines.map (fun x => ⟨upF s.end_ + x.at_, x.stmt⟩) ∧ s'.end_ = upF s.end_ + o.code.size ∧ s'.defs.length ≤ s.defs.length + (linkDefs o).length := by
  unfold putL at h
  split at h
  · cases h
  · split at h
    · cases h
    · rename_i s1 h1
      injection h with h; subst h
      obtain ⟨h1, h2, h3, h4, h5, h6⟩ := putNames_same _ _ _ _ _ h1
      exact ⟨h1, h2, h3, by simp only [h4], rfl, h6⟩
theorem putL_small {once : Bool} {s s' : LSt} {o : Deck} (hs : s.Small) (ho : o.Fit) (hl : s.objs.length < 2000000) (h : putL once s o = .ok s') : s'.Small := by
  obtain ⟨h1, h2, h3, h4, h5, h6⟩ := putL_same h
  have d1 := ho.small.defs
  have d2 := ho.small.lines
  have d3 := ho.code
  have d4 := linkDefs_len o
  have s1 := hs.places
  have s2 := hs.defs
  have s3 := hs.lines
  have s4 := hs.end0
  have s5 := hs.end1
  have hup : upF s.end_ = (s.end_ + 7) / 8 * 8 := rfl
  refine ⟨by rw [h1]; simp; omega, fun x hx => ?_, by rw [h1, h3]; simp [s1], by rw [h1]; simp only [List.length_append, List.length_singleton]; omega, by rw [h1, h4]; simp only [List.length_append, List.length_singleton, List.length_map]; omega, by rw [h5, hup]; omega, by rw [h5, h1, hup]; simp only [List.length_append, List.length_singleton]; omega⟩
  rw [h1] at hx
  rcases List.mem_append.1 hx with hx | hx
  · exact hs.fit x hx
  · rw [List.mem_singleton.1 hx]; exact ho
def putNF (s : LSt) (o : Deck) : LSt := match putL false s o with
  | .ok s' => s'
  | .error _ => s
theorem putL_false (s : LSt) (o : Deck) : putL false s o = .ok (putNF s o) := by
  obtain ⟨s1, h1⟩ := putNames_false (upF s.end_) (linkDefs o) { s with own := addS s.own o.name, objs := s.objs ++ [o], places := s.places ++ [⟨o.name, upF s.end_⟩] }
  unfold putNF putL
  simp only [Bool.false_and, Bool.false_eq_true, if_false, h1]
end Go.Pm
