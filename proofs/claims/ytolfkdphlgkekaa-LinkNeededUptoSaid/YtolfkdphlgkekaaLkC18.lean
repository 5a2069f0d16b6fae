/- LkC18: contracts: which names are lacking; which object of a library is taken. -/
import Derived.Test.YtolfkdphlgkekaaLkC17
import Derived.Test.YtolfkdphlgkekaaMf
namespace Go.Pm
open Go Go.Proofs
attribute [-simp] List.getElem?_map

/-- The names that are lacking, each once. -/
def lackL (nm : List DDef) : List ByteArray → List ByteArray → List ByteArray
  | [], ms => ms
  | n :: ns, ms => if (outerF nm n).isSome then lackL nm ns ms else if ms.any (fun s => eqS n s) then lackL nm ns ms else lackL nm ns (ms ++ [n])
def textsR (ms : List ByteArray) : List (List AV) := ms.map fun s => [.str s]

set_option maxHeartbeats 4000000 in
theorem call55 (pre : List (Nat × AObj)) (base : Int) (G : LG) (s : LSt) (nx : Nat) (hs : s.Small) :
    ACalls Try.prog 55 [.ptr (pre.length + 2) (G.a + 2) 0] ⟨pre ++ lkObjs pre.length base G s, nx⟩ fun out m => ∃ g nx', out = .ret (.row (pre.length + 7) g 1 0 (lackL s.nmap (refNames s.objs) []).length) ∧
      m = ⟨pre ++ (lkObjs pre.length base G s ++ [(g, .row 9 1 (textsR (lackL s.nmap (refNames s.objs) [])))]), nx'⟩ := by
  refine ACalls.forget ?_
  refine ok55.acalls (by simp) ?_
  have sl := hs.objs
  have hmx := refs_max (l := s.objs) ⟨sl, fun o ho => (hs.fit o ho).small⟩
  generalize hM : lackL s.nmap (refNames s.objs) [] = M
  simp [c55, lkObjs, lkCells]
  refine wpS_loopS (ι := (Nat × List ByteArray) × (Nat × Nat)) (fun q => [(0, .ptr (pre.length + 2) (G.a + 2) 0), (3, .row (pre.length + 7) q.2.1 1 0 q.1.2.length), (13, .row (pre.length + 3) G.o 5 0 s.objs.length), (14, .int .i64 s.objs.length), (15, .int .i64 q.1.1)])
    (fun q => ⟨pre ++ (lkObjs pre.length base G s ++ [(q.2.1, .row 9 1 (textsR q.1.2))]), q.2.2⟩) (fun q => s.objs.length - q.1.1)
    (fun q => q.1.1 ≤ s.objs.length ∧ M = lackL s.nmap (refNames (s.objs.drop q.1.1)) q.1.2 ∧ q.1.2.length + (refNames (s.objs.drop q.1.1)).length ≤ (refNames s.objs).length) ((0, []), (nx, nx + 1)) ⟨Nat.zero_le _, hM.symm, by simp⟩
    (Sim.after (Sim.nil_env 3 9 (sz := 1) (by omega) (by simp)) (Sim.of_le (Env.le_of (by simp)) (Mem.le_of rfl (by simp [lkObjs, lkCells, textsR])))) ?_
  intro ⟨⟨i, ms⟩, ⟨g, ny⟩⟩ ⟨hi, hall, hml⟩
  simp only at hi hall hml
  have hw : IntKind.i64.wrap (i + 1) = i + 1 := wrap64 (by omega) (by omega)
  simp
  refine br_cond rfl (fun h => ?_) (fun h => ?_)
  · have hlt : i < s.objs.length := by have := ltI_t.1 h; omega
    have hos := (hs.fit _ (ix_mem hlt)).small
    have hrl := hos.refs
    have hrn : refNames (s.objs.drop i) = (ix s.objs i).refs.map (·.name) ++ refNames (s.objs.drop (i + 1)) := by rw [drop_ix hlt]; rfl
    rw [hrn] at hall
    rw [hrn, List.length_append, List.length_map] at hml
    simp [h, idxM, lkObjs, lkCells, deck_take]
    generalize hoi : ix s.objs i = o at *
    simp [Deck.av]
    refine wpS_loopS (ι := (Nat × List ByteArray) × (Nat × Nat)) (fun q => [(0, .ptr (pre.length + 2) (G.a + 2) 0), (3, .row (pre.length + 7) q.2.1 1 0 q.1.2.length), (13, .row (pre.length + 3) G.o 5 0 s.objs.length), (14, .int .i64 s.objs.length), (15, .int .i64 i), (20, .list true 3 (o.refs.map DRef.av)), (21, .int .i64 o.refs.length), (22, .int .i64 q.1.1)])
      (fun q => ⟨pre ++ (lkObjs pre.length base G s ++ [(q.2.1, .row 9 1 (textsR q.1.2))]), q.2.2⟩) (fun q => o.refs.length - q.1.1)
      (fun q => q.1.1 ≤ o.refs.length ∧ M = lackL s.nmap ((o.refs.drop q.1.1).map (·.name) ++ refNames (s.objs.drop (i + 1))) q.1.2 ∧ q.1.2.length + ((o.refs.length - q.1.1) + (refNames (s.objs.drop (i + 1))).length) ≤ (refNames s.objs).length) ((0, ms), (g, ny + 1)) ⟨Nat.zero_le _, hall, by simp only [Nat.sub_zero]; exact hml⟩
      (Sim.of_le (Env.le_of (by simp)) (Mem.le_of rfl (by simp [lkObjs, lkCells]))) ?_
    clear hall hml
    intro ⟨⟨k, ms⟩, ⟨g, ny⟩⟩ ⟨hk, hka, hml⟩
    simp only at hk hka hml
    have hwk : IntKind.i64.wrap (k + 1) = k + 1 := wrap64 (by omega) (by omega)
    have b1 : (ms.length + 1) * 16 ≤ 140737488355328 ∧ ms.length + 1 ≤ 9223372036854775807 := ⟨by omega, by omega⟩
    simp
    refine br_cond rfl (fun h2 => ?_) (fun h2 => ?_)
    · have hlk : k < o.refs.length := by have := ltI_t.1 h2; omega
      rw [drop_ix hlk, List.map_cons, List.cons_append, lackL] at hka
      generalize hri : ix o.refs k = r at *
      cases hz : outerF s.nmap r.name with
      | some v =>
        rw [hz] at hka
        simp [h2, idxM, hri, DRef.av, lkObjs, lkCells, hz, hwk]
        exact ⟨k + 1, ms, ⟨by omega, by rw [← List.map_drop]; exact hka, by omega⟩, by omega, g, ny + 1, Sim.of_le (Env.le_of (by simp)) (Mem.le_of rfl (by simp [lkObjs, lkCells]))⟩
      | none =>
        rw [hz] at hka
        simp only [Option.isSome_none, Bool.false_eq_true, if_false] at hka
        simp [h2, idxM, hri, DRef.av, lkObjs, lkCells, hz, hwk]
        refine xcall_p (call80 false ms r.name (by omega)) (by simp [textsR]) ?_
        cases hc : ms.any (fun s => eqS r.name s) with
        | true =>
          rw [hc, if_pos rfl] at hka
          simp [hwk]
          exact ⟨k + 1, ms, ⟨by omega, by rw [← List.map_drop]; exact hka, by omega⟩, by omega, g, ny + 1, Sim.of_le (Env.le_of (by simp)) (Mem.le_of rfl (by simp [lkObjs, lkCells]))⟩
        | false =>
          rw [hc, if_neg (by simp)] at hka
          simp [hwk, appendA, b1, List.range_succ, textsR]
          exact ⟨k + 1, ms ++ [r.name], ⟨by omega, by rw [← List.map_drop]; exact hka, by simp; omega⟩, by omega, ny + 1 + 1, ny + 1 + 1 + 1, Sim.of_le (Env.le_of (by simp)) (Mem.le_of rfl (by simp [lkObjs, lkCells, textsR]))⟩
    · have hkl : k = o.refs.length := by have := ltI_f.1 h2; omega
      rw [hkl, List.drop_length, List.map_nil, List.nil_append] at hka
      simp [h2, hw]
      exact ⟨i + 1, ms, ⟨by omega, hka, by omega⟩, by omega, g, ny, Sim.of_le (Env.le_of (by simp)) (Mem.le_of rfl (by simp [lkObjs, lkCells]))⟩
  · have hil : i = s.objs.length := by have := ltI_f.1 h; omega
    rw [hil, List.drop_length] at hall
    have hM2 : M = ms := hall
    subst hM2
    simp [h, cr55]
    exact ⟨_, Mem.le_refl _, _, rfl⟩

def takesL (own : List ByteArray) (name : ByteArray) (o : Deck) : Bool := !hasS own o.name && (linkDefs o).any fun d => eqS d.name name
def findIn (own : List ByteArray) (name : ByteArray) (l : List Deck) : Option Deck := l.find? (takesL own name)
def foundL (own : List ByteArray) (libs : List (List Deck)) (name : ByteArray) : Option Deck := findIn own name libs.flatten
theorem findIn_cons {own : List ByteArray} {name : ByteArray} {o : Deck} {l : List Deck} : findIn own name (o :: l) = if (!hasS own o.name && (linkDefs o).any fun d => eqS d.name name) = true then some o else findIn own name l := by
  unfold findIn
  rw [List.find?_cons]
  show (match takesL own name o with | true => _ | false => _) = _
  unfold takesL
  cases (!hasS own o.name && (linkDefs o).any fun d => eqS d.name name) <;> rfl

theorem norefL_deckOr (o : Option Deck) : norefL (deckOr o) = true := by
  cases o with
  | none => simp [deckOr]
  | some o => exact norefL_deck o
@[simp] theorem deckOr_len (o : Option Deck) : (deckOr o).length = 5 := by cases o <;> simp [deckOr]

set_option maxHeartbeats 4000000 in
theorem call56 (pre : List (Nat × AObj)) (base : Int) (G : LG) (s : LSt) (x : Nat × AObj) (nx : Nat) (q : Bool) (name : ByteArray) (libs : List (List Deck)) (hb : SmallLL libs) :
    ACalls Try.prog 56 [.ptr (pre.length + 2) (G.a + 2) 0, .str name, .list q 1 (libs.map libAV)] ⟨pre ++ (lkObjs pre.length base G s ++ [x]), nx⟩ fun out m => ∃ nx', out = .ret (.tuple [.agg (deckOr (foundL s.own libs name)), .bool (foundL s.own libs name).isSome]) ∧
      m = ⟨pre ++ (lkObjs pre.length base G s ++ [x]), nx'⟩ := by
  refine ACalls.forget ?_
  refine ok56.acalls (by simp) ?_
  have hbl := hb.len
  generalize hF : foundL s.own libs name = F
  have hF' : F = findIn s.own name libs.flatten := hF.symm
  have hle : ∀ (post : List (Nat × AObj)) k, Mem.le ⟨pre ++ (lkObjs pre.length base G s ++ [x]), k⟩ ⟨pre ++ (lkObjs pre.length base G s ++ x :: post), k⟩ := fun post k => Mem.le_of rfl (by simp [lkObjs])
  simp [c56, lkObjs, lkCells]
  refine wpS_loopS (ι := Nat × Nat) (fun u => [(0, .ptr (pre.length + 2) (G.a + 2) 0), (4, .ptr (pre.length + 8) nx 0), (6, .ptr (pre.length + 9) (nx + 1) 0), (12, .list q 1 (libs.map libAV)), (13, .int .i64 libs.length), (14, .int .i64 u.1)])
    (fun u => ⟨pre ++ (lkObjs pre.length base G s ++ [x, (nx, .cells [.str name]), (nx + 1, .cells deck0)]), u.2⟩) (fun u => libs.length - u.1) (fun u => u.1 ≤ libs.length ∧ F = findIn s.own name (libs.drop u.1).flatten) (0, nx + 1 + 1) ⟨Nat.zero_le _, hF'⟩
    (Sim.of_le (Env.le_of (by simp)) (Mem.le_of rfl (by simp [lkObjs, lkCells, deck0]))) ?_
  intro ⟨i, ny⟩ ⟨hi, hall⟩
  simp only at hi hall
  have hw : IntKind.i64.wrap (i + 1) = i + 1 := wrap64 (by omega) (by omega)
  simp
  refine br_cond rfl (fun h => ?_) (fun h => ?_)
  · have hlt : i < libs.length := by have := ltI_t.1 h; omega
    rw [drop_ix hlt, List.flatten_cons] at hall
    have hsl := hb.each _ (ix_mem hlt)
    generalize hxi : ix libs i = ds at *
    have dl := hsl.len
    simp [h, idxM, hxi, libAV, decksAV]
    refine wpS_loopS (ι := Nat × Nat) (fun u => [(0, .ptr (pre.length + 2) (G.a + 2) 0), (4, .ptr (pre.length + 8) nx 0), (6, .ptr (pre.length + 9) (nx + 1) 0), (12, .list q 1 (libs.map libAV)), (13, .int .i64 libs.length), (14, .int .i64 i), (18, .list true 5 (ds.map Deck.av)), (19, .int .i64 ds.length), (20, .int .i64 u.1)])
      (fun u => ⟨pre ++ (lkObjs pre.length base G s ++ [x, (nx, .cells [.str name]), (nx + 1, .cells deck0)]), u.2⟩) (fun u => ds.length - u.1) (fun u => u.1 ≤ ds.length ∧ F = findIn s.own name (ds.drop u.1 ++ (libs.drop (i + 1)).flatten)) (0, ny) ⟨Nat.zero_le _, hall⟩
      (Sim.of_le (Env.le_of (by simp)) (Mem.le_of rfl (by simp))) ?_
    clear hall
    intro ⟨k, ny⟩ ⟨hk, hka⟩
    simp only at hk hka
    have hwk : IntKind.i64.wrap (k + 1) = k + 1 := wrap64 (by omega) (by omega)
    simp
    refine br_cond rfl (fun h2 => ?_) (fun h2 => ?_)
    · have hlk : k < ds.length := by have := ltI_t.1 h2; omega
      have hos := hsl.each _ (ix_mem hlk)
      rw [drop_ix hlk, List.cons_append, findIn_cons] at hka
      generalize hoi : ix ds k = o at *
      cases hy : hasS s.own o.name with
      | true =>
        rw [hy] at hka
        rw [if_neg (by simp)] at hka
        simp [h2, idxM, hoi, lkObjs, lkCells, deck0, Deck.av, hy, hwk]
        exact ⟨k + 1, ⟨by omega, hka⟩, by omega, ny + 1, Sim.of_le (Env.le_of (by simp)) (Mem.le_of rfl (by simp [lkObjs, lkCells, deck0]))⟩
      | false =>
        rw [hy, Bool.not_false, Bool.true_and] at hka
        simp [h2, idxM, hoi, lkObjs, lkCells, deck0, Deck.av, hy, hwk]
        refine xdcall_p rfl (call54 o hos) (by simp [Deck.av]) ?_
        simp
        have hdl := linkDefs_len o
        have hod := hos.defs
        refine xdcall_p rfl (call78 true (linkDefs o) 81 [.iptr false [.str name]] (fun d => eqS d.name name) (by omega) (by simp) (by simp) (fun d => call81 d name false)) (by simp) ?_
        rw [index_any]
        cases ha : (linkDefs o).any (fun d => eqS d.name name) with
        | true =>
          rw [ha, if_pos rfl] at hka
          subst hka
          simp [cr56, deckOr, Deck.av]
          exact ⟨_, hle _ _, _, rfl⟩
        | false =>
          rw [ha, if_neg (by simp)] at hka
          simp [hwk]
          exact ⟨k + 1, ⟨by omega, hka⟩, by omega, ny + 1, Sim.of_le (Env.le_of (by simp)) (Mem.le_of rfl (by simp [lkObjs, lkCells, deck0]))⟩
    · have hkl : k = ds.length := by have := ltI_f.1 h2; omega
      rw [hkl, List.drop_length, List.nil_append] at hka
      simp [h2, hw]
      exact ⟨i + 1, ⟨by omega, hka⟩, by omega, ny, Sim.of_le (Env.le_of (by simp)) (Mem.le_of rfl (by simp))⟩
  · have hil : i = libs.length := by have := ltI_f.1 h; omega
    rw [hil, List.drop_length] at hall
    have hF2 : F = none := hall
    subst hF2
    simp [h, lkObjs, deck0, cr56]
    exact ⟨_, hle _ _, rfl, _, rfl⟩
end Go.Pm
