/- LkC19: contracts: what is needed of libraries is put behind the others. -/
import Derived.Test.YtolfkdphlgkekaaLkC18
namespace Go.Pm
open Go Go.Proofs
attribute [-simp] List.getElem?_map

theorem ACalls.of_le {P : Program} {f : FuncId} {xs : List AV} {m1 m : Mem} {R : AOut → Mem → Prop} (hle : Mem.le m1 m) (h : ACalls P f xs m1 R) : ACalls P f xs m R := by
  refine ⟨h.1, fun β K σ w vals hrel hv => h.2 β K σ w vals ?_ hv⟩
  obtain ⟨h1, n, h2⟩ := hle
  have : m1 = ⟨m.store.take n, m.next⟩ := by cases m1; simp only at h1 h2; rw [h1, h2]
  rw [this]
  exact hrel.forget n

theorem xcall_r {P : Program} {imp : List FuncId} {Q : Post} {e : Env} {m : Mem} {fs : List Fr} {l : List SOp} {d : List Nat} {dst : Option Nat} {f : FuncId} {xs : List AV} {R : AOut → Mem → Prop} (h : ACalls P f xs m R)
    (hr : ∀ v m', R (.ret v) m' → xops P imp l d fs Q (e.put dst v) m') (hp : ∀ v m', R (.panic v) m' → lv P imp (.panic v) fs Q e m') : xcall P imp f xs dst l d fs Q e m := by
  refine ⟨R, h, fun out m' hR => ?_⟩
  cases out with
  | ret v => exact (hr v m' hR).out
  | panic v => exact (hp v m' hR).out

/-- The first name for which there is an object. -/
def firstL (own : List ByteArray) (libs : List (List Deck)) : List ByteArray → Option Deck
  | [] => none
  | n :: ns => match foundL own libs n with
    | some o => some o
    | none => firstL own libs ns
def awayL (libs : List (List Deck)) (own : List ByteArray) : Nat := (libs.flatten.filter fun o => !hasS own o.name).length
def neededL (libs : List (List Deck)) : Nat → LSt → LSt × List ByteArray
  | 0, s => (s, [])
  | n + 1, s => match firstL s.own libs (lackL s.nmap (refNames s.objs) []) with
    | none => (s, lackL s.nmap (refNames s.objs) [])
    | some o => neededL libs n (putNF s o)

theorem hasS_addS {l : List ByteArray} {s x : ByteArray} : hasS (addS l s) x = (hasS l x || eqS s x) := by
  unfold addS
  split
  · rename_i h
    cases hx : eqS s x with
    | false => simp
    | true => rw [← eqS_t.1 hx, h]; simp
  · simp [hasS]
theorem firstL_mem {own : List ByteArray} {libs : List (List Deck)} {o : Deck} : ∀ {ms : List ByteArray}, firstL own libs ms = some o → o ∈ libs.flatten ∧ hasS own o.name = false
  | [], h => by simp [firstL] at h
  | n :: ns, h => by
    unfold firstL at h
    split at h
    · rename_i o' ho
      injection h with h; subst h
      unfold foundL findIn at ho
      have hm := List.mem_of_find?_eq_some ho
      have ht := List.find?_some ho
      simp only [takesL, Bool.and_eq_true, Bool.not_eq_true'] at ht
      exact ⟨hm, ht.1⟩
    · exact firstL_mem h
theorem awayL_less {libs : List (List Deck)} {own : List ByteArray} {o : Deck} (hm : o ∈ libs.flatten) (h : hasS own o.name = false) : awayL libs (addS own o.name) < awayL libs own := by
  refine filter_lt (o := o) (fun x hx => ?_) (by rw [h]; rfl) (by rw [hasS_addS, eqS_t.2 rfl]; simp) hm
  rw [hasS_addS, Bool.not_or, Bool.and_eq_true] at hx
  exact hx.1

theorem lackL_len (nm : List DDef) : ∀ (ns ms : List ByteArray), (lackL nm ns ms).length ≤ ms.length + ns.length
  | [], ms => by simp [lackL]
  | n :: ns, ms => by
    rw [lackL]
    have h1 := lackL_len nm ns ms
    have h2 := lackL_len nm ns (ms ++ [n])
    simp only [List.length_append, List.length_cons, List.length_nil] at h1 h2 ⊢
    split
    · omega
    · split <;> omega

set_option maxHeartbeats 4000000 in
theorem call28 (pre : List (Nat × AObj)) (base : Int) (G0 : LG) (s0 : LSt) (nx0 : Nat) (q : Bool) (libs : List (List Deck)) (hb : SmallLL libs) (hfit : ∀ o ∈ libs.flatten, o.Fit) (hs0 : s0.Small) (hsum : s0.objs.length + libs.flatten.length ≤ 2000000) :
    ACalls Try.prog 28 [.ptr (pre.length + 2) (G0.a + 2) 0, .list q 1 (libs.map libAV)] ⟨pre ++ lkObjs pre.length base G0 s0, nx0⟩ fun out m => ∃ o' n' d' l' g nx', (neededL libs (libs.flatten.length + 1) s0).1.Small ∧
      out = .ret (.row (pre.length + 7) g 1 0 (neededL libs (libs.flatten.length + 1) s0).2.length) ∧
      m = ⟨pre ++ (lkObjs pre.length base ⟨G0.a, o', n', d', l'⟩ (neededL libs (libs.flatten.length + 1) s0).1 ++ [(g, .row 9 1 (textsR (neededL libs (libs.flatten.length + 1) s0).2))]), nx'⟩ := by
  refine ACalls.forget ?_
  refine ok28.acalls (by simp) ?_
  have haw : ∀ own, awayL libs own ≤ libs.flatten.length := fun own => List.length_filter_le _ _
  generalize hN : neededL libs (libs.flatten.length + 1) s0 = N
  simp [c28]
  refine wpS_loopS (ι := (Nat × LSt) × (LG × Nat)) (fun u => [(0, .ptr (pre.length + 2) (G0.a + 2) 0), (1, .list q 1 (libs.map libAV))]) (fun u => ⟨pre ++ lkObjs pre.length base u.2.1 u.1.2, u.2.2⟩) (fun u => u.1.1)
    (fun u => N = neededL libs u.1.1 u.1.2 ∧ awayL libs u.1.2.own < u.1.1 ∧ u.1.2.Small ∧ u.1.2.objs.length + awayL libs u.1.2.own ≤ 2000000 ∧ u.2.1.a = G0.a) ((libs.flatten.length + 1, s0), (G0, nx0))
    ⟨hN.symm, by have := haw s0.own; simp only; omega, hs0, by have := haw s0.own; simp only; omega, rfl⟩ (Sim.of_le (Env.le_of (by simp)) (Mem.le_of rfl (by simp))) ?_
  intro ⟨⟨n, s⟩, ⟨G, nx⟩⟩ ⟨hall, haw1, hs, hlen, hGa⟩
  simp only at hall haw1 hs hlen hGa
  obtain ⟨n, rfl⟩ : ∃ n', n = n' + 1 := ⟨n - 1, by omega⟩
  rw [neededL] at hall
  have c55 := call55 pre base G s nx hs
  rw [hGa] at c55
  generalize hM : lackL s.nmap (refNames s.objs) [] = M at *
  have hmlen : M.length ≤ 3000000000000 := by
    rw [← hM]
    have h1 := lackL_len s.nmap (refNames s.objs) []
    have h2 := refs_max (l := s.objs) ⟨hs.objs, fun o ho => (hs.fit o ho).small⟩
    simp only [List.length_nil, Nat.zero_add] at h1
    omega
  simp
  refine xcall_r c55 ?_ (by rintro v m' ⟨_, _, h, _⟩; cases h)
  rintro v m' ⟨g, ny, hv, rfl⟩
  injection hv with hv; subst hv
  simp
  refine wpS_loopS (ι := Nat × Nat) (fun u => [(0, .ptr (pre.length + 2) (G0.a + 2) 0), (1, .list q 1 (libs.map libAV)), (5, .row (pre.length + 7) g 1 0 M.length), (12, .row (pre.length + 7) g 1 0 M.length), (13, .int .i64 M.length), (14, .int .i64 u.1)])
    (fun u => ⟨pre ++ (lkObjs pre.length base G s ++ [(g, .row 9 1 (textsR M))]), u.2⟩) (fun u => M.length - u.1) (fun u => u.1 ≤ M.length ∧ firstL s.own libs M = firstL s.own libs (M.drop u.1)) (0, ny) ⟨Nat.zero_le _, rfl⟩
    (Sim.of_le (Env.le_of (by simp)) (Mem.le_of rfl (by simp))) ?_
  intro ⟨i, nz⟩ ⟨hi, hfi⟩
  simp only at hi hfi
  have hw : IntKind.i64.wrap (i + 1) = i + 1 := wrap64 (by omega) (by omega)
  simp
  refine br_cond rfl (fun h => ?_) (fun h => ?_)
  · have hlt : i < M.length := by have := ltI_t.1 h; omega
    rw [drop_ix hlt, firstL] at hfi
    have c56 := call56 pre base G s (g, .row 9 1 (textsR M)) nz q (ix M i) libs hb
    rw [hGa] at c56
    generalize hnm : ix M i = nm at *
    have hel : (textsR M)[i]? = some [.str nm] := by unfold textsR; rw [idxM h, hnm]
    have hob : (lkObjs pre.length base G s ++ [(g, AObj.row 9 1 (textsR M))])[7]? = some (g, .row 9 1 (textsR M)) := rfl
    simp [h, hob, hel]
    refine xcall_r c56 ?_ (by rintro v m' ⟨_, h, _⟩; cases h)
    rintro v m' ⟨nz', hv, rfl⟩
    injection hv with hv; subst hv
    cases hfo : foundL s.own libs nm with
    | none =>
      rw [hfo] at hfi
      simp only at hfi
      simp [deckOr, hw]
      exact ⟨i + 1, ⟨by omega, hfi⟩, by omega, nz' + 1, Sim.of_le (Env.le_of (by simp)) (Mem.le_of rfl (by simp [lkObjs]))⟩
    | some o =>
      rw [hfo] at hfi
      simp only at hfi
      obtain ⟨hmem, hown⟩ := firstL_mem hfi
      have hof := hfit o hmem
      rw [hfi] at hall
      simp only at hall
      have hless := awayL_less hmem hown
      have hob2 : (lkObjs pre.length base G s ++ [(g, AObj.row 9 1 (textsR M)), (nz', AObj.cells o.av)])[8]? = some (nz', .cells o.av) := rfl
      have hpf := putL_false s o
      have hsm := putL_small hs hof (by omega) hpf
      obtain ⟨e1, e2, _⟩ := putL_same hpf
      simp [deckOr, Deck.av]
      have c27 := call27 pre base G s o false (nz' + 1) hs hof
      rw [hGa] at c27
      refine xcall_r (R := put27 pre base G false s o) (ACalls.of_le (m1 := ⟨pre ++ lkObjs pre.length base G s, nz' + 1⟩) (Mem.le_of rfl (by simp [lkObjs])) (by exact c27)) ?_ (by intro v m' h; unfold put27 at h; rw [hpf] at h; obtain ⟨h, _⟩ := h; cases h)
      intro v m' hput
      unfold put27 at hput
      rw [hpf] at hput
      obtain ⟨_, o', n', d', l', nx', rfl⟩ := hput
      simp
      exact ⟨n, putNF s o, ⟨G.a, o', n', d', l'⟩, ⟨hall, by rw [e2]; omega, hsm, by rw [e1, e2, List.length_append]; simp only [List.length_singleton]; omega, hGa⟩, by omega, nx', Sim.of_le (Env.le_of (by simp)) (Mem.le_of rfl (by simp))⟩
  · have hil : i = M.length := by have := ltI_f.1 h; omega
    rw [hil, List.drop_length] at hfi
    have hf0 : firstL s.own libs M = none := hfi
    rw [hf0] at hall
    simp only at hall
    subst hall
    simp [h, cr28]
    refine ⟨_, Mem.le_refl _, hs, G.o, G.n, G.d, G.l, nz, ?_⟩
    rw [← hGa]
end Go.Pm
