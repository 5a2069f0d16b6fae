/- LkC16: contracts: slices.Grow and slices.Concat of objects; whether all are valid, as the linker says it. -/
import Derived.Test.YtolfkdphlgkekaaMb
import Derived.Test.YtolfkdphlgkekaaLkS7
namespace Go.Pm
open Go Go.Proofs
attribute [-simp] List.getElem?_map

def deck0 : List AV := [.str ⟨#[]⟩, .str ⟨#[]⟩, .nilS, .nilS, .nilS]

theorem call77 (n : Nat) (m : Mem) (h0 : 0 < n) (hn : n ≤ 4000000) : ACalls Try.prog 77 [.nilS, .int .i64 n] m fun out m' => out = .ret (.row m.store.length m.next 5 0 0) ∧ m' = m.new (.row 51 5 (List.replicate n deck0)) := by
  refine ok77.acalls (by simp) ?_
  have hw : IntKind.i64.wrap n = n := wrap64 (by omega) (by omega)
  have hz : IntKind.i64.wrap 0 = 0 := wrap64 (by omega) (by omega)
  have hf : ltI n 0 = false := ltI_f.2 (by omega)
  have ht : ltI 0 n = true := ltI_t.2 (by omega)
  have hb : (n * 104 ≤ 140737488355328 ∧ (n : Int) ≤ 9223372036854775807) := ⟨by omega, by omega⟩
  simp [c77, cr77, hw, hz, hf, ht, hb, h0, deck0, sliceA, boundsA]

theorem call77z (n : Nat) (m : Mem) (h0 : n = 0) : ACalls Try.prog 77 [.nilS, .int .i64 n] m fun out m' => out = .ret .nilS ∧ m' = m := by
  subst h0
  refine ok77.acalls (by simp) ?_
  have hz : IntKind.i64.wrap 0 = 0 := wrap64 (by omega) (by omega)
  have hf : ltI 0 0 = false := ltI_f.2 (by omega)
  simp [c77, cr77, hf, hz]

def libP (x : Bool × List Deck) : List AV := [.list x.1 5 (x.2.map Deck.av)]
def allOf (xs : List (Bool × List Deck)) : List Deck := (xs.map (·.2)).flatten

@[simp] theorem noref_libP : ∀ xs : List (Bool × List Deck), norefLL (xs.map libP) = true
  | [] => rfl
  | x :: xs => by simp only [List.map_cons, norefLL, noref_libP xs, libP, norefL, AV.noref, noref_decks, Bool.and_self]

theorem allOf_take (xs : List (Bool × List Deck)) {i : Nat} (h : i < xs.length) : allOf (xs.take (i + 1)) = allOf (xs.take i) ++ (ix xs i).2 := by
  unfold allOf
  rw [List.take_add_one, List.map_append, List.flatten_append]
  congr 1
  simp [h, ix, List.getD]
theorem allOf_le (xs : List (Bool × List Deck)) (i : Nat) : (allOf (xs.take i)).length ≤ (allOf xs).length := by
  have : allOf xs = allOf (xs.take i) ++ allOf (xs.drop i) := by
    unfold allOf
    rw [← List.flatten_append, ← List.map_append, List.take_append_drop]
  rw [this, List.length_append]; omega
theorem cat_append (A B : List Deck) (n g nx : Nat) (q : Bool) (h : A.length + B.length ≤ n) (hn : n ≤ 4000000) :
    ∃ g' nx', appendA 51 5 104 ⟨[(g, .row 51 5 (A.map Deck.av ++ List.replicate (n - A.length) deck0))], nx⟩ (.row 0 g 5 0 A.length) (.list q 5 (B.map Deck.av))
      = some (.row 0 g' 5 0 (A ++ B).length, ⟨[(g', .row 51 5 ((A ++ B).map Deck.av ++ List.replicate (n - (A ++ B).length) deck0))], nx'⟩) := by
  have hlen : (A.map Deck.av ++ List.replicate (n - A.length) deck0).length = n := by simp; omega
  by_cases hA : A.length = n
  · have hB : B = [] := List.eq_nil_of_length_eq_zero (by omega)
    subst hB
    refine ⟨nx, nx + 1, ?_⟩
    unfold appendA
    simp only [elsOf, Mem.obj, if_true, List.getElem?_cons_zero, hlen]
    rw [if_pos ⟨trivial, trivial, trivial, trivial, hA, by simp; omega, by simp; omega⟩]
    simp [Mem.turn]
  · refine ⟨g, nx, ?_⟩
    unfold appendA
    simp only [elsOf, Mem.obj, if_true, List.getElem?_cons_zero, hlen]
    rw [if_neg (fun h => hA h.2.2.2.2.1), if_pos ⟨trivial, trivial, trivial, trivial, by simp; omega⟩]
    have e1 : (A.map Deck.av ++ List.replicate (n - A.length) deck0).take A.length = A.map Deck.av := List.take_left' (by simp)
    have e2 : (A.map Deck.av ++ List.replicate (n - A.length) deck0).drop (A.length + (B.map Deck.av).length) = List.replicate (n - (A ++ B).length) deck0 := by
      rw [← List.drop_drop, List.drop_left' (by simp), List.drop_replicate]
      congr 1
      simp; omega
    rw [e1, e2]
    simp [Mem.put]

theorem call51 (p : Bool) (xs : List (Bool × List Deck)) (hl : xs.length ≤ 4000000) (hs : (allOf xs).length ≤ 4000000) :
    PCalls Try.prog 51 [.list p 1 (xs.map libP)] fun out => out = .ret (.list true 5 ((allOf xs).map Deck.av)) := by
  refine ok51.pcalls (by simp) ?_
  simp [c51]
  refine wpS_loop (ι := Nat) (fun i => [(0, .list p 1 (xs.map libP)), (3, .int .i64 (allOf (xs.take i)).length), (9, .list p 1 (xs.map libP)), (10, .int .i64 xs.length), (11, .int .i64 i)]) (fun _ => ⟨[], 0⟩) (fun i => xs.length - i)
    (fun i => i ≤ xs.length) 0 (by simp) (Env.le_of (by simp [allOf])) (by simp) ?_
  intro i hi
  have hw : IntKind.i64.wrap (i + 1) = i + 1 := wrap64 (by omega) (by omega)
  simp
  refine br_cond rfl (fun h => ?_) (fun h => ?_)
  · have hlt : i < xs.length := by have := ltI_t.1 h; omega
    have e1 := allOf_take xs hlt
    have e2 := allOf_le xs (i + 1)
    have e3 : (allOf (xs.take (i + 1))).length = (allOf (xs.take i)).length + (ix xs i).2.length := by rw [e1, List.length_append]
    have hws : IntKind.i64.wrap ((allOf (xs.take i)).length + (ix xs i).2.length) = (allOf (xs.take (i + 1))).length := by rw [e3]; rw [wrap64 (by omega) (by omega)]; simp
    have hneg : ltI (allOf (xs.take (i + 1))).length 0 = false := ltI_f.2 (by omega)
    simp [h, idxM, libP, hws, hneg, hw]
    exact ⟨i + 1, by omega, by omega, Env.le_of (by simp), Mem.le_of rfl (by simp)⟩
  · have hil : i = xs.length := by have := ltI_f.1 h; omega
    subst hil
    rw [List.take_length]
    simp [h]
    generalize hn : (allOf xs).length = n at *
    have step : ∀ fs Q, (∀ g nx, wpS Try.prog Lk.imp .skip fs Q [(0, .list p 1 (xs.map libP)), (6, .row 0 g 5 0 n)] ⟨[(g, .row 51 5 ((allOf xs).map Deck.av))], nx⟩) → True := fun _ _ _ => trivial
    have loop2 : ∀ (e : Env) (m : Mem) a fs Q, Sim [(6, .row 0 0 5 0 0), (25, .list p 1 (xs.map libP)), (26, .int .i64 xs.length), (27, .int .i64 0)] ⟨[(0, .row 51 5 (List.replicate n deck0))], 1⟩ e m →
        (∀ i g nx, i ≤ xs.length → wpS Try.prog Lk.imp a (.loop (fun e m => ∃ s' : Nat × Nat × Nat, s'.1 ≤ xs.length ∧ xs.length - s'.1 < xs.length - i ∧ Sim [(6, .row 0 s'.2.1 5 0 (allOf (xs.take s'.1)).length), (25, .list p 1 (xs.map libP)), (26, .int .i64 xs.length), (27, .int .i64 s'.1)]
          ⟨[(s'.2.1, .row 51 5 ((allOf (xs.take s'.1)).map Deck.av ++ List.replicate (n - (allOf (xs.take s'.1)).length) deck0))], s'.2.2⟩ e m) :: fs) Q [(6, .row 0 g 5 0 (allOf (xs.take i)).length), (25, .list p 1 (xs.map libP)), (26, .int .i64 xs.length), (27, .int .i64 i)]
          ⟨[(g, .row 51 5 ((allOf (xs.take i)).map Deck.av ++ List.replicate (n - (allOf (xs.take i)).length) deck0))], nx⟩) → wpS Try.prog Lk.imp (.loop a) fs Q e m := by
      intro e m a fs Q hsim hstep
      exact wpS_loopS (ι := Nat × Nat × Nat) (fun s => [(6, .row 0 s.2.1 5 0 (allOf (xs.take s.1)).length), (25, .list p 1 (xs.map libP)), (26, .int .i64 xs.length), (27, .int .i64 s.1)])
        (fun s => ⟨[(s.2.1, .row 51 5 ((allOf (xs.take s.1)).map Deck.av ++ List.replicate (n - (allOf (xs.take s.1)).length) deck0))], s.2.2⟩) (fun s => xs.length - s.1) (fun s => s.1 ≤ xs.length) (0, 0, 1) (Nat.zero_le _) (by simpa [allOf] using hsim) (fun s hs => hstep s.1 s.2.1 s.2.2 hs)
    rcases Nat.eq_zero_or_pos n with h0 | h0
    refine xcall_a (call77z n _ h0) ?_
    simp
    refine loop2 _ _ _ _ _ (by rw [h0]; exact Sim.trans (Sim.of_le (Env.le_of (by simp)) (Mem.le_of rfl (by simp))) (Sim.nil_env 6 51 (sz := 5) (by omega) (by simp))) ?_
    rotate_left
    refine xcall_a (call77 n _ h0 hs) ?_
    simp
    refine loop2 _ _ _ _ _ (Sim.of_le (Env.le_of (by simp)) (Mem.le_of rfl (by simp))) ?_
    all_goals clear step loop2
    all_goals intro i g nx hi
    all_goals have hw : IntKind.i64.wrap (i + 1) = i + 1 := wrap64 (by omega) (by omega)
    all_goals simp
    all_goals refine br_cond rfl (fun h => ?_) (fun h => ?_)
    all_goals simp [h]
    iterate 2
      · have hlt : i < xs.length := by have := ltI_t.1 h; omega
        have e1 := allOf_take xs hlt
        have e2 := allOf_le xs (i + 1)
        rw [e1, List.length_append] at e2
        obtain ⟨g', nx', ha⟩ := cat_append (allOf (xs.take i)) (ix xs i).2 n g nx (ix xs i).1 (by omega) hs
        simp [h, idxM, libP, ha, hw]
        exact ⟨i + 1, by omega, by omega, g', nx', Sim.of_le (Env.le_of (by simp [e1])) (Mem.le_of rfl (by simp [e1]))⟩
      · have hil : i = xs.length := by have := ltI_f.1 h; omega
        subst hil
        rw [List.take_length, hn]
        simp [cr51, ← hn]

theorem all_mid {α : Type} [Inhabited α] {p : α → Bool} {l : List α} {i : Nat} (h : i < l.length) (hf : p (ix l i) = false) : l.all p = false := by
  cases ha : l.all p with
  | false => rfl
  | true => rw [List.all_eq_true] at ha; rw [ha _ (ix_mem h)] at hf; cases hf

theorem call23 (p q : Bool) (l : List Deck) (libs : List (List Deck)) (hl : SmallL l) (hb : SmallLL libs) (hlib : libs.length ≤ 2000000) (hsum : l.length + libs.flatten.length ≤ 2000000) :
    PCalls Try.prog 23 [.list p 5 (l.map Deck.av), .list q 1 (libs.map libAV)] fun out => out = .ret (.bool (allF l libs)) := by
  refine ok23.pcalls (by simp) ?_
  have hc : (1 + libs.length) * 24 ≤ 140737488355328 ∧ 1 + libs.length ≤ 9223372036854775807 := ⟨by omega, by omega⟩
  obtain ⟨xs, hxs⟩ : ∃ xs : List (Bool × List Deck), xs = (p, l) :: libs.map fun x => (true, x) := ⟨_, rfl⟩
  have hx1 : [AV.list p 5 (l.map Deck.av)] :: libs.map libAV = xs.map libP := by
    rw [hxs, List.map_cons, List.map_map]; rfl
  have hx2 : allOf xs = l ++ libs.flatten := by
    rw [hxs]
    unfold allOf
    rw [List.map_cons, List.flatten_cons, List.map_map]
    congr 2
    exact List.map_id _
  have hxl : xs.length = 1 + libs.length := by rw [hxs]; simp; omega
  have hall : allF l libs = (l ++ libs.flatten).all deckOk := by
    unfold allF
    rw [List.all_append]
    congr 1
    induction libs with
    | nil => rfl
    | cons x libs ih => simp [List.all_append] at ih ⊢
  have hds : ∀ o ∈ l ++ libs.flatten, o.Small := by
    intro o ho
    rcases List.mem_append.1 ho with ho | ho
    · exact hl.each o ho
    · obtain ⟨x, hx, ho⟩ := List.mem_flatten.1 ho
      exact (hb.each x hx).each o ho
  simp [c23, appendA, hc, List.range_succ]
  rw [hx1, show 1 + libs.length = xs.length from hxl.symm]
  refine xcall_p (call51 false xs (by omega) (by rw [hx2, List.length_append]; omega)) (by simp) ?_
  rw [hx2]
  rw [hall]
  have hdl : (l ++ libs.flatten).length ≤ 2000000 := by rw [List.length_append]; exact hsum
  generalize hd : l ++ libs.flatten = ds at *
  simp
  refine wpS_loopS (ι := Nat × Nat) (fun s => [(11, .list true 5 (ds.map Deck.av)), (12, .int .i64 ds.length), (13, .int .i64 s.1)]) (fun s => ⟨[], s.2⟩) (fun s => ds.length - s.1)
    (fun s => s.1 ≤ ds.length ∧ ds.all deckOk = (ds.drop s.1).all deckOk) (0, 2) (by simp) (Sim.of_le (Env.le_of (by simp)) (Mem.le_of rfl (by simp))) ?_
  intro ⟨i, nx⟩ ⟨hi, hia⟩
  simp only at hi hia
  have hw : IntKind.i64.wrap (i + 1) = i + 1 := wrap64 (by omega) (by omega)
  simp
  refine br_cond rfl (fun h => ?_) (fun h => ?_)
  · have hlt : i < ds.length := by have := ltI_t.1 h; omega
    rw [drop_ix hlt, List.all_cons] at hia
    simp [h, idxM, deck_take]
    refine xcall_p (call52 (ix ds i) (hds _ (ix_mem hlt))) (by simp) ?_
    simp
    refine br_cond rfl (fun h1 => ?_) (fun h1 => ?_)
    · have h1' : deckOk (ix ds i) = false := by simpa using h1
      rw [h1'] at hia
      simp [cr23, hia]
    · have h1' : deckOk (ix ds i) = true := by simpa using h1
      rw [h1', Bool.true_and] at hia
      simp [hw]
      exact ⟨i + 1, ⟨by omega, hia⟩, by omega, nx + 1, Sim.of_le (Env.le_of (by simp)) (Mem.le_of rfl (by simp))⟩
  · have hil : i = ds.length := by have := ltI_f.1 h; omega
    rw [hil, List.drop_length] at hia
    simp [h, cr23, hia]
end Go.Pm
