/- BkT3: contracts: the table, all its rows; the functions' names. -/
import Derived.Test.YtmcogjekcefjoaaGreatDoorGl
import Derived.Shelf.Sort.Plain
import Derived.Test.YtmcogjekcefjoaaGreatDoorGa
import Derived.Test.YtmcogjekcefjoaaGreatDoorGj
namespace Go.Pm
open Go Go.Proofs
attribute [-simp] List.getElem?_map
attribute [simp] nilCheckA postA_norm

def tabL : List (ByteArray × RKey) := l46 (l45 (l44 []))

theorem call27N {S : List (Nat × AObj)} {nx : Nat} : ACalls Bk.pg 27 [] ⟨S, nx⟩ fun out m' => out = .ret (.map S.length nx) ∧ ∃ L' nx', m' = ⟨S ++ [(nx, .map L')], nx'⟩ ∧ TabN tabL L' := by
  refine ok27.acalls (by simp) ?_
  simp [c27]
  refine xcall_r (call44N (S := S) (g := nx) (nx := nx + 1) tabN_nil) ?_ ?_
  · rintro v m' ⟨hv, L1, n1, rfl, h1⟩
    cases hv
    simp
    refine xcall_r (call45N (S := S) (g := nx) (nx := n1) h1) ?_ ?_
    · rintro v m' ⟨hv, L2, n2, rfl, h2⟩
      cases hv
      simp
      refine xcall_r (call46N (S := S) (g := nx) (nx := n2) h2) ?_ ?_
      · rintro v m' ⟨hv, L3, n3, rfl, h3⟩
        cases hv
        simp [cr27, postA_ret]
        exact h3
      · rintro v m' ⟨hv, _⟩
        cases hv
    · rintro v m' ⟨hv, _⟩
      cases hv
  · rintro v m' ⟨hv, _⟩
    cases hv

/-- The functions' names, ascending. -/
def names31 : List ByteArray := [⟨#[65, 66, 83]⟩, ⟨#[65, 68, 68]⟩, ⟨#[66, 73, 78, 65, 82, 89]⟩, ⟨#[66, 73, 84]⟩, ⟨#[66, 79, 79, 76]⟩, ⟨#[67, 69, 73, 76]⟩, ⟨#[67, 72, 65, 82]⟩, ⟨#[67, 79, 80, 89]⟩, ⟨#[68, 69, 67, 73, 77, 65, 76]⟩, ⟨#[68, 73, 86, 73, 68, 69]⟩, ⟨#[70, 73, 88, 69, 68]⟩, ⟨#[70, 76, 79, 65, 84]⟩, ⟨#[70, 76, 79, 79, 82]⟩, ⟨#[72, 73, 71, 72]⟩, ⟨#[73, 78, 68, 69, 88]⟩, ⟨#[76, 69, 78, 71, 84, 72]⟩, ⟨#[76, 79, 87]⟩, ⟨#[77, 65, 88]⟩, ⟨#[77, 73, 78]⟩, ⟨#[77, 79, 68]⟩, ⟨#[77, 85, 76, 84, 73, 80, 76, 89]⟩, ⟨#[82, 69, 80, 69, 65, 84]⟩, ⟨#[82, 69, 86, 69, 82, 83, 69]⟩, ⟨#[82, 79, 85, 78, 68]⟩, ⟨#[83, 73, 71, 78]⟩, ⟨#[83, 84, 82, 73, 78, 71]⟩, ⟨#[83, 85, 66, 83, 84, 82]⟩, ⟨#[83, 85, 66, 84, 82, 65, 67, 84]⟩, ⟨#[84, 82, 65, 78, 83, 76, 65, 84, 69]⟩, ⟨#[84, 82, 85, 78, 67]⟩, ⟨#[86, 69, 82, 73, 70, 89]⟩]
def txR (ms : List ByteArray) : List (List AV) := ms.map fun s => [AV.str s]

theorem tabL_keys : (tabL.map Prod.fst).Perm names31 := by decide
theorem tabL_in {k : ByteArray} {r : RKey} (h : lkF tabL k = some r) : k ∈ names31 := tabL_keys.mem_iff.1 (lkF_mem h)
theorem names_in : names31.all (fun k => (lkF tabL k).isSome) = true := by decide
theorem tabL_out {k : ByteArray} (h : lkF tabL k = none) : k ∉ names31 := fun hk => by
  have := List.all_eq_true.1 names_in k hk
  rw [h] at this
  cases this

theorem call42 {m : Mem} : ACalls Bk.pg 42 [] m fun out m' => out = .ret (.row m.store.length m.next 1 0 31) ∧ m' = m.new (.row 9 1 (txR names31)) := by
  refine ok42.acalls (by simp) ?_
  simp [c42, cr42, postA_ret, Mem.new, txR, names31]
  rfl

def isN (k : ByteArray) : Bool := names31.any (· == k)

theorem eqS_tt {a b : ByteArray} : eqS a b = true ↔ a = b := by
  unfold eqS
  rw [← beq_toListBytes, beq_bytes]

theorem eqS_lit (a b : List UInt8) : eqS ⟨⟨a⟩⟩ ⟨⟨b⟩⟩ = decide (a = b) := by
  rw [Bool.eq_iff_iff, eqS_tt, decide_eq_true_eq]
  exact ⟨fun h => by injection h with h; injection h, fun h => by rw [h]⟩

theorem isN_t {k : ByteArray} : isN k = true ↔ k ∈ names31 := by
  unfold isN
  rw [List.any_eq_true]
  exact ⟨fun ⟨x, hx, he⟩ => (beq_bytes x k).1 he ▸ hx, fun h => ⟨k, h, beqB_t k⟩⟩

theorem call23 {k : ByteArray} : PCalls Bk.pg 23 [.str k] fun out => out = .ret (.bool (isN k)) := by
  refine ok23.pcalls (by simp) ?_
  simp [c23]
  refine xcall_a call42 ?_
  simp [Mem.new, Mem.empty]
  refine wpS_loopS (ι := Nat) (fun i => [(0, .str k), (3, .row 0 0 1 0 31), (4, .int .i64 (i : Nat))]) (fun _ => ⟨[(0, .row 9 1 (txR names31))], 1⟩) (fun i => 31 - i) (fun i => i ≤ 31 ∧ ∀ j < i, names31[j]? ≠ some k) 0 ⟨by omega, fun j hj => by omega⟩ (Sim.of_le (Env.le_of (by simp)) (Mem.le_of rfl (by simp))) ?_
  rintro i ⟨hi, hno⟩
  have hwi : IntKind.i64.wrap ((i : Int) + 1) = (i : Int) + 1 := wrap64 (by omega) (by omega)
  have hlen : names31.length = 31 := rfl
  simp
  refine br_cond rfl (fun h1 => ?_) (fun h1 => ?_)
  · have hlt : i < 31 := by have := ltI_t.1 h1; omega
    obtain ⟨n, hn⟩ : ∃ n, names31[i]? = some n := ⟨_, List.getElem?_eq_getElem (by omega)⟩
    have ht : (txR names31)[i]? = some [.str n] := by unfold txR; rw [List.getElem?_map, hn]; rfl
    simp [h1, ht]
    refine br_cond rfl (fun h2 => ?_) (fun h2 => ?_)
    · have e := eqS_tt.1 h2
      subst e
      have : isN n = true := isN_t.2 (List.mem_of_getElem? hn)
      simp [cr23, this]
    · simp [hwi]
      refine ⟨i + 1, ⟨by omega, fun j hj => ?_⟩, by omega, Sim.of_le (Env.le_of (by simp)) (Mem.le_refl _)⟩
      by_cases hji : j = i
      · subst hji
        rw [hn]
        intro e
        injection e with e
        rw [e, eqS_r] at h2
        cases h2
      · exact hno j (by omega)
  · have h31 : i = 31 := by have := ltI_f.1 h1; omega
    subst h31
    have : isN k = false := by
      cases h : isN k with
      | false => rfl
      | true =>
        obtain ⟨j, hj, he⟩ := List.getElem_of_mem (isN_t.1 h)
        exact absurd (by rw [List.getElem?_eq_getElem hj, he]) (hno j (by omega))
    simp [cr23, this]

set_option maxHeartbeats 4000000 in
theorem call19 {k : ByteArray} : PCalls Bk.pg 19 [.str k] fun out => out = .ret (match lkF tabL k with | none => .tuple [.int .i64 0, .int .i64 0, .int .i64 5] | some (a, b, _) => .tuple [.int .i64 a, .int .i64 b, .int .i64 0]) := by
  cases hk : lkF tabL k with
  | none =>
    have hN : isN k = false := by
      cases h : isN k with
      | false => rfl
      | true => exact absurd (isN_t.1 h) (tabL_out hk)
    refine ok19.pcalls (by simp) ?_
    have c23 := call23 (k := k)
    rw [hN] at c23
    simp [c19]
    refine xcall_p c23 (by simp) ?_
    simp [cr19]
  | some r =>
    obtain ⟨a, b, o⟩ := r
    have hm := tabL_in hk
    have hN : isN k = true := isN_t.2 hm
    refine ok19.pcalls (by simp) ?_
    have c23 := call23 (k := k)
    rw [hN] at c23
    simp [c19]
    refine xcall_p c23 (by simp) ?_
    simp
    simp only [names31, List.mem_cons, List.not_mem_nil, or_false] at hm
    rcases hm with rfl | rfl | rfl | rfl | rfl | rfl | rfl | rfl | rfl | rfl | rfl | rfl | rfl | rfl | rfl | rfl | rfl | rfl | rfl | rfl | rfl | rfl | rfl | rfl | rfl | rfl | rfl | rfl | rfl | rfl | rfl
    all_goals
      simp [tabL, l44, l45, l46, lkF] at hk
      obtain ⟨rfl, rfl, _⟩ := hk
      simp [cr19, eqS_lit]
end Go.Pm

/- BkT4: contracts: Is and Arguments. -/
namespace Go.Pm
open Go Go.Proofs
attribute [-simp] List.getElem?_map
attribute [simp] nilCheckA postA_norm

theorem rk_some {r : RKey} {x : Option (Option AV)} (h : RK (some r) x) : ∃ f cs g ds, x = some (some (.agg [.int .i64 r.1, .int .i64 r.2.1, .fn f cs, .fn g ds])) := by
  obtain ⟨a, b, o⟩ := r
  cases o with
  | none => exact h
  | some fg => exact ⟨fg.1, [], fg.2, [], h⟩

theorem call22 {k : ByteArray} : PCalls Bk.pg 22 [.str k] fun out => out = .ret (.bool (lkF tabL k).isSome) := by
  refine ok22.pcalls (by simp) ?_
  have one : Value.nilFunc.oneCell' = true := rfl
  simp [c22]
  refine xcall_r (call27N (S := []) (nx := 0)) ?_ ?_
  · rintro v m' ⟨hv, L, nx, rfl, hT⟩
    cases hv
    have hk := hT.2.2 k
    cases hl : lkF tabL k with
    | none =>
      rw [hl] at hk
      have hf : findA (.str k) L = some none := hk
      simp [isKey, lookA, hf, one, cr22]
    | some r =>
      rw [hl] at hk
      obtain ⟨f, cs, g, ds, hf⟩ := rk_some hk
      simp [isKey, lookA, hf, one, cr22]
  · rintro v m' ⟨hv, _⟩
    cases hv

theorem call18 {k : ByteArray} : PCalls Bk.pg 18 [.str k] fun out => out = .ret (match lkF tabL k with | none => .tuple [.int .i64 0, .int .i64 0, .int .i64 5] | some (a, b, _) => .tuple [.int .i64 a, .int .i64 b, .int .i64 0]) := by
  refine ok18.pcalls (by simp) ?_
  have one : Value.nilFunc.oneCell' = true := rfl
  simp [c18]
  refine xcall_r (call27N (S := []) (nx := 0)) ?_ ?_
  · rintro v m' ⟨hv, L, nx, rfl, hT⟩
    cases hv
    have hk := hT.2.2 k
    cases hl : lkF tabL k with
    | none =>
      rw [hl] at hk
      have hf : findA (.str k) L = some none := hk
      simp [isKey, lookA, hf, one, cr18]
    | some r =>
      rw [hl] at hk
      obtain ⟨f, cs, g, ds, hf⟩ := rk_some hk
      simp [isKey, lookA, hf, one, cr18]
  · rintro v m' ⟨hv, _⟩
    cases hv

theorem isN_eq (k : ByteArray) : isN k = (lkF tabL k).isSome := by
  cases h : lkF tabL k with
  | none =>
    cases h2 : isN k with
    | false => rfl
    | true => exact absurd (isN_t.1 h2) (tabL_out h)
  | some r => exact isN_t.2 (tabL_in h)
end Go.Pm

/- BkT5: contracts: the library's sort of texts. -/
namespace Go.Pm
open Go Go.Proofs Go.Shelf Go.RowKit Go.Lib Go.Sort
attribute [-simp] List.getElem?_map List.length_flatten

def sortT (ms : List ByteArray) : List ByteArray := ((ms.map fun s => s.data.toList).mergeSort fun x y => decide (x ≤ y)).map fun l => ⟨l.toArray⟩
theorem sortT_perm (ms : List ByteArray) : (sortT ms).Perm ms := by
  unfold sortT
  have h := (List.mergeSort_perm (ms.map fun s => s.data.toList) fun x y => decide (x ≤ y)).map fun l : List UInt8 => (⟨l.toArray⟩ : ByteArray)
  refine h.trans ?_
  rw [List.map_map]
  have : ((fun l : List UInt8 => (⟨l.toArray⟩ : ByteArray)) ∘ fun s : ByteArray => s.data.toList) = id := by funext s; simp
  rw [this, List.map_id]

theorem texts_world_heap (w : World) (b n : Nat) (d : Array (List UInt8)) (os : Array Obj) (hb : b < w.heap.size) {cur : Array Value} {e : TypeId} {fr : Nat × Nat} (h : w.heap[b]? = some (.cells cur e fr)) :
    (grow (putRow encStr (Sort.ahead w n) b 0 d) os).heap[b]? = some (.cells (putCells encStr 0 d cur) e fr) := by
  rw [heap_grow_old _ _ (by rw [show (putRow encStr (Sort.ahead w n) b 0 d).heap.size = w.heap.size by simp [putRow, mapBlock, Sort.ahead]]; exact hb)]
  unfold putRow mapBlock
  show (w.heap.modify b _)[b]? = _
  rw [Array.getElem?_modify, if_pos rfl, h]
  rfl
theorem texts_world_other (w : World) (b n k : Nat) (d : Array (List UInt8)) (os : Array Obj) (hk : k < w.heap.size) (hne : k ≠ b) : (grow (putRow encStr (Sort.ahead w n) b 0 d) os).heap[k]? = w.heap[k]? := by
  rw [heap_grow_old _ _ (by rw [show (putRow encStr (Sort.ahead w n) b 0 d).heap.size = w.heap.size by simp [putRow, mapBlock, Sort.ahead]]; exact hk)]
  unfold putRow mapBlock
  show (w.heap.modify b _)[k]? = _
  rw [Array.getElem?_modify, if_neg (fun e => hne e.symm)]

theorem texts_holds {σ : Sig} {K : Bool → Nat → Prop} {w : World} {b : Nat} {ms : List ByteArray} {cur : Array Value} {e : TypeId} (hh : w.heap[b]? = some (.cells cur e (0, 0))) (h : LR σ K w b 0 1 (txR ms)) : Holds encStr w b 0 (ms.map fun s => s.data.toList).toArray := by
  intro t ht
  have ht2 : t < ms.length := by simpa using ht
  have hd : ((ms.map fun s => s.data.toList).toArray)[t]! = ms[t].data.toList := by rw [getElem!_pos (ms.map fun s => s.data.toList).toArray t ht]; simp
  rw [hd]
  obtain ⟨_, hc⟩ := LR_iff.1 h t [.str ms[t]] (by unfold txR; rw [List.getElem?_map, List.getElem?_eq_getElem ht2]; rfl)
  refine ⟨?_, by simp [World.frozen?, hh]⟩
  obtain ⟨u, hu, _, hV⟩ := CR_iff.1 hc 0 (.str ms[t]) rfl
  rw [VR] at hV
  rw [show 0 + t = 0 + t * 1 + 0 by omega, hu, hV]
theorem texts_rows {σ : Sig} {K : Bool → Nat → Prop} {w : World} {b : Nat} {ls : List (List UInt8)} (h : Holds encStr w b 0 ls.toArray) : LR σ K w b 0 1 (txR (ls.map fun l => ⟨l.toArray⟩)) := by
  refine LR_iff.2 fun i c hc => ?_
  unfold txR at hc
  rw [List.getElem?_map, Option.map_eq_some_iff] at hc
  obtain ⟨x, hx, rfl⟩ := hc
  rw [List.getElem?_map, Option.map_eq_some_iff] at hx
  obtain ⟨y, hy, rfl⟩ := hx
  have hi : i < ls.length := (List.getElem?_eq_some_iff.1 hy).1
  refine ⟨rfl, CR_iff.2 fun j z hj => ?_⟩
  have hj0 : j = 0 := by have := (List.getElem?_eq_some_iff.1 hj).1; simp at this; omega
  subst hj0
  injection hj with hj; subst hj
  have hg := (h i (by simpa using hi)).1
  have e : ls.toArray[i]! = y := by
    rw [getElem!_pos _ _ (by simpa using hi)]
    simpa using (List.getElem?_eq_some_iff.1 hy).2
  rw [e] at hg
  exact ⟨.string ⟨y.toArray⟩, by rw [show 0 + i * 1 + 0 = 0 + i by omega, hg], rfl, by rw [VR]⟩

theorem call59 (m : Mem) (pos gen n : Nat) (ms : List ByteArray) (h : m.obj pos gen = some (.row 9 1 (txR ms))) (hn : ms.length = n) (h0 : 0 < n) (hl : n ≤ 3000000000000) :
    ACalls Bk.pg 59 [.row pos gen 1 0 n] m fun out m' => out = .ret (.tuple []) ∧ m' = m.put pos gen (.row 9 1 (txR (sortT ms))) := by
  refine ⟨⟨Tryz.f59, Tryz.func59, rfl, by kernel_rfl⟩, fun β K σ w vals hrel hv hβ => ?_⟩
  obtain ⟨u, us, rfl, hV, hnil⟩ := hv
  rw [VRs] at hnil
  subst hnil
  have hpos := Mem.obj_some h
  rw [VR] at hV
  rcases hV with ⟨b, c, hg, hoc, rfl⟩ | ⟨_, hl0, _⟩ | ⟨hl0, _⟩
  · obtain ⟨cur, hheap, hcs, hcap, hmax, hpos2, hlr⟩ := hrel.obj_row h hg
    have hH := texts_holds hheap hlr
    have hb : b < w.heap.size := (Array.getElem?_eq_some_iff.1 hheap).1
    have hcon := Tryz.slices_Sort_string b 0 c (ms.map fun s => s.data.toList) w hH hb (by simp; omega)
    have hargs : ([Value.slice (some ⟨b, 0 * 1, none⟩) n (c - 0)] : List Value).toArray = #[.slice (some ⟨b, 0, none⟩) (ms.map fun s => s.data.toList).length c] := by
      simp [hn]
    rw [hargs]
    refine Calls.mono hcon ?_
    rintro e w' ⟨rfl, n', os, rfl⟩
    generalize hd : (ms.map fun s => s.data.toList).mergeSort (fun x y => decide (x ≤ y)) = d
    have hsT : sortT ms = d.map fun l => ⟨l.toArray⟩ := by unfold sortT; rw [hd]
    have hsz : d.length = ms.length := by
      have := (sortT_perm ms).length_eq
      rw [hsT, List.length_map] at this; exact this
    have hheap' := texts_world_heap w b n' d.toArray os hb hheap
    have hle : w.heap.size ≤ (grow (putRow encStr (Sort.ahead w n') b 0 d.toArray) os).heap.size := by simp [putRow, mapBlock, Sort.ahead]
    have hgr : w.grownBy (grow (putRow encStr (Sort.ahead w n') b 0 d.toArray) os) (some b) := ⟨rfl, rfl, rfl, hle, fun k hk hne => texts_world_other w b n' k d.toArray os hk (fun e => hne (by rw [e]))⟩
    have hH' : Holds encStr (grow (putRow encStr (Sort.ahead w n') b 0 d.toArray) os) b 0 d.toArray :=
      holds_grow _ _ _ _ _ _ (by simp [putRow, mapBlock, Sort.ahead]; exact hb) (holds_putRow encStr (Sort.ahead w n') b 0 _ _ hH (by simp [hsz]))
    have hKs := hrel.kept_same hgr (hrel.not_kept h hg)
    refine ⟨K, σ, _, .ret (.tuple []), ⟨rfl, rfl⟩, hrel.put hpos hg hgr ⟨_, hheap', ?_, ?_, hmax, hpos2, ?_⟩, List.prefix_refl _, fun _ _ h => h, hKs, .tuple #[], rfl, by rw [VR]; exact ⟨#[], rfl, rfl⟩⟩
    · simp [putCells, hcs]
    · rw [hsT]
      simp [txR, hsz]
      simpa [txR] using hcap
    · rw [hsT]
      exact texts_rows hH'
  · omega
  · omega

end Go.Pm

/- BkT6: plain laws: the keys of the table, in whichever order they are visited, are the functions' names; sorted they stand in one order. -/
namespace Go.Pm
open Go Go.Proofs
attribute [-simp] List.getElem?_map

theorem find_key (s : ByteArray) : ∀ {L : List (AV × AV)}, TabK L → (findA (.str s) L = some none ∧ AV.str s ∉ L.map Prod.fst) ∨ (∃ v, findA (.str s) L = some (some v)) ∧ AV.str s ∈ L.map Prod.fst
  | [], _ => .inl ⟨rfl, fun h => by cases h⟩
  | (a, b) :: L, hT => by
    obtain ⟨t, ht⟩ := hT (a, b) (by simp)
    simp only at ht
    subst ht
    by_cases hk : s = t
    · subst hk
      exact .inr ⟨⟨b, by simp [findA, keyEq, beqB_t]⟩, by simp⟩
    · rcases find_key s (L := L) fun e he => hT e (by simp [he]) with ⟨h1, h2⟩ | ⟨⟨v, h1⟩, h2⟩
      · refine .inl ⟨by simp [findA, keyEq, beqB_f hk, h1], fun h => ?_⟩
        rw [List.map_cons] at h
        rcases List.mem_cons.1 h with h | h
        · injection h with h; exact hk h
        · exact h2 h
      · exact .inr ⟨⟨v, by simp [findA, keyEq, beqB_f hk, h1]⟩, by rw [List.map_cons]; exact List.mem_cons_of_mem _ h2⟩

theorem names_nodup : names31.Nodup := by decide

theorem tab_keys {L : List (AV × AV)} (h : TabN tabL L) (x : AV) : x ∈ L.map Prod.fst ↔ x ∈ names31.map AV.str := by
  constructor
  · intro hx
    obtain ⟨e, he, rfl⟩ := List.mem_map.1 hx
    obtain ⟨s, hs⟩ := h.1 e he
    rw [hs] at hx ⊢
    rcases find_key s h.1 with ⟨_, h2⟩ | ⟨⟨v, h1⟩, _⟩
    · exact absurd hx h2
    · have hk := h.2.2 s
      cases hl : lkF tabL s with
      | none =>
        rw [hl, h1] at hk
        cases hk
      | some r => exact List.mem_map_of_mem (tabL_in hl)
  · intro hx
    obtain ⟨s, hs, rfl⟩ := List.mem_map.1 hx
    rcases find_key s h.1 with ⟨h1, _⟩ | ⟨_, h2⟩
    · have hk := h.2.2 s
      cases hl : lkF tabL s with
      | none => exact absurd hs (tabL_out hl)
      | some r =>
        rw [hl] at hk
        obtain ⟨f, cs, g, ds, hf⟩ := rk_some hk
        rw [h1] at hf
        cases hf
    · exact h2

theorem nodup_str {l : List ByteArray} (h : l.Nodup) : (l.map AV.str).Nodup := by
  refine List.pairwise_map.2 (h.imp fun hne he => ?_)
  injection he with he
  exact hne he

theorem tab_perm {L : List (AV × AV)} (h : TabN tabL L) : (L.map Prod.fst).Perm (names31.map AV.str) :=
  (List.perm_ext_iff_of_nodup h.2.1 (nodup_str names_nodup)).2 (tab_keys h)

theorem tab_len {L : List (AV × AV)} (h : TabN tabL L) : L.length = 31 := by
  have := (tab_perm h).length_eq
  rw [List.length_map, List.length_map] at this
  exact this

theorem zipB_keys : ∀ {kv : List (AV × AV)} {bs : List Nat}, bs.length = kv.length → (zipB kv bs).map (fun e => e.1) = kv.map Prod.fst
  | [], [], _ => rfl
  | [], _ :: _, h => by simp at h
  | _ :: _, [], h => by simp at h
  | (k, v) :: kv, b :: bs, h => by
    simp only [zipB, List.map_cons]
    rw [zipB_keys (by simpa using h)]

theorem uniq_key : ∀ {es : List (AV × AV × Nat)}, (es.map fun e => e.1).Nodup → ∀ e1 ∈ es, ∀ e2 ∈ es, e1.1 = e2.1 → e1 = e2
  | [], _, _, h, _, _, _ => by cases h
  | e :: es, hn, e1, h1, e2, h2, he => by
    rw [List.map_cons, List.nodup_cons] at hn
    rcases List.mem_cons.1 h1 with h3 | h3 <;> rcases List.mem_cons.1 h2 with h4 | h4
    · rw [h3, h4]
    · refine absurd ?_ hn.1
      rw [← h3, he]
      exact List.mem_map_of_mem (f := fun e : AV × AV × Nat => e.1) h4
    · refine absurd ?_ hn.1
      rw [← h4, ← he]
      exact List.mem_map_of_mem (f := fun e : AV × AV × Nat => e.1) h3
    · exact uniq_key hn.2 e1 h3 e2 h4 he

/-- In a round over the table's entries: the keys that were visited. -/
structure KeysI (es : List (AV × AV × Nat)) (seen : List Nat) (acc : List ByteArray) : Prop where
  nd : acc.Nodup
  len : acc.length + (es.filter fun x => !seen.contains x.2.2).length ≤ 31
  of : ∀ s ∈ acc, ∃ e ∈ es, e.1 = .str s ∧ e.2.2 ∈ seen
  to : ∀ e ∈ es, e.2.2 ∈ seen → ∃ s ∈ acc, e.1 = .str s

theorem keysI_step {es : List (AV × AV × Nat)} {seen : List Nat} {acc : List ByteArray} {e : AV × AV × Nat} {s : ByteArray} (h : KeysI es seen acc) (hb : ∀ e1 ∈ es, ∀ e2 ∈ es, e1.2.2 = e2.2.2 → e1 = e2) (hk : ∀ e1 ∈ es, ∀ e2 ∈ es, e1.1 = e2.1 → e1 = e2)
    (he : e ∈ es) (hs : e.1 = .str s) (hp : (!seen.contains e.2.2) = true) : KeysI es (seen ++ [e.2.2]) (acc ++ [s]) where
  nd := by
    rw [List.nodup_append]
    refine ⟨h.nd, by simp, fun a ha b hb2 => ?_⟩
    rw [List.mem_singleton] at hb2
    subst hb2
    rintro rfl
    obtain ⟨e', he', hs', hin⟩ := h.of a ha
    have := hk e' he' e he (hs'.trans hs.symm)
    subst this
    simp at hp
    exact hp hin
  len := by
    have := unseen_less he hp
    have := h.len
    simp only [List.length_append, List.length_cons, List.length_nil]
    omega
  of := fun t ht => by
    rcases List.mem_append.1 ht with ht | ht
    · obtain ⟨e', h1, h2, h3⟩ := h.of t ht
      exact ⟨e', h1, h2, List.mem_append_left _ h3⟩
    · rw [List.mem_singleton.1 ht]
      exact ⟨e, he, hs, by simp⟩
  to := fun e1 h1 h2 => by
    rcases List.mem_append.1 h2 with h2 | h2
    · obtain ⟨t, h3, h4⟩ := h.to e1 h1 h2
      exact ⟨t, List.mem_append_left _ h3, h4⟩
    · have := hb e1 h1 e he (List.mem_singleton.1 h2)
      subst this
      exact ⟨s, by simp, hs⟩

theorem keysI_done {es : List (AV × AV × Nat)} {seen : List Nat} {acc : List ByteArray} {L : List (AV × AV)} (h : KeysI es seen acc) (hT : TabN tabL L) (hes : es.map (fun e => e.1) = L.map Prod.fst) (hall : ∀ e ∈ es, (!seen.contains e.2.2) = false) : acc.Perm names31 := by
  refine (List.perm_ext_iff_of_nodup h.nd names_nodup).2 fun s => ⟨fun hs => ?_, fun hs => ?_⟩
  · obtain ⟨e, he, hk, _⟩ := h.of s hs
    have h1 : AV.str s ∈ L.map Prod.fst := by rw [← hes, ← hk]; exact List.mem_map_of_mem (f := fun e : AV × AV × Nat => e.1) he
    obtain ⟨t, ht, hts⟩ := List.mem_map.1 ((tab_keys hT _).1 h1)
    injection hts with hts
    rw [← hts]; exact ht
  · have h1 : AV.str s ∈ L.map Prod.fst := (tab_keys hT _).2 (List.mem_map_of_mem hs)
    rw [← hes] at h1
    obtain ⟨e, he, hk⟩ := List.mem_map.1 h1
    have hseen : e.2.2 ∈ seen := by simpa using hall e he
    obtain ⟨t, ht, hkt⟩ := h.to e he hseen
    rw [hk] at hkt
    injection hkt with hkt
    rw [hkt]; exact ht

theorem sort_names {acc : List ByteArray} (h : acc.Perm names31) : sortT acc = names31 := by
  have hp : (acc.map fun s => s.data.toList).Perm (names31.map fun s => s.data.toList) := h.map _
  have h1 : ((acc.map fun s => s.data.toList).mergeSort fun x y => decide (x ≤ y)) = names31.map fun s => s.data.toList := by
    have h2 : ((names31.map fun s => s.data.toList).Pairwise fun x y => decide (x ≤ y) = true) := by decide
    refine List.Perm.eq_of_pairwise (le := fun x y => decide (x ≤ y) = true) ?_ (List.pairwise_mergeSort ?_ ?_ _) h2 ((List.mergeSort_perm _ _).trans hp)
    · intro a b _ _ h3 h4
      exact List.le_antisymm (of_decide_eq_true h3) (of_decide_eq_true h4)
    · intro a b c h3 h4
      exact decide_eq_true (List.le_trans (of_decide_eq_true h3) (of_decide_eq_true h4))
    · intro a b
      rw [Bool.or_eq_true, decide_eq_true_eq, decide_eq_true_eq]
      exact List.le_total a b
  unfold sortT
  rw [h1, List.map_map]
  rfl
end Go.Pm

/- BkT7: contracts: the names of the table's functions. -/
namespace Go.Pm
open Go Go.Proofs
attribute [-simp] List.getElem?_map
attribute [simp] nilCheckA postA_norm

theorem call41 {pos gen : Nat} {m : Mem} : ACalls Bk.pg 41 [.map pos gen] m fun out m' => out = .ret (.fn 60 [.ptr m.store.length m.next 0]) ∧ m' = m.new (.cells [.map pos gen]) := by
  refine ok41.acalls (by simp) ?_
  simp [c41, cr41, postA_ret, Mem.new]

def a155 : SC := (.ops [⟨(some 5), .plain .mv, [.tmp 7], none⟩] [])
def b155 : SC := (.block 1
     (.ops [⟨(some 8), .plain (.load false 1), [.tmp 2], none⟩,
       ⟨(some 9), .plain .mv, [.tmp 5], none⟩,
       ⟨(some 10), .plain (.buildRow 9 1 1 [(.str ⟨#[]⟩)] [0]), [.tmp 9], none⟩,
       ⟨(some 11), .plain (.append 9 1 16), [.tmp 8, .tmp 10], none⟩,
       ⟨none, .plain (.store 1), [.tmp 2, .tmp 11], none⟩] [8, 9, 10, 11]))
def ok155r : Loop → Prop := loopOk Bk.pg.toProgram Bk.imp [7] a155 b155
def e155 (a : Nat) : Env := [(0, .nilS), (1, .fn 60 [.ptr 1 a 0]), (2, .ptr 2 (a + 1) 0), (4, .nilS), (6, .fn 60 [.ptr 1 a 0])]
/-- Memory while the keys are gathered. -/
def m155 (a : Nat) (top : AObj) (g : Nat) (acc : List ByteArray) (more : List (Nat × AObj)) (n : Nat) : Mem :=
  ⟨[(0, top), (a, .cells [.map 0 0]), (a + 1, .cells [.row 3 g 1 0 acc.length]), (g, .row 9 1 (txR acc)), (a + 3, .loop .ready (e155 a) ok155r)] ++ more, n⟩

theorem round155 {a g n : Nat} {top : AObj} {acc : List ByteArray} {it : AObj} {s : ByteArray} (hl : acc.length ≤ 31) :
    YCalls Bk.pg 4 (a + 3) [.str s] (m155 a top g acc [(a + 4, it)] n) fun out m' => out = .ret (.bool true) ∧ m' = m155 a top (n + 1) (acc ++ [s]) [(a + 4, it)] (n + 2) := by
  refine ycalls_S (imp := Bk.imp) (ps := [7]) (a := a155) (b := b155) (e := e155 a) (by simp [m155, Mem.obj]; rfl) rfl ?_
  rw [show loopOk Bk.pg.toProgram Bk.imp [7] a155 b155 = ok155r from rfl]
  simp [a155, b155, Env.sets, e155, m155]
  have hw1 : (acc.length + 1) * 16 ≤ 140737488355328 := by omega
  have hw2 : acc.length + 1 ≤ 9223372036854775807 := by omega
  simp [appendA, appendN, elsOf, Mem.obj, txR, hw1, hw2, Mem.turn]
  refine ⟨by simp [Mem.obj], _, ?_, rfl, rfl⟩
  exact Mem.le_of rfl (by simp [Mem.put])

/-- The table's keys, one by one. -/
theorem call60 {a n : Nat} {L : List (AV × AV)} (hT : TabN tabL L) :
    ACalls Bk.pg 60 [.yield 4 (a + 3), .ptr 1 a 0] (m155 a (.map L) (a + 2) [] [] (a + 4)) fun out m' => out = .ret (.tuple []) ∧ ∃ top g acc n', acc.Perm names31 ∧ m' = m155 a top g acc [] n' := by
  refine ACalls.forget (ok60.acalls (by simp) ?_)
  simp [c60, m155]
  intro bs cl hb hl
  obtain ⟨es, hes⟩ : ∃ es, es = zipB L bs := ⟨_, rfl⟩
  rw [← hes]
  have hall : es.all (fun e => e.2.2 < cl) = true := by rw [hes]; exact born_all hb
  have hub : ∀ e1 ∈ es, ∀ e2 ∈ es, e1.2.2 = e2.2.2 → e1 = e2 := by rw [hes]; exact zipB_uniq hb.1
  have hek : es.map (fun e => e.1) = L.map Prod.fst := by rw [hes]; exact zipB_keys hl
  have huk : ∀ e1 ∈ es, ∀ e2 ∈ es, e1.1 = e2.1 → e1 = e2 := uniq_key (by rw [hek]; exact hT.2.1)
  have hstr : ∀ e ∈ es, ∃ s, e.1 = .str s := fun e he => by
    have := hT.1 (e.1, e.2.1) (by rw [hes] at he; exact (zipB_mem he).1)
    exact this
  have hlen : es.length = 31 := by
    have := congrArg List.length hek
    rw [List.length_map, List.length_map, tab_len hT] at this
    exact this
  have h0 : KeysI es [] [] := ⟨List.nodup_nil, (by rw [List.length_nil, Nat.zero_add, ← hlen]; exact List.length_filter_le _ _), (fun s hs => by cases hs), fun e _ hs => by cases hs⟩
  refine wpS_loopS (ι := List Nat × List ByteArray × Nat × Nat) (fun _ => [(0, .yield 4 (a + 3)), (1, .ptr 1 a 0), (5, .ptr 5 (a + 4) 0)]) (fun s => m155 a (.emap es cl) s.2.2.1 s.2.1 [(a + 4, .iter 0 0 cl s.1 cl)] s.2.2.2)
    (fun s => (es.filter fun x => !s.1.contains x.2.2).length) (fun s => KeysI es s.1 s.2.1) ([], [], a + 2, a + 5) h0 (Sim.of_le (Env.le_of (by simp)) (Mem.le_of rfl (by simp [m155]))) ?_
  rintro ⟨seen, acc, g, n⟩ hI
  simp only at hI
  simp [m155, hall]
  refine next_split2 (fun hd => ?_) (fun e he hp => ?_)
  · have hperm := keysI_done hI hT hek (fun e he => by simpa using hd e he)
    simp [cr60, postA_norm]
    exact ⟨⟨[(0, .emap es cl), (a, .cells [.map 0 0]), (a + 1, .cells [.row 3 g 1 0 acc.length]), (g, .row 9 1 (txR acc)), (a + 3, .loop .ready (e155 a) ok155r)], n⟩, Mem.le_of rfl (by simp), _, g, acc, hperm, n, rfl⟩
  · obtain ⟨s, hs⟩ := hstr e he
    have hf := find_born2 he hub
    have hI' := keysI_step hI hub huk he hs (by simpa using hp)
    have hbound : acc.length ≤ 31 := by have := hI.len; omega
    have hr := round155 (a := a) (g := g) (n := n) (top := .emap es cl) (acc := acc) (it := .iter 0 0 cl (seen ++ [e.2.2]) cl) (s := s) hbound
    simp only [m155] at hr
    simp [hf, hs]
    refine ⟨4, a + 3, _, ⟨⟨rfl, rfl⟩, rfl⟩, ycall_r hr ?_ ?_⟩
    · rintro v m' ⟨hv, rfl⟩
      cases hv
      simp
      exact ⟨seen ++ [e.2.2], acc ++ [s], hI', n + 1, n + 2, by simpa using unseen_less he (by simpa using hp), Sim.of_le (Env.le_of (by simp)) (Mem.le_of rfl (by simp))⟩
    · rintro v m' ⟨hv, _⟩
      cases hv

/-- The keys, gathered. -/
theorem call155 {a : Nat} {L : List (AV × AV)} (hT : TabN tabL L) :
    ACalls Bk.pg 155 [.nilS, .fn 60 [.ptr 1 a 0]] ⟨[(0, .map L), (a, .cells [.map 0 0])], a + 1⟩ fun out m' => ∃ top g acc n', acc.Perm names31 ∧ out = .ret (.row 3 g 1 0 31) ∧ m' = ⟨[(0, top), (a, .cells [.map 0 0]), (a + 1, .cells [.row 3 g 1 0 31]), (g, .row 9 1 (txR acc))], n'⟩ := by
  refine ACalls.forget (ok155.acalls (by simp) ?_)
  simp [c155]
  refine wpS_rangeS (e155 a) ⟨[(0, .map L), (a, .cells [.map 0 0]), (a + 1, .cells [.row 3 (a + 2) 1 0 0]), (a + 2, .row 9 1 [])], a + 3⟩ ?hs rfl (call60 (a := a) (n := a + 4) hT) ?hr ?hp
  case hs =>
    refine Sim.trans ?_ (Sim.nil_cell (pos := 2) (g := a + 1) (vs := [.nilS]) 0 9 (sz := 1) (by decide) rfl rfl)
    exact Sim.of_le (Env.le_of (by simp [e155])) (Mem.le_of rfl (by simp [Mem.new, Mem.put]))
  case hp =>
    rintro v m' ⟨hv, _⟩
    cases hv
  case hr =>
    rintro v m' ⟨hv, top, g, acc, n', hperm, rfl⟩
    have hlen : acc.length = 31 := hperm.length_eq
    refine ⟨.ready, e155 a, ok155r, (by simp [m155, Mem.obj]), ?_⟩
    simp [e155, m155, hlen, cr155, Mem.put, postA_ret]
    exact ⟨⟨[(0, top), (a, .cells [.map 0 0]), (a + 1, .cells [.row 3 g 1 0 31]), (g, .row 9 1 (txR acc))], n'⟩, Mem.le_of rfl (by simp), top, g, acc, hperm, rfl, n', rfl⟩

theorem call58 {a : Nat} {L : List (AV × AV)} (hT : TabN tabL L) :
    ACalls Bk.pg 58 [.fn 60 [.ptr 1 a 0]] ⟨[(0, .map L), (a, .cells [.map 0 0])], a + 1⟩ fun out m' => ∃ top g acc n', acc.Perm names31 ∧ out = .ret (.row 3 g 1 0 31) ∧ m' = ⟨[(0, top), (a, .cells [.map 0 0]), (a + 1, .cells [.row 3 g 1 0 31]), (g, .row 9 1 (txR acc))], n'⟩ := by
  refine ok58.acalls (by simp) ?_
  simp [c58]
  refine xcall_r (call155 hT) ?_ ?_
  · rintro v m' ⟨top, g, acc, n', hp, hv, rfl⟩
    cases hv
    simp [cr58, postA_ret]
    exact ⟨top, g, acc, hp, rfl, rfl, rfl, rfl⟩
  · rintro v m' ⟨_, _, _, _, _, hv, _⟩
    cases hv

theorem call40 {a : Nat} {L : List (AV × AV)} (hT : TabN tabL L) :
    ACalls Bk.pg 40 [.fn 60 [.ptr 1 a 0]] ⟨[(0, .map L), (a, .cells [.map 0 0])], a + 1⟩ fun out m' => ∃ top g n', out = .ret (.row 3 g 1 0 31) ∧ m' = ⟨[(0, top), (a, .cells [.map 0 0]), (a + 1, .cells [.row 3 g 1 0 31]), (g, .row 9 1 (txR names31))], n'⟩ := by
  refine ok40.acalls (by simp) ?_
  simp [c40]
  refine xcall_r (call58 hT) ?_ ?_
  · rintro v m' ⟨top, g, acc, n', hp, hv, rfl⟩
    cases hv
    simp
    refine xcall_a (call59 _ 3 g 31 acc (by simp [Mem.obj]) hp.length_eq (by decide) (by decide)) ?_
    rw [sort_names hp]
    simp [cr40, postA_ret, Mem.put]
  · rintro v m' ⟨_, _, _, _, _, hv, _⟩
    cases hv

theorem call20 : PCalls Bk.pg 20 [] fun out => out = .ret (.list true 1 (txR names31)) := by
  refine pcalls_of_acalls 0 (ok20.acalls (by simp) ?_)
  simp [c20]
  refine xcall_r (call27N (S := []) (nx := 0)) ?_ ?_
  · rintro v m' ⟨hv, L, nx, rfl, hT⟩
    cases hv
    simp
    refine xcall_a call41 ?_
    simp [Mem.new]
    refine xcall_r (call40 hT) ?_ ?_
    · rintro v m' ⟨top, g, n', hv, rfl⟩
      cases hv
      simp [cr20, postA_ret, permOD, permD, mapO]
      rfl
    · rintro v m' ⟨_, _, _, hv, _⟩
      cases hv
  · rintro v m' ⟨hv, _⟩
    cases hv

theorem call21 : PCalls Bk.pg 21 [] fun out => out = .ret (.list true 1 (txR names31)) := by
  refine pcalls_of_acalls 0 (ok21.acalls (by simp) ?_)
  simp [c21]
  refine xcall_a call42 ?_
  simp [cr21, postA_ret, permOD, permD, mapO]
  rfl
end Go.Pm

/- BkC20: contracts: what is done safely when a rest is asked for. -/
namespace Go.Pm
open Go Go.Proofs
attribute [-simp] List.getElem?_map
attribute [simp] nilCheckA postA_norm

def a26 : SC := (.ops [⟨(some 8), .plain .mv, [.tmp 38], none⟩] [])
def b26 : SC := (.block 1
     (.ops [⟨(some 39), .plain (.load false 1), [.tmp 2], none⟩,
       ⟨(some 40), .plain .mv, [.tmp 8], none⟩,
       ⟨(some 41), .plain (.indexAddr 6), [.tmp 39, .tmp 40], none⟩,
       ⟨(some 42), .plain (.load true 6), [.tmp 41], none⟩,
       ⟨(some 43), .call 31, [.tmp 42], none⟩,
       ⟨(some 44), .call 28, [.tmp 43, .lit (.int .i64 13)], none⟩] [39, 40, 41, 42, 43, 44]))
def a26b : SC := (.ops [⟨(some 9), .plain .mv, [.tmp 48], none⟩] [])
def b26b : SC := (.block 3
     (.draw (.step ⟨(some 49), .plain (.load false 1), [.tmp 1], none⟩
       (.step ⟨(some 50), .plain .mv, [.tmp 9], none⟩
       (.step ⟨(some 51), .plain (.indexAddr 4), [.tmp 49, .tmp 50], none⟩
       (.step ⟨(some 52), .plain (.load true 4), [.tmp 51], none⟩
       (.step ⟨(some 53), .call 32, [.tmp 52], none⟩
       (.step ⟨(some 54), .plain .mv, [.tmp 53], none⟩
       (.step ⟨(some 55), .plain (.load false 1), [.tmp 2], (some (54, true))⟩
       (.step ⟨(some 56), .plain .mv, [.tmp 9], (some (54, true))⟩
       (.step ⟨(some 57), .plain (.indexAddr 6), [.tmp 55, .tmp 56], (some (54, true))⟩
       (.step ⟨(some 58), .plain (.load true 6), [.tmp 57], (some (54, true))⟩
       (.step ⟨(some 59), .plain (.load false 1), [.tmp 1], (some (54, true))⟩
       (.step ⟨(some 60), .plain .mv, [.tmp 9], (some (54, true))⟩
       (.step ⟨(some 61), .plain (.indexAddr 4), [.tmp 59, .tmp 60], (some (54, true))⟩
       (.step ⟨(some 62), .plain (.load true 4), [.tmp 61], (some (54, true))⟩
       (.step ⟨(some 63), .call 33, [.tmp 58, .tmp 62], (some (54, true))⟩
       (.step ⟨(some 64), .plain .pick, [.tmp 54, .tmp 63, .lit (.bool false)], none⟩
       (.step ⟨(some 65), .call 28, [.tmp 64, .lit (.int .i64 1)], none⟩
       .done))))))))))))))))) [49, 50, 51, 52, 53, 54, 55, 56, 57, 58, 59, 60, 61, 62, 63, 64, 65]))
def e26 : Env := [(0, .ptr 0 0 0), (1, .ptr 1 1 0), (2, .ptr 2 2 0), (3, .ptr 3 3 0), (4, .ptr 5 5 0), (5, .ptr 4 4 0), (6, .ptr 7 7 0), (37, .fn 47 [.ptr 8 8 0])]
def e26b : Env := [(0, .ptr 0 0 0), (1, .ptr 1 1 0), (2, .ptr 2 2 0), (3, .ptr 3 3 0), (4, .ptr 5 5 0), (5, .ptr 4 4 0), (6, .ptr 7 7 0), (47, .fn 47 [.ptr 10 10 0])]
def ok26r : Loop → Prop := loopOk Bk.pg.toProgram Bk.imp [38] a26 b26
def ok26s : Loop → Prop := loopOk Bk.pg.toProgram Bk.imp [48] a26b b26b
/-- Memory while a rest is asked for. -/
def m26 (k p q n0 n1 p2 q2 : Int) : List (Nat × AObj) :=
  [(0, .cells [.str nameM]), (1, .cells [.list true 4 [vlN k n0 q, vlN k n1 q]]), (2, .cells [.list true 6 [tyN k p q, tyN k p q]]), (3, .cells (tyN k p2 q2)), (4, .cells (vl 0 0 0 ⟨#[]⟩)), (5, .cells (rz 0)), (6, .cells [.int .i64 0]), (7, .cells rowM), (8, .cells [.int .i64 2])]

theorem round26 {k p q n0 n1 p2 q2 : Int} {i : Nat} (h : ValidN k p q) (hi : i < 2) :
    YCalls Bk.pg 9 9 [.int .i64 (i : Nat)] ⟨m26 k p q n0 n1 p2 q2 ++ [(9, .loop .ready e26 ok26r)], 10⟩ fun out m' => out = .ret (.bool true) ∧ m' = ⟨m26 k p q n0 n1 p2 q2 ++ [(9, .loop .ready e26 ok26r)], 10⟩ := by
  refine ycalls_S (ps := [38]) (a := a26) (b := b26) (e := e26) rfl rfl ?_
  rw [show loopOk Bk.pg.toProgram Bk.imp [38] a26 b26 = ok26r from rfl]
  have c1 := call31 h.1 h.2
  have hlt : ltI (i : Int) 2 = true := ltI_t.2 (by omega)
  have ht : ([tyN k p q, tyN k p q] : List (List AV))[i]? = some (tyN k p q) := by
    have : i = 0 ∨ i = 1 := by omega
    rcases this with rfl | rfl <;> rfl
  simp only [tyN, ty] at c1 ht
  simp [a26, b26, Env.sets, e26, m26, hlt, tyN, ty, ht]
  refine xcall_p c1 (by simp) ?_
  simp
  refine xcall_p (call28 (e := 13)) (by simp) ?_
  simp
  exact ⟨rfl, _, Mem.le_refl _, rfl, rfl⟩

theorem round26b {k p q n0 n1 p2 q2 : Int} {i : Nat} (h0 : HasN k p q n0) (h1 : HasN k p q n1) (hi : i < 2) :
    YCalls Bk.pg 11 11 [.int .i64 (i : Nat)] ⟨m26 k p q n0 n1 p2 q2 ++ [(9, .hole), (10, .cells [.int .i64 2]), (11, .loop .ready e26b ok26s)], 12⟩ fun out m' => out = .ret (.bool true) ∧ m' = ⟨m26 k p q n0 n1 p2 q2 ++ [(9, .hole), (10, .cells [.int .i64 2]), (11, .loop .ready e26b ok26s)], 12⟩ := by
  refine ycalls_S (ps := [48]) (a := a26b) (b := b26b) (e := e26b) rfl rfl ?_
  rw [show loopOk Bk.pg.toProgram Bk.imp [48] a26b b26b = ok26s from rfl]
  have hn : HasN k p q (if i = 0 then n0 else n1) := by split <;> assumption
  obtain ⟨a, ha⟩ : ∃ a, a = if i = 0 then n0 else n1 := ⟨_, rfl⟩
  rw [← ha] at hn
  have c1 := call32 hn.2.1
  have c2 := call33 hn
  have hlt : ltI (i : Int) 2 = true := ltI_t.2 (by omega)
  have ht : ([tyN k p q, tyN k p q] : List (List AV))[i]? = some (tyN k p q) := by
    have : i = 0 ∨ i = 1 := by omega
    rcases this with rfl | rfl <;> rfl
  have hv : ([vlN k n0 q, vlN k n1 q] : List (List AV))[i]? = some (vlN k a q) := by
    have : i = 0 ∨ i = 1 := by omega
    rcases this with rfl | rfl <;> rw [ha] <;> rfl
  simp only [tyN, ty, vlN, vl] at c1 c2 ht hv
  simp [a26b, b26b, Env.sets, e26b, m26, hlt, tyN, ty, vlN, vl, ht, hv]
  refine xdcall_p rfl c1 (by simp) ?_
  simp [hlt, ht, hv]
  refine xdcall_p rfl c2 (by simp) ?_
  simp
  refine xdcall_p rfl (call28 (e := 1)) (by simp) ?_
  simp
  exact ⟨rfl, _, Mem.le_refl _, rfl, rfl⟩

set_option maxHeartbeats 4000000 in
theorem call26 {k n0 n1 : Int} {p q p2 q2 : Nat} (h0 : HasN k p q n0) (h1 : HasN k p q n1) (hv : ValidN k p2 q2) :
    ACalls Bk.pg 26 [.ptr 0 0 0, .ptr 1 1 0, .ptr 2 2 0, .ptr 3 3 0, .ptr 5 5 0, .ptr 4 4 0] ⟨(m26 k p q n0 n1 p2 q2).take 7, 7⟩ fun out m' => out = .ret (.tuple []) ∧
      ∃ nx', m' = ⟨[(0, .cells [.str nameM]), (1, .cells [.list true 4 [vlN k n0 q, vlN k n1 q]]), (2, .cells [.list true 6 [tyN k p q, tyN k p q]]), (3, .cells (tyN k p2 q2)), (4, .cells (vlN k (modV k n0 q n1 k p2 q2) q2)), (5, .cells (rz (modC k n0 q n1 k p2 q2))), (6, .cells [.int .i64 0])], nx'⟩ := by
  refine ACalls.forget (ok26.acalls (by simp) ?_)
  have z22 : leI 2 2 = true := rfl
  have zz : eqI 2 2 = true := rfl
  have zk : eqI k k = true := eqI_t.2 rfl
  have one : Value.nilFunc.oneCell' = true := rfl
  have c27 := call27P
  have c34 := call34 h0.1
  have c31 := call31 hv.1 hv.2
  have c76 := fun (S : List (Nat × AObj)) (nx : Nat) (hS : S[5]? = some (5, .cells (rz 0))) => call76 (S := S) (nx := nx) (rp := 5) (rg := 5) h0 h1 hv hS
  simp only [rowM, tyN, ty, vlN, vl, rz, callG] at c27 c34 c31 c76 ⊢
  simp [c26, m26, List.take, rz, vl, tyN, ty, vlN]
  refine xdcall_p rfl c27 (by simp) ?_
  simp [isKey, lookA, beqB_t, one]
  refine xcall_p (call28 (e := 5)) (by simp) ?_
  simp
  refine xcall_p (call29 (n := 2) (lo := 2) (hi := 2) ⟨by omega, by omega⟩) (by simp) ?_
  simp [zz]
  refine xcall_p (call28 (e := 11)) (by simp) ?_
  simp
  refine xcall_a call30 ?_
  simp
  refine wpS_rangeS e26 ⟨m26 k p q n0 n1 p2 q2, 9⟩ (Sim.of_le (Env.le_of (by simp [e26])) (Mem.le_of rfl (by simp [m26, rowM, rz, vl, tyN, ty, vlN]))) rfl
    (call47 (pos := 9) (gen := 9) (p := 8) (g := 8) (n := 2) (Inv := fun _ m => m = ⟨m26 k p q n0 n1 p2 q2 ++ [(9, .loop .ready e26 ok26r)], 10⟩) (by omega) ?hY ?hc ?h0) ?hr ?hp
  case hY =>
    rintro i m hi rfl
    exact round26 h0.1 hi
  case hc => rfl
  case h0 => rfl
  case hp =>
    rintro v m' ⟨hv', _⟩
    cases hv'
  case hr =>
    rintro v m' ⟨hv', rfl⟩
    refine ⟨.ready, e26, ok26r, rfl, ?_⟩
    simp [e26, m26]
    refine xcall_a call30 ?_
    simp
    refine wpS_rangeS e26b ⟨m26 k p q n0 n1 p2 q2 ++ [(9, .hole), (10, .cells [.int .i64 2])], 11⟩ (Sim.of_le (Env.le_of (by simp [e26b])) (Mem.le_of rfl (by simp [m26]))) rfl
      (call47 (pos := 11) (gen := 11) (p := 10) (g := 10) (n := 2) (Inv := fun _ m => m = ⟨m26 k p q n0 n1 p2 q2 ++ [(9, .hole), (10, .cells [.int .i64 2]), (11, .loop .ready e26b ok26s)], 12⟩) (by omega) ?hY2 ?hc2 ?h02) ?hr2 ?hp2
    case hY2 =>
      rintro i m hi rfl
      exact round26b h0 h1 hi
    case hc2 => rfl
    case h02 => rfl
    case hp2 =>
      rintro v m' ⟨hv', _⟩
      cases hv'
    case hr2 =>
      rintro v m' ⟨hv', rfl⟩
      refine ⟨.ready, e26b, ok26s, rfl, ?_⟩
      simp [e26b, m26, rowM, tyN, ty, vlN, vl, rz]
      refine xcall_p c34 (by simp) ?_
      simp
      refine xcall_p c31 (by simp) ?_
      simp
      refine xcall_p (call28 (e := 13)) (by simp) ?_
      simp [zk]
      refine xcall_p (call28 (e := 10)) (by simp) ?_
      simp [one]
      refine xcall_r (c76 _ _ rfl) ?_ ?_
      · rintro v m' ⟨hv', nx', rfl⟩
        cases hv'
        simp [cr26]
        refine ⟨⟨_, nx'⟩, ?_, nx', rfl⟩
        exact Mem.le_of rfl (by simp)
      · rintro v m' ⟨hv', _⟩
        cases hv'
end Go.Pm

/- BkC21: contracts: a rest, asked for by its name. -/
namespace Go.Pm
open Go Go.Proofs
attribute [-simp] List.getElem?_map
attribute [simp] nilCheckA postA_norm

theorem VRs_repl {σ σ' : Sig} {K K' : Bool → Nat → Prop} {w : World} {x y : AV} {post : List AV} (hp : σ <+: σ') (hK : ∀ p b, K p b → K' p b) (h : ∀ u, VR σ K w x u → VR σ' K' w y u) : ∀ {pre : List AV} {us : List Value}, VRs σ K w (pre ++ x :: post) us → VRs σ' K' w (pre ++ y :: post) us
  | [], us, hv => by
    rw [List.nil_append, VRs] at hv ⊢
    obtain ⟨u, us', h1, h2, h3⟩ := hv
    exact ⟨u, us', h1, h u h2, VRs.mono hp hK (fun _ _ _ => rfl) _ _ h3⟩
  | z :: pre, us, hv => by
    rw [List.cons_append, VRs] at hv ⊢
    obtain ⟨u, us', h1, h2, h3⟩ := hv
    exact ⟨u, us', h1, VR.mono hp hK (fun _ _ _ => rfl) _ _ h2, VRs_repl hp hK h h3⟩

/-- A row that is handed on is a list that nobody writes. -/
theorem ACalls.keepRow {P : Prg} {f : FuncId} (pre : List AV) {post : List AV} {pos g e sz n : Nat} {els : List (List AV)} {m : Mem} {R : AOut → Mem → Prop} (h : ACalls P f (pre ++ .list true sz (els.take n) :: post) (m.turn pos .hole) R) (hp : m.store[pos]? = some (g, .row e sz els)) (hn : n ≤ els.length) :
    ACalls P f (pre ++ .row pos g sz 0 n :: post) m R := by
  refine ⟨h.1, fun β K σ w vals hrel hv hβ => ?_⟩
  obtain ⟨K', hK, hrel', hc⟩ := hrel.keep hp
  refine (h.2 β K' _ w vals hrel' (VRs_repl (List.prefix_append _ _) hK (hc n hn) hv) hβ).mono ?_
  rintro e w' ⟨K2, σ2, m', out, i1, i2, i3, i4, i5, i6⟩
  exact ⟨K2, σ2, m', out, i1, i2, (List.prefix_append _ _).trans i3, fun p b hb => i4 p b (hK p b hb), fun p b hb => i5 p b (hK p b hb), i6⟩

theorem call9 {k n0 n1 : Int} {p q p2 q2 : Nat} (h0 : HasN k p q n0) (h1 : HasN k p q n1) (hv : ValidN k p2 q2) :
    PCalls Bk.pg 9 [.str nameM, .list true 4 [vlN k n0 q, vlN k n1 q], .list true 6 [tyN k p q, tyN k p q], .agg (tyN k p2 q2)] fun out => out = .ret (.tuple [.agg (vlN k (modV k n0 q n1 k p2 q2) q2), .agg (rz (modC k n0 q n1 k p2 q2)), .int .i64 0]) := by
  refine ok9.pcalls (by simp) ?_
  obtain ⟨V, hV⟩ : ∃ V, V = modV k n0 q n1 k p2 q2 := ⟨_, rfl⟩
  obtain ⟨C, hC⟩ : ∃ C, C = modC k n0 q n1 k p2 q2 := ⟨_, rfl⟩
  have c26 := call26 h0 h1 hv
  rw [← hV, ← hC] at c26 ⊢
  have c25 := call25 (f := 26) (caps := [.ptr 0 0 0, .ptr 1 1 0, .ptr 2 2 0, .ptr 3 3 0, .ptr 5 5 0, .ptr 4 4 0]) (S := (m26 k p q n0 n1 p2 q2).take 6) (nx := 6)
    (Q := fun S' => S' = [(0, .cells [.str nameM]), (1, .cells [.list true 4 [vlN k n0 q, vlN k n1 q]]), (2, .cells [.list true 6 [tyN k p q, tyN k p q]]), (3, .cells (tyN k p2 q2)), (4, .cells (vlN k V q2)), (5, .cells (rz C))])
    (c26.mono fun out m' ⟨ho, nx', hm⟩ => ⟨ho, [(0, .cells [.str nameM]), (1, .cells [.list true 4 [vlN k n0 q, vlN k n1 q]]), (2, .cells [.list true 6 [tyN k p q, tyN k p q]]), (3, .cells (tyN k p2 q2)), (4, .cells (vlN k V q2)), (5, .cells (rz C))], nx', hm, rfl, rfl⟩)
  have z : eqI 0 0 = true := rfl
  simp only [m26, List.take, rz, vl, tyN, ty, vlN] at c25 ⊢
  simp [c9]
  refine xcall_r c25 ?_ ?_
  · rintro v m' ⟨hv', S', nx', rfl, rfl⟩
    cases hv'
    simp [z, cr9]
  · rintro v m' ⟨hv', _⟩
    cases hv'
end Go.Pm

/- BkL1: plain: what a rest is. -/
namespace Go.Pm
open Go Go.Proofs

def restN (a b : Int) : Nat := if 0 < a.natAbs % b.natAbs ∧ (decide (a < 0) != decide (b < 0)) = true then b.natAbs - a.natAbs % b.natAbs else a.natAbs % b.natAbs

theorem digs_len_pos (n : Nat) : ltI 0 ↑(digs n).length = decide (0 < n) := by
  rcases Nat.eq_zero_or_pos n with rfl | h
  · rw [digs_zero]; rfl
  · rw [digs_pos h, List.length_cons]
    have h1 : decide (0 < n) = true := decide_eq_true h
    rw [h1]
    exact ltI_t.2 (by omega)

theorem modR_rest (a b : Int) : modR a.natAbs b.natAbs a b = restN a b := by
  unfold modR restN
  rw [digs_len_pos]
  by_cases h : 0 < a.natAbs % b.natAbs
  · simp [h]
  · simp [h]

theorem rest_lt {a b : Int} (hb : b ≠ 0) : restN a b < b.natAbs := by
  have h : a.natAbs % b.natAbs < b.natAbs := Nat.mod_lt _ (by omega)
  unfold restN
  split <;> omega

theorem exN_zero {k n : Int} : exN k n 0 = n.natAbs := by
  unfold exN
  split <;> simp
theorem modV_eq {k a b : Int} {p : Nat} (hk : k = 1 ∨ k = 2) (hb : b ≠ 0) (hp : b.natAbs ≤ if k = 1 then 2 ^ p else 10 ^ p) :
    modV k a ((0 : Nat) : Int) b k p 0 = sgn (decide (b < 0)) (restN a b) ∧ modC k a ((0 : Nat) : Int) b k p 0 = 0 := by
  have hz : eqI b 0 = false := by
    cases h : eqI b 0 with
    | false => rfl
    | true => exact absurd (eqI_t.1 h) hb
  have hE : modE ((0 : Nat) : Int) ((0 : Nat) : Int) = 0 := by decide
  have hX : modX k a ((0 : Nat) : Int) ((0 : Nat) : Int) = a.natAbs := by
    unfold modX
    rw [hE, show ((0 : Nat) : Int) = 0 from rfl, exN_zero]
    simp
  have hY : modY k b ((0 : Nat) : Int) ((0 : Nat) : Int) = b.natAbs := by
    unfold modY
    rw [hE, show ((0 : Nat) : Int) = 0 from rfl, exN_zero]
    simp
  have hM : ∀ R : Nat, fixM k 0 R 0 = R := by
    intro R
    rcases hk with rfl | rfl
    · simp [fixM]
    · simp [fixM]
  have hR := rest_lt (a := a) hb
  unfold modV modC
  rw [hz, hX, hY, hE, modR_rest]
  simp only [Bool.false_eq_true, if_false]
  unfold fixN fixL
  rw [hM, Nat.mod_eq_of_lt (by omega)]
  refine ⟨rfl, ?_⟩
  rw [decide_eq_false (by omega)]
  rfl

theorem modC_zero {k a : Int} {p : Nat} : modC k a ((0 : Nat) : Int) 0 k p 0 = 9 := rfl

/-- What BuiltMod states of a rest. -/
theorem rest_law {a b : Int} (hb : b ≠ 0) : ∃ V, V = sgn (decide (b < 0)) (restN a b) ∧ (V = 0 ∨ (V < 0 ↔ b < 0)) ∧ V < b.natAbs ∧ -(b.natAbs : Int) < V ∧ b ∣ a - V := by
  have hlt := rest_lt (a := a) hb
  obtain ⟨A, hA⟩ : ∃ A, A = a.natAbs := ⟨_, rfl⟩
  obtain ⟨B, hB⟩ : ∃ B, B = b.natAbs := ⟨_, rfl⟩
  have hdm := Nat.div_add_mod A B
  have hmod : A % B < B := Nat.mod_lt _ (by omega)
  obtain ⟨M, hM⟩ : ∃ M, M = B * (A / B) := ⟨_, rfl⟩
  obtain ⟨r, hr⟩ : ∃ r, r = A % B := ⟨_, rfl⟩
  rw [← hM, ← hr] at hdm
  have dM : (b : Int) ∣ (M : Int) := by
    have h1 : (B : Int) ∣ (M : Int) := Int.natCast_dvd_natCast.2 ⟨A / B, hM⟩
    rw [hB] at h1
    exact Int.natAbs_dvd.1 h1
  have dB : (b : Int) ∣ (B : Int) := by
    rw [hB]
    exact Int.dvd_natAbs.2 (Int.dvd_refl b)
  obtain ⟨V, hV⟩ : ∃ V, V = sgn (decide (b < 0)) (restN a b) := ⟨_, rfl⟩
  have hVs : V = if b < 0 then -(restN a b : Int) else restN a b := by
    rw [hV]
    unfold sgn
    simp
  refine ⟨V, hV, ?_, ?_, ?_, ?_⟩
  · by_cases h : b < 0
    · rw [if_pos h] at hVs; omega
    · rw [if_neg h] at hVs; omega
  · split at hVs <;> omega
  · split at hVs <;> omega
  · have key : a - V = M ∨ a - V = -(M : Int) ∨ a - V = M + B ∨ a - V = -(M : Int) - B := by
      unfold restN at hVs
      rw [← hA, ← hB, ← hr] at hVs
      by_cases h1 : a < 0 <;> by_cases h2 : b < 0 <;> by_cases h3 : 0 < r <;> simp [h1, h2, h3] at hVs <;> omega
    rcases key with h | h | h | h <;> rw [h]
    · exact dM
    · exact Int.dvd_neg.2 dM
    · exact Int.dvd_add dM dB
    · exact Int.dvd_sub (Int.dvd_neg.2 dM) dB
end Go.Pm

/- BkC22: contracts: the law of rests. -/
namespace Go.Pm
open Go Go.Proofs
attribute [-simp] List.getElem?_map
attribute [simp] nilCheckA postA_norm

theorem call9R {k n0 n1 : Int} {p q p2 q2 : Nat} {pos1 g1 pos2 g2 e1 e2 : Nat} {m : Mem} (h0 : HasN k p q n0) (h1 : HasN k p q n1) (hv : ValidN k p2 q2)
    (hp1 : m.store[pos1]? = some (g1, .row e1 4 [vlN k n0 q, vlN k n1 q])) (hp2 : m.store[pos2]? = some (g2, .row e2 6 [tyN k p q, tyN k p q])) (hne : pos1 ≠ pos2) :
    ACalls Bk.pg 9 [.str nameM, .row pos1 g1 4 0 2, .row pos2 g2 6 0 2, .agg (tyN k p2 q2)] m fun out m' => out = .ret (.tuple [.agg (vlN k (modV k n0 q n1 k p2 q2) q2), .agg (rz (modC k n0 q n1 k p2 q2)), .int .i64 0]) ∧ m' = (m.turn pos1 .hole).turn pos2 .hole := by
  refine ACalls.keepRow [.str nameM] (e := e1) (els := [vlN k n0 q, vlN k n1 q]) ?_ hp1 (by simp)
  refine ACalls.keepRow [.str nameM, .list true 4 [vlN k n0 q, vlN k n1 q]] (e := e2) (els := [tyN k p q, tyN k p q]) ?_ (by simp only [Mem.turn]; rw [List.getElem?_set_ne hne]; exact hp2) (by simp)
  exact (call9 h0 h1 hv).acalls (by simp [vlN, vl, tyN, ty])

theorem has7 : HasN 2 (15 : Nat) (0 : Nat) (-7) := ⟨⟨.inr ⟨rfl, by omega, by omega⟩, by omega, by omega⟩, ⟨.inr ⟨rfl, by omega, by omega⟩, by omega, by omega⟩, (fun h => absurd h (by decide)), (fun _ => by decide)⟩
theorem has3 : HasN 2 (15 : Nat) (0 : Nat) 3 := ⟨⟨.inr ⟨rfl, by omega, by omega⟩, by omega, by omega⟩, ⟨.inr ⟨rfl, by omega, by omega⟩, by omega, by omega⟩, (fun h => absurd h (by decide)), (fun _ => by decide)⟩

theorem call8 : PCalls Bk.pg 8 [] fun out => out = .ret (.bool true) := by
  refine ok8.pcalls (by simp) ?_
  obtain ⟨e1, e2⟩ := modV_eq (k := 2) (a := -7) (b := 3) (p := 15) (.inr rfl) (by decide) (by decide)
  have e3 : sgn (decide ((3 : Int) < 0)) (restN (-7) 3) = 2 := by decide
  rw [e3] at e1
  have c9 := fun (m : Mem) h1 h2 => call9R (m := m) (pos1 := 0) (g1 := 0) (pos2 := 1) (g2 := 1) (e1 := 24) (e2 := 32) has7 has3 has3.1 h1 h2 (by decide)
  rw [e1, e2] at c9
  have c24 := call24
  have z : eqI 0 0 = true := rfl
  have z2 : eqI 2 2 = true := rfl
  have zs : ((⟨#[]⟩ : ByteArray) == ⟨#[]⟩) = true := by decide
  simp only [tyN, ty, vlN, vl, rz, nameM] at c9 c24
  simp [c8]
  refine xcall_p c24 (by simp) ?_
  simp
  refine xcall_p c24 (by simp) ?_
  simp
  refine xcall_p c24 (by simp) ?_
  simp
  refine xcall_a (c9 _ rfl rfl) ?_
  simp [z, z2, zs, scalarsEq, scalarEq, cr8]
end Go.Pm

/- BkT8: contracts: the law of the names. -/
namespace Go.Pm
open Go Go.Proofs
attribute [-simp] List.getElem?_map
attribute [simp] nilCheckA postA_norm

theorem tx_at {i : Nat} (h : i < 31) : ∃ n, (txR names31)[i]? = some [.str n] := by
  have hl : names31.length = 31 := rfl
  refine ⟨names31[i]'(by omega), ?_⟩
  unfold txR
  rw [List.getElem?_map, List.getElem?_eq_getElem (by omega)]
  rfl

theorem call7 {k : ByteArray} : PCalls Bk.pg 7 [.str k] fun out => out = .ret (.bool true) := by
  refine ok7.pcalls (by simp) ?_
  have c8 := call8
  have c18 := call18 (k := k)
  have c19 := call19 (k := k)
  have c22 := call22 (k := k)
  have c23 := call23 (k := k)
  rw [isN_eq] at c23
  simp [c7]
  refine br_cond rfl (fun h0 => ?_) (fun h0 => ?_)
  · simp
    refine xcall_p c8 (by simp) ?_
    simp [cr7]
  · obtain ⟨a, b, e, c18, c19⟩ : ∃ a b e : Int, PCalls Bk.pg 18 [.str k] (fun out => out = .ret (.tuple [.int .i64 a, .int .i64 b, .int .i64 e])) ∧ PCalls Bk.pg 19 [.str k] (fun out => out = .ret (.tuple [.int .i64 a, .int .i64 b, .int .i64 e])) := by
      cases hk : lkF tabL k with
      | none => rw [hk] at c18 c19; exact ⟨0, 0, 5, c18, c19⟩
      | some r => rw [hk] at c18 c19; exact ⟨r.1, r.2.1, 0, c18, c19⟩
    simp
    refine xcall_p c18 (by simp) ?_
    simp
    refine xcall_p c19 (by simp) ?_
    simp
    refine xcall_p call20 (by simp) ?_
    simp
    refine xcall_p call21 (by simp) ?_
    simp
    refine xcall_p c22 (by simp) ?_
    simp
    refine xcall_p c23 (by simp) ?_
    have za : eqI a a = true := eqI_t.2 rfl
    have zb : eqI b b = true := eqI_t.2 rfl
    have ze : eqI e e = true := eqI_t.2 rfl
    have zl : eqI 31 31 = true := rfl
    have hlen : (txR names31).length = 31 := rfl
    simp [za, zb, ze, zl, hlen]
    refine wpS_loopS (ι := Nat) (fun i => [(9, .list true 1 (txR names31)), (10, .list true 1 (txR names31)), (11, .int .i64 (i : Nat))]) (fun _ => Mem.empty) (fun i => 31 - i) (fun i => i ≤ 31) 0 (by omega) (Sim.of_le (Env.le_of (by simp)) (Mem.le_refl _)) ?_
    rintro i hi
    have hwi : IntKind.i64.wrap ((i : Int) + 1) = (i : Int) + 1 := wrap64 (by omega) (by omega)
    simp [hlen]
    refine br_cond rfl (fun h1 => ?_) (fun h1 => ?_)
    · have hlt : i < 31 := by have := ltI_t.1 h1; omega
      obtain ⟨n, hn⟩ := tx_at hlt
      simp [h1, hn, hlen, eqS_r, hwi]
      exact ⟨i + 1, by omega, by omega, Sim.of_le (Env.le_of (by simp)) (Mem.le_refl _)⟩
    · simp
      refine xcall_p c8 (by simp) ?_
      simp [cr7]
end Go.Pm
