/- LkQ7: contracts: R34's Map. -/
import Derived.Test.YtolfkdphlgkekaaGe
import Derived.Test.YtolfkdphlgkekaaGc
import Derived.Test.YtolfkdphlgkekaaGd
import Derived.Shelf.Strings.BuilderX
import Derived.Shelf.RegionOpenPlain
import Derived.Lib.Strings
import Derived.Lib.Walk
import Derived.Lib.Builder
import Derived.Lib.UnsafeStr
import Derived.WalkKit
import Derived.Laws.Externs
import Derived.Shelf.Strings.Builder1
namespace Go.Pm
open Go Go.Proofs
attribute [-simp] List.getElem?_map List.map_append List.map_take List.map_drop ByteArray.size_append

def mapAV (x : Img) : AV := if imgOk x then .tuple [.str (mapText x), .int .i64 0] else .tuple [.str ⟨#[]⟩, .int .i64 1]

/-- The names at a place, of the first. -/
def namesTo (x : Img) (k : Int) (i : Nat) : List ByteArray := ((x.names.take i).filter fun d => eqI d.at_ k).map (·.name)
theorem namesTo_succ {x : Img} {k : Int} {i : Nat} (h : i < x.names.length) : namesTo x k (i + 1) = namesTo x k i ++ (if eqI (ix x.names i).at_ k then [(ix x.names i).name] else []) := by
  unfold namesTo
  rw [take_ix h, List.filter_append, List.map_append]
  congr 1
  cases h1 : eqI (ix x.names i).at_ k <;> simp [h1]
theorem namesTo_len {x : Img} {k : Int} (i : Nat) : (namesTo x k i).length ≤ x.names.length := by
  unfold namesTo
  rw [List.length_map]
  have h1 := List.length_filter_le (fun d : DDef => eqI d.at_ k) (x.names.take i)
  rw [List.length_take] at h1
  omega
def defsTo (x : Img) (k : Int) (i : Nat) : List DRow := ((x.defs.take i).filter fun d => eqI d.at_ k).map rowD
theorem defsTo_succ {x : Img} {k : Int} {i : Nat} (h : i < x.defs.length) : defsTo x k (i + 1) = defsTo x k i ++ (if eqI (ix x.defs i).at_ k then [rowD (ix x.defs i)] else []) := by
  unfold defsTo
  rw [take_ix h, List.filter_append, List.map_append]
  congr 1
  cases h1 : eqI (ix x.defs i).at_ k <;> simp [h1]
def nameRows (k : Int) (l : List ByteArray) : List DRow := l.map fun s => ⟨k, false, s⟩
theorem rowsAt_parts (x : Img) (k : Int) : rowsAt x k = nameRows k (sortBy ltS (namesTo x k x.names.length)) ++ defsTo x k x.defs.length := by
  unfold rowsAt nameRows namesTo defsTo
  rw [List.take_length, List.take_length]

theorem lineR_eq (r : DRow) : lineR r = hexF r.at_.toNat 6 ++ (if r.isDef then ⟨#[32, 32, 32]⟩ else ⟨#[32]⟩) ++ r.text ++ ⟨#[10]⟩ := rfl

theorem catL_size : ∀ {l : List DRow}, (∀ r ∈ l, r.text.size ≤ 31) → (catS (l.map lineR)).size ≤ 41 * l.length
  | [], _ => Nat.zero_le _
  | r :: l, h => by
    rw [List.map_cons, catS, ByteArray.size_append]
    have h1 := lineR_size (h r (by simp))
    have h2 := catL_size (l := l) (fun r hr => h r (by simp [hr]))
    rw [List.length_cons]; omega
theorem catL_snoc (l : List DRow) (r : DRow) : catS ((l ++ [r]).map lineR) = catS (l.map lineR) ++ lineR r := by rw [List.map_append, catS_app, List.map_cons, List.map_nil, catS_one]

theorem get_txtR {S : List ByteArray} {i : Nat} (h : i < S.length) : (textsR S)[i]? = some [.str (ix S i)] := idxM (f := fun s => [AV.str s]) (ltN h)
theorem txtR_len (S : List ByteArray) : (textsR S).length = S.length := by simp [textsR]

set_option maxHeartbeats 4000000 in
theorem call19 (x : Img) (hx : x.Small) (hlen : x.names.length + x.defs.length ≤ 3000000000000) : PCalls Try.prog 19 [.agg x.av] fun out => out = .ret (mapAV x) := by
  refine ok19.pcalls (by simp) ?_
  simp [c19, Img.av]
  refine xcall_p (call31a x hx) (by simp [Img.av]) ?_
  cases hi : imgOk x with
  | false => simp [cr19, mapAV, hi]
  | true =>
  have ht := imgOk_told hi
  obtain ⟨hb0, hb1⟩ := ht.base
  have he := ht.end_
  obtain ⟨E, hE⟩ : ∃ E, E = x.base + (x.code.size : Int) := ⟨_, rfl⟩
  have hwe : IntKind.i64.wrap (x.base + x.code.size) = E := by rw [hE]; exact wrap64 (by omega) (by omega)
  simp
  refine wpS_loopS (ι := Nat × Nat) (fun g => [(1, .ptr 0 0 0), (4, .str (catS ((rowsTo x g.1).map lineR))), (5, .int .i64 (x.base + g.1))]) (fun g => ⟨[(0, .cells x.av)], g.2⟩) (fun g => x.code.size + 1 - g.1)
    (fun g => g.1 ≤ x.code.size + 1 ∧ (catS ((rowsTo x g.1).map lineR)).size ≤ g.1 * 123000000000000) (0, 1) ⟨Nat.zero_le _, by exact (by decide : (0 : Nat) ≤ 0 * 123000000000000)⟩ (Sim.of_le (Env.le_of (by simp [rowsTo, catS])) (Mem.le_of rfl (by simp [Img.av]))) ?_
  rintro ⟨j, nx⟩ ⟨hj, hsz⟩
  simp only at hj hsz
  obtain ⟨T, hT⟩ : ∃ T, T = catS ((rowsTo x j).map lineR) := ⟨_, rfl⟩
  obtain ⟨k, hk⟩ : ∃ k : Nat, (k : Int) = x.base + (j : Int) := ⟨(x.base + (j : Int)).toNat, by omega⟩
  rw [← hT] at hsz
  simp only [← hT, ← hk]
  simp [Img.av, hwe]
  refine br_cond rfl (fun h => ?_) (fun h => ?_)
  · have hlt : j ≤ x.code.size := by have := leI_t.1 h; omega
    have hwk : IntKind.i64.wrap (k + 1) = k + 1 := wrap64 (by omega) (by omega)
    simp
    -- the names at this place
    refine wpS_loopS (ι := Nat × (Nat × Nat)) (fun g => [(1, .ptr 0 0 0), (4, .str T), (5, .int .i64 k), (6, .row 1 g.2.1 1 0 (namesTo x k g.1).length), (7, .int .i64 g.1)]) (fun g => ⟨[(0, .cells x.av), (g.2.1, .row 9 1 (textsR (namesTo x k g.1)))], g.2.2⟩) (fun g => x.names.length - g.1)
      (fun g => g.1 ≤ x.names.length) (0, (nx, nx + 1)) (Nat.zero_le _) (Sim.after (Sim.nil_env 6 9 (sz := 1) (by omega) rfl) (Sim.of_le (Env.le_of (by simp [namesTo])) (Mem.le_of rfl (by simp [Img.av, namesTo, textsR])))) ?_
    rintro ⟨i, g, nx1⟩ hin
    simp only at hin
    have hw : IntKind.i64.wrap (i + 1) = i + 1 := wrap64 (by omega) (by omega)
    simp [Img.av]
    refine br_cond rfl (fun h2 => ?_) (fun h2 => ?_)
    · have hlt2 : i < x.names.length := by have := ltI_t.1 h2; omega
      have hs := namesTo_succ (k := k) hlt2
      have hnl := namesTo_len (x := x) (k := k) i
      have b1 : ((namesTo x k i).length + 1) * 16 ≤ 140737488355328 := by omega
      have b2 : (namesTo x k i).length + 1 ≤ 9223372036854775807 := by omega
      simp [h2, idxM, DDef.av]
      cases h3 : eqI (ix x.names i).at_ k with
      | true =>
        rw [h3] at hs
        simp only [if_true] at hs
        simp [h2, idxM, DDef.av, appendA, textsR, b1, b2, List.range_succ, hw]
        exact ⟨i + 1, by omega, by omega, nx1 + 1, nx1 + 2, Sim.of_le (Env.le_of (by simp [hs])) (Mem.le_of rfl (by simp [hs, List.map_append]))⟩
      | false =>
        rw [h3] at hs
        simp only [Bool.false_eq_true, if_false, List.append_nil] at hs
        simp [hw]
        exact ⟨i + 1, by omega, by omega, g, nx1, Sim.of_le (Env.le_of (by simp [hs])) (Mem.le_of rfl (by simp [hs]))⟩
    have hid : i = x.names.length := by have := ltI_f.1 h2; omega
    subst hid
    have h2' : ltI (x.names.length : Int) x.names.length = false := h2
    obtain ⟨N, hN⟩ : ∃ N, N = namesTo x k x.names.length := ⟨_, rfl⟩
    have hNl := namesTo_len (x := x) (k := k) x.names.length
    rw [← hN] at hNl
    simp [h2', ← hN]
    refine xcall_p (call46 false N (by omega)) (by simp [textsR]) ?_
    obtain ⟨S, hS⟩ : ∃ S, S = sortBy ltS N := ⟨_, rfl⟩
    have hSl : S.length = N.length := by rw [hS, sortBy_len]
    have hSm : ∀ s ∈ S, s.size ≤ 31 := fun s hs => by
      rw [hS, (sortBy_perm N).mem_iff, hN] at hs
      unfold namesTo at hs
      obtain ⟨d, hd, rfl⟩ := List.mem_map.1 hs
      exact (ht.names d (List.mem_of_mem_take (List.mem_filter.1 hd).1)).1
    have htn : (k : Int).toNat = k := Int.toNat_natCast k
    have hk1 : k ≤ 1000000000000 := by omega
    have hstart : T ++ catS ((nameRows k (S.take 0)).map lineR) = T := app_empty T
    simp [← hS]
    refine wpS_loopS (ι := Nat × Nat) (fun g => [(1, .ptr 0 0 0), (4, .str (T ++ catS ((nameRows k (S.take g.1)).map lineR))), (5, .int .i64 k), (6, .list true 1 (textsR S)), (8, .int .i64 g.1)]) (fun g => ⟨[(0, .cells x.av)], g.2⟩) (fun g => S.length - g.1)
      (fun g => g.1 ≤ S.length) (0, nx1) (Nat.zero_le _) (Sim.of_le (Env.le_of (by simp only [hstart]; simp)) (Mem.le_of rfl (by simp [Img.av]))) ?_
    clear h2 h2'
    rintro ⟨i, nx2⟩ hin2
    simp only at hin2
    have hw : IntKind.i64.wrap (i + 1) = i + 1 := wrap64 (by omega) (by omega)
    simp [Img.av, txtR_len]
    refine br_cond rfl (fun h2 => ?_) (fun h2 => ?_)
    · have hlt2 : i < S.length := by have := ltI_t.1 h2; omega
      obtain ⟨s, hs⟩ : ∃ s, s = ix S i := ⟨_, rfl⟩
      have hs31 : s.size ≤ 31 := hSm s (by rw [hs]; exact ix_mem hlt2)
      have hsn : nameRows k (S.take (i + 1)) = nameRows k (S.take i) ++ [⟨k, false, s⟩] := by
        unfold nameRows
        rw [take_ix hlt2, List.map_append, ← hs]; rfl
      have hcs := catL_snoc (nameRows k (S.take i)) ⟨k, false, s⟩
      rw [← hsn, lineR_eq] at hcs
      simp only [htn, Bool.false_eq_true, if_false] at hcs
      have hz := catL_size (l := nameRows k (S.take i)) (fun r hr => by
        obtain ⟨s, hs, rfl⟩ := List.mem_map.1 hr
        exact hSm s (List.mem_of_mem_take hs))
      have hzl : (nameRows k (S.take i)).length = i := by unfold nameRows; rw [List.length_map, List.length_take]; omega
      rw [hzl] at hz
      obtain ⟨U, hU⟩ : ∃ U, U = catS ((nameRows k (S.take i)).map lineR) := ⟨_, rfl⟩
      rw [← hU] at hcs hz
      rw [← hU]
      have c1 : (hexF k 6).size + (⟨#[32]⟩ : ByteArray).size ≤ 9223372036854775807 := by rw [hexF_size]; exact (by decide : 6 + (⟨#[32]⟩ : ByteArray).size ≤ 9223372036854775807)
      have s32 : (⟨#[32]⟩ : ByteArray).size = 1 := rfl
      have s10 : (⟨#[10]⟩ : ByteArray).size = 1 := rfl
      have c2 : (hexF k 6 ++ ⟨#[32]⟩).size + s.size ≤ 9223372036854775807 := by rw [ByteArray.size_append, hexF_size, s32]; omega
      have c3 : (hexF k 6 ++ ⟨#[32]⟩ ++ s).size + (⟨#[10]⟩ : ByteArray).size ≤ 9223372036854775807 := by rw [ByteArray.size_append, ByteArray.size_append, hexF_size, s32, s10]; omega
      have c4 : (T ++ U).size + (hexF k 6 ++ ⟨#[32]⟩ ++ s ++ ⟨#[10]⟩).size ≤ 9223372036854775807 := by rw [ByteArray.size_append, ByteArray.size_append, ByteArray.size_append, ByteArray.size_append, hexF_size, s32, s10]; omega
      have hg := get_txtR hlt2
      rw [← hs] at hg
      simp [h2, hg, txtR_len]
      refine xdcall_p rfl (call47 k 6 hk1 (by omega)) (by simp) ?_
      simp [h2, hg, txtR_len, c1, c2, c3, c4, hw]
      exact ⟨i + 1, by omega, by omega, nx2, Sim.of_le (Env.le_of (by simp [hcs, app_assoc])) (Mem.le_of rfl (by simp))⟩
    have hid : i = S.length := by have := ltI_f.1 h2; omega
    subst hid
    have h2' : ltI (S.length : Int) S.length = false := h2
    have hST : S.take S.length = S := List.take_length
    obtain ⟨T2, hT2⟩ : ∃ T2, T2 = T ++ catS ((nameRows k S).map lineR) := ⟨_, rfl⟩
    have hz2 : T2.size ≤ j * 123000000000000 + 41 * N.length := by
      have hz := catL_size (l := nameRows k S) (fun r hr => by
        obtain ⟨s, hs, rfl⟩ := List.mem_map.1 hr
        exact hSm s hs)
      have hzl : (nameRows k S).length = N.length := by unfold nameRows; rw [List.length_map, hSl]
      rw [hT2, ByteArray.size_append]
      omega
    simp [h2', txtR_len, hST, ← hT2]
    -- the definitions at this place
    have hstart2 : T2 ++ catS ((defsTo x k 0).map lineR) = T2 := app_empty T2
    refine wpS_loopS (ι := Nat × Nat) (fun g => [(1, .ptr 0 0 0), (4, .str (T2 ++ catS ((defsTo x k g.1).map lineR))), (5, .int .i64 k), (9, .int .i64 g.1)]) (fun g => ⟨[(0, .cells x.av)], g.2⟩) (fun g => x.defs.length - g.1)
      (fun g => g.1 ≤ x.defs.length) (0, nx2) (Nat.zero_le _) (Sim.of_le (Env.le_of (by simp only [hstart2]; simp)) (Mem.le_of rfl (by simp [Img.av]))) ?_
    clear h2 h2' hin2 hw nx2
    rintro ⟨i, nx2⟩ hin2
    simp only at hin2
    have hw : IntKind.i64.wrap (i + 1) = i + 1 := wrap64 (by omega) (by omega)
    simp [Img.av]
    refine br_cond rfl (fun h2 => ?_) (fun h2 => ?_)
    · have hlt2 : i < x.defs.length := by have := ltI_t.1 h2; omega
      have hs := defsTo_succ (k := (k : Int)) hlt2
      simp [h2, idxM, DDef.av]
      cases h3 : eqI (ix x.defs i).at_ k with
      | true =>
        rw [h3] at hs
        simp only [if_true] at hs
        obtain ⟨s, hs0⟩ : ∃ s, s = (ix x.defs i).name := ⟨_, rfl⟩
        have hs31 : s.size ≤ 31 := by rw [hs0]; exact (ht.defs _ (ix_mem hlt2)).1
        have hat := eqI_t.1 h3
        have hcs := catL_snoc (defsTo x k i) (rowD (ix x.defs i))
        rw [← hs, lineR_eq] at hcs
        simp only [rowD, hat, htn, if_true, ← hs0] at hcs
        have hz := catL_size (l := defsTo x k i) (fun r hr => by
          unfold defsTo at hr
          obtain ⟨d, hd, rfl⟩ := List.mem_map.1 hr
          exact (ht.defs d (List.mem_of_mem_take (List.mem_filter.1 hd).1)).1)
        have hzl : (defsTo x k i).length ≤ x.defs.length := by
          unfold defsTo
          rw [List.length_map]
          have h1 := List.length_filter_le (fun d : DDef => eqI d.at_ k) (x.defs.take i)
          rw [List.length_take] at h1
          omega
        obtain ⟨U, hU⟩ : ∃ U, U = catS ((defsTo x k i).map lineR) := ⟨_, rfl⟩
        rw [← hU] at hcs hz
        rw [← hU]
        have s32 : (⟨#[32, 32, 32]⟩ : ByteArray).size = 3 := rfl
        have s10 : (⟨#[10]⟩ : ByteArray).size = 1 := rfl
        have c1 : (hexF k 6).size + (⟨#[32, 32, 32]⟩ : ByteArray).size ≤ 9223372036854775807 := by rw [hexF_size, s32]; omega
        have c2 : (hexF k 6 ++ ⟨#[32, 32, 32]⟩).size + s.size ≤ 9223372036854775807 := by rw [ByteArray.size_append, hexF_size, s32]; omega
        have c3 : (hexF k 6 ++ ⟨#[32, 32, 32]⟩ ++ s).size + (⟨#[10]⟩ : ByteArray).size ≤ 9223372036854775807 := by rw [ByteArray.size_append, ByteArray.size_append, hexF_size, s32, s10]; omega
        have c4 : (T2 ++ U).size + (hexF k 6 ++ ⟨#[32, 32, 32]⟩ ++ s ++ ⟨#[10]⟩).size ≤ 9223372036854775807 := by rw [ByteArray.size_append, ByteArray.size_append, ByteArray.size_append, ByteArray.size_append, hexF_size, s32, s10]; omega
        simp
        refine xdcall_p rfl (call47 k 6 hk1 (by omega)) (by simp) ?_
        simp [h2, idxM, DDef.av, ← hs0, c1, c2, c3, c4, hw]
        exact ⟨i + 1, by omega, by omega, nx2, Sim.of_le (Env.le_of (by simp [hcs, app_assoc])) (Mem.le_of rfl (by simp))⟩
      | false =>
        rw [h3] at hs
        simp only [Bool.false_eq_true, if_false, List.append_nil] at hs
        simp [hw]
        exact ⟨i + 1, by omega, by omega, nx2, Sim.of_le (Env.le_of (by simp [hs])) (Mem.le_of rfl (by simp))⟩
    have hid : i = x.defs.length := by have := ltI_f.1 h2; omega
    subst hid
    have h2' : ltI (x.defs.length : Int) x.defs.length = false := h2
    have hz3 := catL_size (l := defsTo x k x.defs.length) (fun r hr => by
      unfold defsTo at hr
      obtain ⟨d, hd, rfl⟩ := List.mem_map.1 hr
      exact (ht.defs d (List.mem_of_mem_take (List.mem_filter.1 hd).1)).1)
    have hzl3 : (defsTo x k x.defs.length).length ≤ x.defs.length := by
      unfold defsTo
      rw [List.length_map]
      have h1 := List.length_filter_le (fun d : DDef => eqI d.at_ k) (x.defs.take x.defs.length)
      rw [List.length_take] at h1
      omega
    have hnext : catS ((rowsTo x (j + 1)).map lineR) = T2 ++ catS ((defsTo x k x.defs.length).map lineR) := by
      rw [rowsTo, ← hk, rowsAt_parts, ← hN, ← hS, List.map_append, catS_app, List.map_append, catS_app, ← hT, hT2, app_assoc]
    have hk2 : x.base + ((j : Int) + 1) = k + 1 := by omega
    simp [h2', hwk]
    refine ⟨j + 1, ⟨by omega, ?_⟩, by omega, nx2, Sim.of_le (Env.le_of (by simp [hnext, hk2])) (Mem.le_of rfl (by simp))⟩
    rw [hnext, ByteArray.size_append]
    omega
  · have hjE : j = x.code.size + 1 := by have := leI_f.1 h; omega
    rw [hjE, rows_law ht] at hT
    simp [h, cr19, mapAV, hi, mapText, hT]
end Go.Pm

/- LkT5: contracts: the rows of a map: two sorted pieces become one. -/
namespace Go.Pm
open Go Go.Proofs
attribute [-simp] List.getElem?_map Mem.obj Mem.put List.map_set List.map_append List.map_take List.map_drop

/-- The code that merges longer pieces. -/
def g85 : SC := c85.snd.snd
def v85 : SC := g85.snd.snd.snd.snd
def h85 : SC := v85.snd.snd
def k85 : SC := h85.snd.snd
def l85 : SC := k85.snd
theorem p85 : c85 = .seq c85.fst (.seq c85.snd.fst g85) := rfl
theorem q85 : g85 = .seq g85.fst (.seq g85.snd.fst (.seq g85.snd.snd.fst (.seq g85.snd.snd.snd.fst v85))) := rfl
theorem w85 : v85 = .seq v85.fst (.seq v85.snd.fst h85) := rfl
theorem r85 : h85 = .seq h85.fst (.seq h85.snd.fst k85) := rfl
theorem s85 : k85 = .seq k85.fst l85 := rfl

theorem half {i j h : Nat} (hh : h = (i + j) / 2) (hb : i + j ≤ 9000000000000000000) : IntKind.i64.wrap ((IntKind.u64.wrap (IntKind.i64.wrap (↑i + ↑j))).fdiv (2 ^ min 1 IntKind.u64.bits)) = (h : Int) := by
  have e1 : IntKind.i64.wrap ((i : Int) + j) = ((i + j : Nat) : Int) := wrapN (by omega) (by omega)
  have e2 : IntKind.u64.wrap ((i + j : Nat) : Int) = ((i + j : Nat) : Int) := by
    simp only [IntKind.wrap, IntKind.bits, IntKind.signed]
    simp
    omega
  have e3 : (((i + j : Nat) : Int)).fdiv (2 ^ min 1 IntKind.u64.bits) = (h : Int) := by
    have : (2 : Int) ^ min 1 IntKind.u64.bits = 2 := rfl
    rw [this, Int.fdiv_eq_ediv_of_nonneg _ (by omega)]
    omega
  rw [e1, e2, e3]
  exact wrapN rfl (by omega)

set_option maxRecDepth 10000 in
theorem one85 (m : Mem) (pos gen n : Nat) (A : List DRow) (x : DRow) (Y B : List DRow) (h : m.obj pos gen = some (rowsR (A ++ ([x] ++ (Y ++ B))))) (hn : (A ++ ([x] ++ (Y ++ B))).length = n) (a c b : Nat) (ha : a = A.length) (hc : c = A.length + 1) (hb : b = A.length + (1 + Y.length))
    (hx : x.Fit) (hfit : ∀ r ∈ Y, r.Fit) (hs : Srt ltR Y) (hl : n ≤ 3000000000000) :
    ACalls Try.prog 85 [.row pos gen 3 0 n, .int .i64 a, .int .i64 c, .int .i64 b, .fn 41 []] m fun out m' => out = .ret (.tuple []) ∧ m' = m.put pos gen (rowsR (A ++ (sortBy ltR ([x] ++ Y) ++ B))) := by
  refine ok85.acalls (by simp) ?_
  have hln : A.length + (1 + (Y.length + B.length)) = n := by simp at hn; omega
  have hw1 : IntKind.i64.wrap (c - a) = ((1 : Nat) : Int) := wrapN (by omega) (by omega)
  have h11 : eqI 1 1 = true := rfl
  rw [p85]
  simp [c85, SC.fst, SC.snd, hw1, h11]
  obtain ⟨L, hL⟩ : ∃ L, L = A ++ ([x] ++ (Y ++ B)) := ⟨_, rfl⟩
  have hLl : L.length = n := by rw [hL]; exact hn
  have ix0 : ix L a = x := by rw [hL]; exact ix_at' ha
  refine wpS_loopS (ι := Nat × Nat) (fun g => [(0, .row pos gen 3 0 n), (1, .int .i64 a), (4, .fn 41 []), (10, .int .i64 (c + g.1 : Nat)), (11, .int .i64 (c + g.2 : Nat))]) (fun g => m.put pos gen (rowsR L)) (fun g => g.2 - g.1)
    (fun g => g.1 ≤ g.2 ∧ g.2 ≤ Y.length ∧ (∀ e, e < g.1 → ltR (ix Y e) x = true) ∧ (∀ e, g.2 ≤ e → e < Y.length → ltR (ix Y e) x = false)) (0, Y.length) ⟨Nat.zero_le _, Nat.le_refl _, fun e h1 => by omega, fun e h1 h2 => by omega⟩
    (Sim.of_le (Env.le_of (by simp; omega)) (by rw [hL, put_obj h]; exact Mem.le_refl m)) ?_
  rintro ⟨lo, hi⟩ ⟨g1, g2, g3, g4⟩
  simp only at g1 g2 g3 g4
  obtain ⟨i, hi'⟩ : ∃ i, i = c + lo := ⟨_, rfl⟩
  obtain ⟨j, hj⟩ : ∃ j, j = c + hi := ⟨_, rfl⟩
  simp only [← hi', ← hj]
  simp
  refine br_cond rfl (fun h1 => ?_) (fun h1 => ?_)
  · have hlt : lo < hi := by have := ltI_t.1 h1; omega
    obtain ⟨g, hg⟩ : ∃ g, g = (i + j) / 2 := ⟨_, rfl⟩
    have hwg := half hg (by omega)
    obtain ⟨u, hu⟩ : ∃ u, u = g - c := ⟨_, rfl⟩
    have hu1 : lo ≤ u := by omega
    have hu2 : u < hi := by omega
    obtain ⟨z, hz⟩ : ∃ z, z = ix Y u := ⟨_, rfl⟩
    have hzf : z.Fit := by rw [hz]; exact hfit _ (ix_mem (by omega))
    have iz : ix L g = z := by
      rw [hL, ix_app_r (by omega), ix_app_r (by simp; omega), ix_app_l (by simp; omega), hz]
      congr 1; simp; omega
    have l1 : ltI (g : Int) n = true := ltN (by omega)
    have l2 : ltI (a : Int) n = true := ltN (by omega)
    have e1 := get_ix (p := g) (by omega) iz
    have e2 := get_ix (p := a) (by omega) ix0
    have hwg1 : IntKind.i64.wrap (g + 1) = g + 1 := wrap64 (by omega) (by omega)
    simp [hwg, l1, l2, obj_put h, rowsR, e1, e2, av_len, av_take]
    refine xdopsv_p (caps := []) (xs := [.agg z.av, .agg x.av]) rfl (call41 z x hzf hx) (row_args _ _ _) ?_
    simp [cmpR_lt]
    refine br_cond rfl (fun h3 => ?_) (fun h3 => ?_)
    · simp [hwg1]
      exact ⟨u + 1, hi, ⟨by omega, g2, fun e he => by
        refine stoR.lt_of_le_lt (hs.le stoR (show e ≤ u by omega) (by omega)) ?_
        rw [← hz]; exact h3, g4⟩, by omega, Sim.of_le (Env.le_of (by simp; omega)) (Mem.le_refl _)⟩
    · simp
      exact ⟨lo, u, ⟨hu1, by omega, g3, fun e he1 he2 => by
        refine le_iff.1 (stoR.le_trans (b := ix Y u) ?_ (hs.le stoR he1 he2))
        rw [← hz]; exact le_iff.2 h3⟩, by omega, Sim.of_le (Env.le_of (by simp; omega)) (Mem.le_refl _)⟩
  · have hij : lo = hi := by have := ltI_f.1 h1; omega
    subst hij
    have hres := stoR.put (S := Y) (y := x) (j := lo) g2 hs (fun k hk => stoR.le_of_lt (g3 k hk)) (fun k hk1 hk2 => le_iff.2 (g4 k hk1 hk2))
    simp
    obtain ⟨i1, hi1⟩ : ∃ i1, i1 = a + lo := ⟨_, rfl⟩
    have hwi : IntKind.i64.wrap (i - 1) = (i1 : Int) := wrapN (by omega) (by omega)
    refine wpS_loopS (ι := Nat) (fun t => [(0, .row pos gen 3 0 n), (10, .int .i64 i), (13, .int .i64 (a + t : Nat))]) (fun t => m.put pos gen (rowsR (A ++ (Y.take t ++ (x :: (Y.drop t ++ B)))))) (fun t => lo - t) (fun t => t ≤ lo) 0 (Nat.zero_le _)
      (Sim.of_le (Env.le_of (by simp)) (by rw [hL]; exact Mem.le_refl _)) ?_
    intro t ht
    obtain ⟨k, hk⟩ : ∃ k, k = a + t := ⟨_, rfl⟩
    obtain ⟨L2, hL2⟩ : ∃ L2, L2 = A ++ (Y.take t ++ (x :: (Y.drop t ++ B))) := ⟨_, rfl⟩
    have hL2l : L2.length = n := by rw [hL2]; simp; omega
    rw [← hk, ← hL2]
    simp [hwi]
    refine br_cond rfl (fun h2 => ?_) (fun h2 => ?_)
    · have hlt : t < lo := by have := ltI_t.1 h2; omega
      obtain ⟨q, hq⟩ : ∃ q, q = k + 1 := ⟨_, rfl⟩
      have hwk : IntKind.i64.wrap (k + 1) = (q : Int) := wrapN (by omega) (by omega)
      obtain ⟨z, hz⟩ : ∃ z, z = ix Y t := ⟨_, rfl⟩
      have hdr := drop_ix' (l := Y) (k := t) (by omega)
      rw [← hz] at hdr
      have iz : ix L2 q = z := by
        rw [hL2, hdr, show A ++ (Y.take t ++ (x :: (z :: Y.drop (t + 1) ++ B))) = (A ++ (Y.take t ++ [x])) ++ z :: (Y.drop (t + 1) ++ B) by simp]
        exact ix_at' (by simp; omega)
      have iy : ix L2 k = x := by
        rw [hL2, ← List.append_assoc]
        exact ix_at' (by simp; omega)
      have hsw : (L2.set k z).set q x = A ++ (Y.take (t + 1) ++ (x :: (Y.drop (t + 1) ++ B))) := by
        have e : swp L2 k q = (L2.set k z).set q x := by unfold swp; rw [iy, iz]
        rw [← e, hL2, hdr]
        have := swp_next (P := A ++ Y.take t) (x := x) (y := z) (R := Y.drop (t + 1) ++ B) (i := k) (by simp; omega)
        rw [← hq] at this
        simp only [List.append_assoc, List.cons_append, List.nil_append] at this ⊢
        rw [this, take_ix (by omega), ← hz]
        simp
      have l1 : ltI (k : Int) n = true := ltN (by omega)
      have l2 : ltI (q : Int) n = true := ltN (by omega)
      have l3 : ltI (q : Int) (L2.set k z).length = true := ltN (by rw [List.length_set]; omega)
      have e1 := get_ix (p := k) (by omega) iy
      have e2 := get_ix (p := q) (by omega) iz
      simp [hwk, l1, l2, obj_put h, rowsR, e1, e2, av_len, av_take, av_all, av_drop, put_put, set_av', idxM l3, hsw]
      exact ⟨t + 1, by omega, by omega, Sim.of_le (Env.le_of (by simp; omega)) (Mem.le_refl _)⟩
    · have htl : t = lo := by have := ltI_f.1 h2; omega
      subst htl
      simp [cr85, postA, endPost]
      rw [hL2, ← hres]
      simp

set_option maxRecDepth 10000 in
theorem two85 (m : Mem) (pos gen n : Nat) (A : List DRow) (y : DRow) (X B : List DRow) (h : m.obj pos gen = some (rowsR (A ++ (X ++ ([y] ++ B))))) (hn : (A ++ (X ++ ([y] ++ B))).length = n) (a c b : Nat) (ha : a = A.length) (hc : c = A.length + X.length) (hb : b = A.length + (X.length + 1))
    (hX : 1 < X.length) (hy : y.Fit) (hfit : ∀ r ∈ X, r.Fit) (hs : Srt ltR X) (hl : n ≤ 3000000000000) :
    ACalls Try.prog 85 [.row pos gen 3 0 n, .int .i64 a, .int .i64 c, .int .i64 b, .fn 41 []] m fun out m' => out = .ret (.tuple []) ∧ m' = m.put pos gen (rowsR (A ++ (sortBy ltR (X ++ [y]) ++ B))) := by
  refine ok85.acalls (by simp) ?_
  have hln : A.length + (X.length + (1 + B.length)) = n := by simp at hn; omega
  have hperm : (y :: X).Perm (X ++ [y]) := (List.perm_append_singleton y X).symm
  obtain ⟨xl, hxl⟩ : ∃ xl, xl = X.length := ⟨_, rfl⟩
  have hw0 : IntKind.i64.wrap (c - a) = (xl : Int) := wrapN (by omega) (by omega)
  have hw1 : IntKind.i64.wrap (b - c) = ((1 : Nat) : Int) := wrapN (by omega) (by omega)
  have h11 : eqI 1 1 = true := rfl
  have h12 : eqI (xl : Int) 1 = false := eqI_f.2 (by omega)
  rw [p85]
  simp [c85, SC.fst, SC.snd, hw0, hw1, h11, h12]
  obtain ⟨L, hL⟩ : ∃ L, L = A ++ (X ++ ([y] ++ B)) := ⟨_, rfl⟩
  have hLl : L.length = n := by rw [hL]; exact hn
  have ix0 : ix L c = y := by rw [hL, ← List.append_assoc]; exact ix_at' (by simp; omega)
  refine wpS_loopS (ι := Nat × Nat) (fun g => [(0, .row pos gen 3 0 n), (1, .int .i64 a), (2, .int .i64 c), (4, .fn 41 []), (14, .int .i64 (a + g.1 : Nat)), (15, .int .i64 (a + g.2 : Nat))]) (fun g => m.put pos gen (rowsR L)) (fun g => g.2 - g.1)
    (fun g => g.1 ≤ g.2 ∧ g.2 ≤ X.length ∧ (∀ e, e < g.1 → ltR y (ix X e) = false) ∧ (∀ e, g.2 ≤ e → e < X.length → ltR y (ix X e) = true)) (0, X.length) ⟨Nat.zero_le _, Nat.le_refl _, fun e h1 => by omega, fun e h1 h2 => by omega⟩
    (Sim.of_le (Env.le_of (by simp; omega)) (by rw [hL, put_obj h]; exact Mem.le_refl m)) ?_
  rintro ⟨lo, hi⟩ ⟨g1, g2, g3, g4⟩
  simp only at g1 g2 g3 g4
  obtain ⟨i, hi'⟩ : ∃ i, i = a + lo := ⟨_, rfl⟩
  obtain ⟨j, hj⟩ : ∃ j, j = a + hi := ⟨_, rfl⟩
  simp only [← hi', ← hj]
  simp
  refine br_cond rfl (fun h1 => ?_) (fun h1 => ?_)
  · have hlt : lo < hi := by have := ltI_t.1 h1; omega
    obtain ⟨g, hg⟩ : ∃ g, g = (i + j) / 2 := ⟨_, rfl⟩
    have hwg := half hg (by omega)
    obtain ⟨u, hu⟩ : ∃ u, u = g - a := ⟨_, rfl⟩
    have hu1 : lo ≤ u := by omega
    have hu2 : u < hi := by omega
    obtain ⟨z, hz⟩ : ∃ z, z = ix X u := ⟨_, rfl⟩
    have hzf : z.Fit := by rw [hz]; exact hfit _ (ix_mem (by omega))
    have iz : ix L g = z := by
      rw [hL, ix_app_r (by omega), ix_app_l (by omega), hz]
      congr 1; omega
    have l1 : ltI (g : Int) n = true := ltN (by omega)
    have l2 : ltI (c : Int) n = true := ltN (by omega)
    have e1 := get_ix (p := g) (by omega) iz
    have e2 := get_ix (p := c) (by omega) ix0
    have hwg1 : IntKind.i64.wrap (g + 1) = g + 1 := wrap64 (by omega) (by omega)
    simp [hwg, l1, l2, obj_put h, rowsR, e1, e2, av_len, av_take]
    refine xdopsv_p (caps := []) (xs := [.agg y.av, .agg z.av]) rfl (call41 y z hy hzf) (row_args _ _ _) ?_
    simp [cmpR_lt]
    cases h3 : ltR y z with
    | false =>
      simp [hwg1]
      exact ⟨u + 1, hi, ⟨by omega, g2, fun e he => by
        refine le_iff.1 (stoR.le_trans (b := ix X u) (hs.le stoR (show e ≤ u by omega) (by omega)) ?_)
        rw [← hz]; exact le_iff.2 h3, g4⟩, by omega, Sim.of_le (Env.le_of (by simp; omega)) (Mem.le_refl _)⟩
    | true =>
      simp
      exact ⟨lo, u, ⟨hu1, by omega, g3, fun e he1 he2 => by
        refine stoR.lt_of_lt_le (b := ix X u) ?_ (hs.le stoR he1 he2)
        rw [← hz]; exact h3⟩, by omega, Sim.of_le (Env.le_of (by simp; omega)) (Mem.le_refl _)⟩
  · have hij : lo = hi := by have := ltI_f.1 h1; omega
    subst hij
    have hres := stoR.put (S := X) (y := y) (j := lo) g2 hs (fun k hk => le_iff.2 (g3 k hk)) (fun k hk1 hk2 => stoR.le_of_lt (g4 k hk1 hk2))
    rw [stoR.congr hperm] at hres
    simp
    refine wpS_loopS (ι := Nat) (fun t => [(0, .row pos gen 3 0 n), (14, .int .i64 i), (17, .int .i64 (a + t : Nat))]) (fun t => m.put pos gen (rowsR (A ++ (X.take t ++ (y :: (X.drop t ++ B)))))) (fun t => t) (fun t => lo ≤ t ∧ t ≤ X.length) X.length ⟨g2, Nat.le_refl _⟩
      (Sim.of_le (Env.le_of (by simp; omega)) (by rw [hL]; simp; exact Mem.le_refl _)) ?_
    intro t ⟨ht0, ht⟩
    obtain ⟨k, hk⟩ : ∃ k, k = a + t := ⟨_, rfl⟩
    obtain ⟨L2, hL2⟩ : ∃ L2, L2 = A ++ (X.take t ++ (y :: (X.drop t ++ B))) := ⟨_, rfl⟩
    have hL2l : L2.length = n := by rw [hL2]; simp; omega
    rw [← hk, ← hL2]
    simp
    refine br_cond rfl (fun h2 => ?_) (fun h2 => ?_)
    · have hlt : lo < t := by have := ltI_t.1 h2; omega
      obtain ⟨q, hq⟩ : ∃ q, q = k - 1 := ⟨_, rfl⟩
      have hwk : IntKind.i64.wrap (k - 1) = (q : Int) := wrapN (by omega) (by omega)
      obtain ⟨z, hz⟩ : ∃ z, z = ix X (t - 1) := ⟨_, rfl⟩
      have hta := take_ix (l := X) (k := t - 1) (by omega)
      rw [← hz, show t - 1 + 1 = t by omega] at hta
      have hdr := drop_ix' (l := X) (k := t - 1) (by omega)
      rw [← hz, show t - 1 + 1 = t by omega] at hdr
      have iz : ix L2 q = z := by
        rw [hL2, hta, List.append_assoc, ← List.append_assoc]
        exact ix_at' (by simp; omega)
      have iy : ix L2 k = y := by
        rw [hL2, ← List.append_assoc]
        exact ix_at' (by simp; omega)
      have hsw : (L2.set k z).set q y = A ++ (X.take (t - 1) ++ (y :: (X.drop (t - 1) ++ B))) := by
        have e : swp L2 k q = (L2.set k z).set q y := by unfold swp; rw [iy, iz]
        rw [← e, swp_comm (by omega), hL2, hta]
        have := swp_next (P := A ++ X.take (t - 1)) (x := z) (y := y) (R := X.drop t ++ B) (i := q) (by simp; omega)
        rw [show q + 1 = k by omega] at this
        simp only [List.append_assoc, List.cons_append, List.nil_append] at this ⊢
        rw [this, hdr]
        simp
      have l1 : ltI (k : Int) n = true := ltN (by omega)
      have l2 : ltI (q : Int) n = true := ltN (by omega)
      have l3 : ltI (q : Int) (L2.set k z).length = true := ltN (by rw [List.length_set]; omega)
      have e1 := get_ix (p := k) (by omega) iy
      have e2 := get_ix (p := q) (by omega) iz
      simp [hwk, l1, l2, obj_put h, rowsR, e1, e2, av_len, av_take, av_all, av_drop, put_put, set_av', idxM l3, hsw]
      exact ⟨t - 1, ⟨by omega, by omega⟩, by omega, Sim.of_le (Env.le_of (by simp; omega)) (Mem.le_refl _)⟩
    · have htl : t = lo := by have := ltI_f.1 h2; omega
      subst htl
      simp [cr85, postA, endPost]
      rw [hL2, ← hres]
      simp
end Go.Pm

/- LkT6: contracts: the rows of a map: two sorted pieces become one, of any length. -/
namespace Go.Pm
open Go Go.Proofs
attribute [-simp] List.getElem?_map Mem.obj Mem.put List.map_set List.map_append List.map_take List.map_drop

def MergeOk (N : Nat) : Prop := ∀ (m : Mem) (pos gen n : Nat) (A X Y B : List DRow) (a c b : Nat), m.obj pos gen = some (rowsR (A ++ (X ++ (Y ++ B)))) → (A ++ (X ++ (Y ++ B))).length = n → a = A.length → c = A.length + X.length → b = A.length + (X.length + Y.length) →
    0 < X.length → 0 < Y.length → X.length + Y.length ≤ N → (∀ r ∈ X, r.Fit) → (∀ r ∈ Y, r.Fit) → Srt ltR X → Srt ltR Y → n ≤ 3000000000000 →
    ACalls Try.prog 85 [.row pos gen 3 0 n, .int .i64 a, .int .i64 c, .int .i64 b, .fn 41 []] m fun out m' => out = .ret (.tuple []) ∧ m' = m.put pos gen (rowsR (A ++ (sortBy ltR (X ++ Y) ++ B)))

theorem sort_nil_l {Y : List DRow} (h : Srt ltR Y) : sortBy ltR ([] ++ Y) = [] ++ Y := stoR.same h
theorem sort_nil_r {X : List DRow} (h : Srt ltR X) : sortBy ltR (X ++ []) = X ++ [] := by rw [List.append_nil]; exact stoR.same h

theorem tail85 {N : Nat} (IH : MergeOk N) (m : Mem) (pos gen n : Nat) (A X Y B T : List DRow) (mid en b : Nat) {o : AObj} (h : m.obj pos gen = some o) (hn : (A ++ (X ++ (Y ++ B))).length = n) (ha : mid = A.length) (hc : en = A.length + X.length) (hb : b = A.length + (X.length + Y.length))
    (hN : X.length + Y.length ≤ N) (hX : ∀ r ∈ X, r.Fit) (hY : ∀ r ∈ Y, r.Fit) (hsX : Srt ltR X) (hsY : Srt ltR Y) (hl : n ≤ 3000000000000) (hT : A ++ (sortBy ltR (X ++ Y) ++ B) = T) (x1 x2 x19 x20 x21 x22 x151 x185 x199 : AV) :
    wpS Try.prog Lk.imp l85 [] (postA cr85 fun out m' => out = .ret (.tuple []) ∧ m' = m.put pos gen (rowsR T))
      [(0, .row pos gen 3 0 n), (1, x1), (2, x2), (3, .int .i64 b), (4, .fn 41 []), (18, .int .i64 mid), (19, x19), (20, x20), (21, x21), (22, x22), (24, .int .i64 en), (151, x151), (185, x185), (199, x199)] (m.put pos gen (rowsR (A ++ (X ++ (Y ++ B))))) := by
  have hln : A.length + (X.length + (Y.length + B.length)) = n := by simpa using hn
  have hend : (X = [] ∨ Y = []) → sortBy ltR (X ++ Y) ++ B = X ++ (Y ++ B) := by
    rintro (rfl | rfl)
    · rw [sort_nil_l hsY]; simp
    · rw [sort_nil_r hsX]; simp
  simp [l85, k85, h85, v85, g85, c85, SC.snd]
  cases h1 : ltI (mid : Int) en with
  | false =>
    have hx0 : X = [] := List.eq_nil_of_length_eq_zero (by have := ltI_f.1 h1; omega)
    simp [cr85, postA, endPost]
    rw [← hT, hend (.inl hx0)]
  | true =>
    have g1 := ltI_t.1 h1
    simp
    cases h2 : ltI (en : Int) b with
    | false =>
      have hy0 : Y = [] := List.eq_nil_of_length_eq_zero (by have := ltI_f.1 h2; omega)
      simp [cr85, postA, endPost]
      rw [← hT, hend (.inr hy0)]
    | true =>
      have g2 := ltI_t.1 h2
      simp
      refine xcall_a (IH _ pos gen n A X Y B mid en b (obj_put h) hn ha hc hb (by omega) (by omega) hN hX hY hsX hsY hl) ?_
      simp [cr85, postA, endPost, put_put, hT]

theorem tail85b {N : Nat} (IH : MergeOk N) (m : Mem) (pos gen n : Nat) (A X1 Y1 X2 Y2 B T : List DRow) (a st mid en b : Nat) {o : AObj} (h : m.obj pos gen = some o) (hn : (A ++ (X1 ++ (Y1 ++ (X2 ++ (Y2 ++ B))))).length = n) (ha : a = A.length) (hst : st = A.length + X1.length) (hmid : mid = A.length + (X1.length + Y1.length))
    (hen : en = A.length + (X1.length + (Y1.length + X2.length))) (hb : b = A.length + (X1.length + (Y1.length + (X2.length + Y2.length)))) (hN1 : X1.length + Y1.length ≤ N) (hN2 : X2.length + Y2.length ≤ N) (hX1 : ∀ r ∈ X1, r.Fit) (hX2 : ∀ r ∈ X2, r.Fit) (hY1 : ∀ r ∈ Y1, r.Fit) (hY2 : ∀ r ∈ Y2, r.Fit)
    (hsX1 : Srt ltR X1) (hsY1 : Srt ltR Y1) (hsX2 : Srt ltR X2) (hsY2 : Srt ltR Y2) (hl : n ≤ 3000000000000) (hT : A ++ (sortBy ltR (X1 ++ Y1) ++ (sortBy ltR (X2 ++ Y2) ++ B)) = T) (x2 x19 x21 x22 x151 x185 : AV) :
    wpS Try.prog Lk.imp k85 [] (postA cr85 fun out m' => out = .ret (.tuple []) ∧ m' = m.put pos gen (rowsR T))
      [(0, .row pos gen 3 0 n), (1, .int .i64 a), (2, x2), (3, .int .i64 b), (4, .fn 41 []), (18, .int .i64 mid), (19, x19), (20, .int .i64 st), (21, x21), (22, x22), (24, .int .i64 en), (151, x151), (185, x185)] (m.put pos gen (rowsR (A ++ (X1 ++ (Y1 ++ (X2 ++ (Y2 ++ B))))))) := by
  have hln : A.length + (X1.length + (Y1.length + (X2.length + (Y2.length + B.length)))) = n := by simpa using hn
  have hend : (X1 = [] ∨ Y1 = []) → sortBy ltR (X1 ++ Y1) = X1 ++ Y1 := by
    rintro (rfl | rfl)
    · exact sort_nil_l hsY1
    · exact sort_nil_r hsX1
  have hsl : (sortBy ltR (X1 ++ Y1)).length = X1.length + Y1.length := by rw [sortBy_len]; simp
  have tail := tail85 IH m pos gen n (A ++ sortBy ltR (X1 ++ Y1)) X2 Y2 B T mid en b h (by simp [hsl]; omega) (by simp [hsl]; omega) (by simp [hsl]; omega) (by simp [hsl]; omega) hN2 hX2 hY2 hsX2 hsY2 hl (by rw [← hT]; simp)
  rw [List.append_assoc] at tail
  rw [s85]
  simp [k85, h85, v85, g85, c85, SC.snd, SC.fst]
  cases h1 : ltI (a : Int) st with
  | false =>
    have hx0 : X1 = [] := List.eq_nil_of_length_eq_zero (by have := ltI_f.1 h1; omega)
    rw [hend (.inl hx0), List.append_assoc] at tail
    simp
    exact tail _ _ _ _ _ _ _ _ _
  | true =>
    have g1 := ltI_t.1 h1
    simp
    cases h2 : ltI (st : Int) mid with
    | false =>
      have hy0 : Y1 = [] := List.eq_nil_of_length_eq_zero (by have := ltI_f.1 h2; omega)
      rw [hend (.inr hy0), List.append_assoc] at tail
      simp
      exact tail _ _ _ _ _ _ _ _ _
    | true =>
      have g2 := ltI_t.1 h2
      simp
      refine xcall_a (IH _ pos gen n A X1 Y1 (X2 ++ (Y2 ++ B)) a st mid (obj_put h) hn ha hst hmid (by omega) (by omega) hN1 hX1 hY1 hsX1 hsY1 hl) ?_
      simp [put_put]
      exact tail _ _ _ _ _ _ _ _ _

theorem turn85 {N : Nat} (IH : MergeOk N) (m : Mem) (pos gen n : Nat) (A X1 X2 Y1 Y2 B T : List DRow) (a c st mid nn b : Nat) {o : AObj} (h : m.obj pos gen = some o) (hn : (A ++ (X1 ++ (X2 ++ (Y1 ++ (Y2 ++ B))))).length = n) (ha : a = A.length) (hc : c = A.length + (X1.length + X2.length)) (hst : st = A.length + X1.length) (hmid : mid = A.length + (X1.length + Y1.length))
    (hnn : nn = mid + c) (hb : b = A.length + (X1.length + (X2.length + (Y1.length + Y2.length)))) (hN1 : X1.length + Y1.length ≤ N) (hN2 : X2.length + Y2.length ≤ N) (hX1 : ∀ r ∈ X1, r.Fit) (hX2 : ∀ r ∈ X2, r.Fit) (hY1 : ∀ r ∈ Y1, r.Fit) (hY2 : ∀ r ∈ Y2, r.Fit)
    (hsX1 : Srt ltR X1) (hsY1 : Srt ltR Y1) (hsX2 : Srt ltR X2) (hsY2 : Srt ltR Y2) (hl : n ≤ 3000000000000) (hT : A ++ (sortBy ltR (X1 ++ Y1) ++ (sortBy ltR (X2 ++ Y2) ++ B)) = T) (x21 x22 x151 : AV) :
    wpS Try.prog Lk.imp h85 [] (postA cr85 fun out m' => out = .ret (.tuple []) ∧ m' = m.put pos gen (rowsR T))
      [(0, .row pos gen 3 0 n), (1, .int .i64 a), (2, .int .i64 c), (3, .int .i64 b), (4, .fn 41 []), (18, .int .i64 mid), (19, .int .i64 nn), (20, .int .i64 st), (21, x21), (22, x22), (151, x151)] (m.put pos gen (rowsR (A ++ (X1 ++ (X2 ++ (Y1 ++ (Y2 ++ B))))))) := by
  have hln : A.length + (X1.length + (X2.length + (Y1.length + (Y2.length + B.length)))) = n := by simpa using hn
  obtain ⟨en, hen⟩ : ∃ en, en = A.length + (X1.length + (Y1.length + X2.length)) := ⟨_, rfl⟩
  have hwe : IntKind.i64.wrap (nn - st) = (en : Int) := wrapN (by omega) (by omega)
  have tail := tail85b IH m pos gen n A X1 Y1 X2 Y2 B T a st mid en b h (by simp; omega) ha hst hmid hen (by omega) hN1 hN2 hX1 hX2 hY1 hY2 hsX1 hsY1 hsX2 hsY2 hl hT
  rw [r85]
  simp [h85, v85, g85, c85, SC.snd, SC.fst, hwe]
  cases h1 : ltI (st : Int) c with
  | false =>
    have hx0 : X2 = [] := List.eq_nil_of_length_eq_zero (by have := ltI_f.1 h1; omega)
    subst hx0
    simp
    simp only [List.nil_append] at tail
    exact tail _ _ _ _ _ _
  | true =>
    have g1 := ltI_t.1 h1
    simp
    cases h2 : ltI (c : Int) en with
    | false =>
      have hy0 : Y1 = [] := List.eq_nil_of_length_eq_zero (by have := ltI_f.1 h2; omega)
      subst hy0
      simp
      simp only [List.nil_append] at tail
      exact tail _ _ _ _ _ _
    | true =>
      have g2 := ltI_t.1 h2
      simp
      have := call108 (m.put pos gen (rowsR (A ++ (X1 ++ (X2 ++ (Y1 ++ (Y2 ++ B))))))) pos gen n (A ++ X1) X2 Y1 (Y2 ++ B) (by rw [obj_put h]; simp) (by simp; omega) st c en (by simp; omega) (by simp; omega) (by simp; omega) (by omega) (by omega) hl (.fn 41 [])
      refine xcall_a this ?_
      simp [put_put]
      exact tail _ _ _ _ _ _

theorem split85 {X Y : List DRow} {s0 r0 hf lo : Nat} (hsX : Srt ltR X) (hsY : Srt ltR Y) (h0 : s0 = 0 ∧ r0 = X.length ∧ X.length ≤ hf ∨ s0 + Y.length = hf ∧ r0 = hf ∧ hf < X.length) (hlx : lo ≤ X.length) (hly : hf - lo ≤ Y.length) (hlh : lo ≤ hf) (g0 : s0 ≤ lo) (g2 : lo ≤ r0)
    (g3 : ∀ e, s0 ≤ e → e < lo → ltR (ix Y (hf - 1 - e)) (ix X e) = false) (g4 : ∀ e, lo ≤ e → e < r0 → ltR (ix Y (hf - 1 - e)) (ix X e) = true) :
    sortBy ltR (X.take lo ++ Y.take (hf - lo)) ++ sortBy ltR (X.drop lo ++ Y.drop (hf - lo)) = sortBy ltR (X ++ Y) := by
  have sX : Srt ltR (X.take lo ++ X.drop lo) := by rw [List.take_append_drop]; exact hsX
  have sY : Srt ltR (Y.take (hf - lo) ++ Y.drop (hf - lo)) := by rw [List.take_append_drop]; exact hsY
  have h3 : ∀ x ∈ X.take lo, ∀ y ∈ Y.drop (hf - lo), leOf ltR x y = true := by
    intro x hx y hy
    obtain ⟨e, he, rfl⟩ := mem_ix hx
    obtain ⟨f, hf', rfl⟩ := mem_ix hy
    rw [List.length_take] at he
    rw [List.length_drop] at hf'
    rw [ix_take (by omega) hlx, ix_drop]
    have hlt : s0 < lo := by omega
    exact stoR.le_trans (b := ix X (lo - 1)) (hsX.le stoR (by omega) (by omega)) (stoR.le_trans (b := ix Y (hf - 1 - (lo - 1))) (le_iff.2 (g3 (lo - 1) (by omega) (by omega))) (hsY.le stoR (by omega) (by omega)))
  have h4 : ∀ x ∈ Y.take (hf - lo), ∀ y ∈ X.drop lo, leOf ltR x y = true := by
    intro x hx y hy
    obtain ⟨e, he, rfl⟩ := mem_ix hx
    obtain ⟨f, hf', rfl⟩ := mem_ix hy
    rw [List.length_take] at he
    rw [List.length_drop] at hf'
    rw [ix_take (by omega) hly, ix_drop]
    have hlt : lo < r0 := by omega
    exact stoR.le_trans (b := ix Y (hf - 1 - lo)) (hsY.le stoR (by omega) (by omega)) (stoR.le_trans (b := ix X lo) (stoR.le_of_lt (g4 lo (Nat.le_refl _) hlt)) (hsX.le stoR (by omega) (by omega)))
  rw [stoR.split sX sY h3 h4, List.take_append_drop, List.take_append_drop]

set_option maxHeartbeats 4000000 in
theorem seek85 {N : Nat} (IH : MergeOk N) (m : Mem) (pos gen n : Nat) (A X Y B : List DRow) (a c mid nn b s0 r0 hf : Nat) {o : AObj} (h : m.obj pos gen = some o) (hn : (A ++ (X ++ (Y ++ B))).length = n) (ha : a = A.length) (hc : c = A.length + X.length) (hb : b = A.length + (X.length + Y.length)) (hhf : hf = (X.length + Y.length) / 2) (hmid : mid = a + hf) (hnn : nn = mid + c)
    (hs0 : s0 ≤ r0) (h0 : s0 = 0 ∧ r0 = X.length ∧ X.length ≤ hf ∨ s0 + Y.length = hf ∧ r0 = hf ∧ hf < X.length) (hX0 : 1 < X.length) (hY0 : 1 < Y.length) (hN : X.length + Y.length ≤ N + 1) (hX : ∀ r ∈ X, r.Fit) (hY : ∀ r ∈ Y, r.Fit)
    (hsX : Srt ltR X) (hsY : Srt ltR Y) (hl : n ≤ 3000000000000) (x28 x80 x140 : AV) :
    wpS Try.prog Lk.imp v85 [] (postA cr85 fun out m' => out = .ret (.tuple []) ∧ m' = m.put pos gen (rowsR (A ++ (sortBy ltR (X ++ Y) ++ B))))
      [(0, .row pos gen 3 0 n), (1, .int .i64 a), (2, .int .i64 c), (3, .int .i64 b), (4, .fn 41 []), (18, .int .i64 mid), (19, .int .i64 nn), (20, .int .i64 (a + s0 : Nat)), (21, .int .i64 (a + r0 : Nat)), (28, x28), (80, x80), (140, x140)] (m.put pos gen (rowsR (A ++ (X ++ (Y ++ B))))) := by
  have hln : A.length + (X.length + (Y.length + B.length)) = n := by simpa using hn
  obtain ⟨L, hL⟩ : ∃ L, L = A ++ (X ++ (Y ++ B)) := ⟨_, rfl⟩
  have hLl : L.length = n := by rw [hL]; exact hn
  obtain ⟨p, hp⟩ : ∃ p, p = nn - 1 := ⟨_, rfl⟩
  have hwp : IntKind.i64.wrap (nn - 1) = (p : Int) := wrapN (by omega) (by omega)
  obtain ⟨sA, hsA⟩ : ∃ sA, sA = a + s0 := ⟨_, rfl⟩
  obtain ⟨rA, hrA⟩ : ∃ rA, rA = a + r0 := ⟨_, rfl⟩
  rw [w85, ← hsA, ← hrA, ← hL]
  simp [v85, g85, c85, SC.snd, SC.fst, hwp]
  refine wpS_loopS (ι := Nat × Nat) (fun g => [(0, .row pos gen 3 0 n), (1, .int .i64 a), (2, .int .i64 c), (3, .int .i64 b), (4, .fn 41 []), (18, .int .i64 mid), (19, .int .i64 nn), (20, .int .i64 (a + g.1 : Nat)), (21, .int .i64 (a + g.2 : Nat)), (22, .int .i64 p)]) (fun g => m.put pos gen (rowsR L)) (fun g => g.2 - g.1)
    (fun g => s0 ≤ g.1 ∧ g.1 ≤ g.2 ∧ g.2 ≤ r0 ∧ (∀ e, s0 ≤ e → e < g.1 → ltR (ix Y (hf - 1 - e)) (ix X e) = false) ∧ (∀ e, g.2 ≤ e → e < r0 → ltR (ix Y (hf - 1 - e)) (ix X e) = true)) (s0, r0) ⟨Nat.le_refl _, hs0, Nat.le_refl _, fun e h1 h2 => by omega, fun e h1 h2 => by omega⟩
    (Sim.of_le (Env.le_of (by simp; omega)) (Mem.le_refl _)) ?_
  rintro ⟨lo, hi⟩ ⟨g0, g1, g2, g3, g4⟩
  simp only at g0 g1 g2 g3 g4
  obtain ⟨i, hi'⟩ : ∃ i, i = a + lo := ⟨_, rfl⟩
  obtain ⟨j, hj⟩ : ∃ j, j = a + hi := ⟨_, rfl⟩
  simp only [← hi', ← hj]
  simp
  refine br_cond rfl (fun h1 => ?_) (fun h1 => ?_)
  · have hlt : lo < hi := by have := ltI_t.1 h1; omega
    obtain ⟨g, hg⟩ : ∃ g, g = (i + j) / 2 := ⟨_, rfl⟩
    have hwg := half hg (by omega)
    obtain ⟨u, hu⟩ : ∃ u, u = g - a := ⟨_, rfl⟩
    have hu1 : lo ≤ u := by omega
    have hu2 : u < hi := by omega
    obtain ⟨q, hq⟩ : ∃ q, q = p - g := ⟨_, rfl⟩
    have hwq : IntKind.i64.wrap (p - g) = (q : Int) := wrapN (by omega) (by omega)
    obtain ⟨x, hx⟩ : ∃ x, x = ix X u := ⟨_, rfl⟩
    obtain ⟨y, hy⟩ : ∃ y, y = ix Y (hf - 1 - u) := ⟨_, rfl⟩
    have hul : u < X.length := by omega
    have hyl : hf - 1 - u < Y.length := by omega
    have hxf : x.Fit := by rw [hx]; exact hX _ (ix_mem hul)
    have hyf : y.Fit := by rw [hy]; exact hY _ (ix_mem hyl)
    have ixx : ix L g = x := by
      rw [hL, ix_app_r (by omega), ix_app_l (by omega), hx]
      congr 1; omega
    have ixy : ix L q = y := by
      rw [hL, ix_app_r (by omega), ix_app_r (by omega), ix_app_l (by omega), hy]
      congr 1; omega
    have l1 : ltI (g : Int) n = true := ltN (by omega)
    have l2 : ltI (q : Int) n = true := ltN (by omega)
    have e1 := get_ix (p := g) (by omega) ixx
    have e2 := get_ix (p := q) (by omega) ixy
    have hwg1 : IntKind.i64.wrap (g + 1) = g + 1 := wrap64 (by omega) (by omega)
    simp [hwg, hwq, l1, l2, obj_put h, rowsR, e1, e2, av_len, av_take]
    refine xdopsv_p (caps := []) (xs := [.agg y.av, .agg x.av]) rfl (call41 y x hyf hxf) (row_args _ _ _) ?_
    simp [cmpR_lt]
    cases h3 : ltR y x with
    | false =>
      simp [hwg1]
      exact ⟨u + 1, hi, ⟨by omega, by omega, g2, fun e he1 he2 => by
        refine le_iff.1 (stoR.le_trans (b := ix X u) (hsX.le stoR (show e ≤ u by omega) hul) (stoR.le_trans (b := ix Y (hf - 1 - u)) ?_ (hsY.le stoR (by omega) (by omega))))
        rw [← hx, ← hy]; exact le_iff.2 h3, g4⟩, by omega, Sim.of_le (Env.le_of (by simp; omega)) (Mem.le_refl _)⟩
    | true =>
      simp
      exact ⟨lo, u, ⟨g0, hu1, by omega, g3, fun e he1 he2 => by
        refine stoR.lt_of_le_lt (b := ix Y (hf - 1 - u)) (hsY.le stoR (by omega) (by omega)) (stoR.lt_of_lt_le (b := ix X u) ?_ (hsX.le stoR he1 (by omega)))
        rw [← hx, ← hy]; exact h3⟩, by omega, Sim.of_le (Env.le_of (by simp; omega)) (Mem.le_refl _)⟩
  · have hij : lo = hi := by have := ltI_f.1 h1; omega
    subst hij
    have hlx : lo ≤ X.length := by omega
    have hly : hf - lo ≤ Y.length := by omega
    have hlh : lo ≤ hf := by omega
    have t1 : (X.take lo).length = lo := by simp; omega
    have t2 : (X.drop lo).length = X.length - lo := by simp
    have t3 : (Y.take (hf - lo)).length = hf - lo := by simp; omega
    have t4 : (Y.drop (hf - lo)).length = Y.length - (hf - lo) := by simp
    have hT : A ++ (sortBy ltR (X.take lo ++ Y.take (hf - lo)) ++ (sortBy ltR (X.drop lo ++ Y.drop (hf - lo)) ++ B)) = A ++ (sortBy ltR (X ++ Y) ++ B) := by
      rw [← List.append_assoc (sortBy _ _) (sortBy _ _), split85 hsX hsY (h0.imp (fun h => ⟨h.1, h.2.1, h.2.2⟩) (fun h => ⟨h.1, h.2.1, h.2.2⟩)) hlx hly hlh g0 g2 g3 g4]
    have hLs : L = A ++ (X.take lo ++ (X.drop lo ++ (Y.take (hf - lo) ++ (Y.drop (hf - lo) ++ B)))) := by
      rw [hL, ← List.append_assoc (X.take lo), List.take_append_drop, ← List.append_assoc (Y.take _), List.take_append_drop]
    have sX := srt_append.1 (show Srt ltR (X.take lo ++ X.drop lo) by rw [List.take_append_drop]; exact hsX)
    have sY := srt_append.1 (show Srt ltR (Y.take (hf - lo) ++ Y.drop (hf - lo)) by rw [List.take_append_drop]; exact hsY)
    have tail := turn85 IH m pos gen n A (X.take lo) (X.drop lo) (Y.take (hf - lo)) (Y.drop (hf - lo)) B _ a c i mid nn b h (by rw [← hLs]; exact hLl) ha (by omega) (by omega) (by omega) hnn (by omega) (by omega) (by omega)
      (fun r hr => hX r (List.mem_of_mem_take hr)) (fun r hr => hX r (List.mem_of_mem_drop hr)) (fun r hr => hY r (List.mem_of_mem_take hr)) (fun r hr => hY r (List.mem_of_mem_drop hr)) sX.1 sY.1 sX.2.1 sY.2.1 hl hT
    rw [← hLs] at tail
    simp
    exact tail _ _ _
end Go.Pm

/- LkT7: contracts: the rows of a map: the library's stable sort. -/
namespace Go.Pm
open Go Go.Proofs
attribute [-simp] List.getElem?_map Mem.obj Mem.put List.map_set List.map_append List.map_take List.map_drop List.length_flatten

theorem call85 : ∀ N, MergeOk N
  | 0 => by
    intro m pos gen n A X Y B a c b h hn ha hc hb h1 h2 hN
    omega
  | N + 1 => by
    intro m pos gen n A X Y B a c b h hn ha hc hb h1 h2 hN hX hY hsX hsY hl
    have hln : A.length + (X.length + (Y.length + B.length)) = n := by simpa using hn
    by_cases hx1 : X.length = 1
    · obtain ⟨x, rfl⟩ := List.length_eq_one_iff.1 hx1
      exact one85 m pos gen n A x Y B h hn a c b ha (by simpa using hc) (by simpa using hb) (hX x (by simp)) hY hsY hl
    by_cases hy1 : Y.length = 1
    · obtain ⟨y, rfl⟩ := List.length_eq_one_iff.1 hy1
      exact two85 m pos gen n A y X B h hn a c b ha hc (by simpa using hb) (by omega) (hY y (by simp)) hX hsX hl
    refine ok85.acalls (by simp) ?_
    obtain ⟨xl, hxl⟩ : ∃ xl, xl = X.length := ⟨_, rfl⟩
    obtain ⟨yl, hyl⟩ : ∃ yl, yl = Y.length := ⟨_, rfl⟩
    obtain ⟨hf, hhf⟩ : ∃ hf, hf = (X.length + Y.length) / 2 := ⟨_, rfl⟩
    obtain ⟨mid, hmid⟩ : ∃ mid, mid = a + hf := ⟨_, rfl⟩
    obtain ⟨nn, hnn⟩ : ∃ nn, nn = mid + c := ⟨_, rfl⟩
    have hw0 : IntKind.i64.wrap (c - a) = (xl : Int) := wrapN (by omega) (by omega)
    have hw1 : IntKind.i64.wrap (b - c) = (yl : Int) := wrapN (by omega) (by omega)
    have h11 : eqI (xl : Int) 1 = false := eqI_f.2 (by omega)
    have h12 : eqI (yl : Int) 1 = false := eqI_f.2 (by omega)
    have hwm : IntKind.i64.wrap ((IntKind.u64.wrap (IntKind.i64.wrap (↑a + ↑b))).fdiv (2 ^ min 1 IntKind.u64.bits)) = (mid : Int) := half (by omega) (by omega)
    have hwn : IntKind.i64.wrap (mid + c) = (nn : Int) := wrapN (by omega) (by omega)
    rw [p85, q85]
    simp [g85, c85, SC.fst, SC.snd, hw0, hw1, h11, h12, hwm, hwn]
    cases h3 : ltI (mid : Int) c with
    | true =>
      have g3 := ltI_t.1 h3
      obtain ⟨s0, hs0⟩ : ∃ s0, s0 = hf - Y.length := ⟨_, rfl⟩
      have hws : IntKind.i64.wrap (nn - b) = ((a + s0 : Nat) : Int) := wrapN (by omega) (by omega)
      have hsk := seek85 (call85 N) m pos gen n A X Y B a c mid nn b s0 hf hf h hn ha hc hb hhf hmid hnn (by omega) (.inr ⟨by omega, rfl, by omega⟩) (by omega) (by omega) hN hX hY hsX hsY hl
      rw [put_obj h, ← hmid] at hsk
      simp [hws]
      simp at hsk
      exact hsk _ _ _
    | false =>
      have g3 := ltI_f.1 h3
      have hsk := seek85 (call85 N) m pos gen n A X Y B a c mid nn b 0 X.length hf h hn ha hc hb hhf hmid hnn (by omega) (.inl ⟨rfl, rfl, by omega⟩) (by omega) (by omega) hN hX hY hsX hsY hl
      rw [put_obj h, show a + X.length = c by omega] at hsk
      simp
      exact hsk _ _ _

theorem flat_len {bs : Nat} : ∀ {C : List (List DRow)}, (∀ c ∈ C, c.length = bs) → C.flatten.length = bs * C.length
  | [], _ => by simp
  | c :: C, h => by
    rw [List.flatten_cons, List.length_append, flat_len (fun x hx => h x (by simp [hx])), h c (by simp), List.length_cons, Nat.mul_add]; omega

set_option maxHeartbeats 1000000 in
theorem call72 (m : Mem) (pos gen n : Nat) (l : List DRow) (h : m.obj pos gen = some (rowsR l)) (hn : l.length = n) (hfit : ∀ r ∈ l, r.Fit) (hl : n ≤ 3000000000000) :
    ACalls Try.prog 72 [.row pos gen 3 0 n, .int .i64 n, .fn 41 []] m fun out m' => out = .ret (.tuple []) ∧ m' = m.put pos gen (rowsR (sortBy ltR l)) := by
  refine ok72.acalls (by simp) ?_
  simp [c72]
  refine wpS_loopS (ι := List (List DRow) × List DRow) (fun g => [(0, .row pos gen 3 0 n), (1, .int .i64 n), (2, .fn 41 []), (6, .int .i64 20), (7, .int .i64 (20 * g.1.length : Nat)), (8, .int .i64 (20 * g.1.length + 20 : Nat))]) (fun g => m.put pos gen (rowsR (g.1.flatten ++ g.2))) (fun g => g.2.length)
    (fun g => (g.1.flatten ++ g.2).Perm l ∧ ∀ c ∈ g.1, c.length = 20 ∧ Srt ltR c) ([], l) ⟨by simp, by simp⟩ (Sim.of_le (Env.le_of (by simp)) (by simp only [List.flatten_nil, List.nil_append]; rw [put_obj h]; exact Mem.le_refl m)) ?_
  rintro ⟨C, R⟩ ⟨hp, hC⟩
  simp only at hp hC
  have hCl := flat_len (fun c hc => (hC c hc).1)
  have hlen : 20 * C.length + R.length = n := by
    have := hp.length_eq
    rw [List.length_append, hCl] at this; omega
  obtain ⟨a, ha⟩ : ∃ a, a = 20 * C.length := ⟨_, rfl⟩
  obtain ⟨b, hb⟩ : ∃ b, b = a + 20 := ⟨_, rfl⟩
  have hRf : ∀ r ∈ R, r.Fit := fun r hr => hfit r (hp.mem_iff.1 (List.mem_append_right _ hr))
  simp only [← ha, ← hb]
  simp
  refine br_cond rfl (fun h1 => ?_) (fun h1 => ?_)
  · have hle : b ≤ n := by have := leI_t.1 h1; omega
    have hwb : IntKind.i64.wrap (b + 20) = b + 20 := wrap64 (by omega) (by omega)
    simp
    have hrt : R.take 20 ++ R.drop 20 = R := List.take_append_drop _ _
    have c84 := call84 (m.put pos gen (rowsR (C.flatten ++ R))) pos gen n C.flatten (R.take 20) (R.drop 20) (by rw [obj_put h, hrt]) (by rw [hrt, List.length_append, hCl]; omega) a b (by omega) (by rw [List.length_take]; omega) (fun r hr => hRf r (List.mem_of_mem_take hr)) (by omega)
    refine xcall_a c84 ?_
    simp [hwb, put_put]
    refine ⟨C ++ [sortBy ltR (R.take 20)], R.drop 20, ⟨?_, ?_⟩, ?_, Sim.of_le (Env.le_of (by simp; omega)) ?_⟩
    · simp only [List.flatten_append, List.flatten_cons, List.flatten_nil, List.append_nil, List.append_assoc]
      refine List.Perm.trans ?_ hp
      refine List.Perm.append_left _ ?_
      have := (sortBy_perm (lt := ltR) (R.take 20)).append_right (R.drop 20)
      rwa [hrt] at this
    · intro c hc
      rcases List.mem_append.1 hc with hc | hc
      · exact hC c hc
      · rw [List.mem_singleton] at hc
        subst hc
        exact ⟨by rw [sortBy_len, List.length_take]; omega, stoR.sorted _⟩
    · rw [List.length_drop]; omega
    · simp only [List.flatten_append, List.flatten_cons, List.flatten_nil, List.append_nil, List.append_assoc]; exact Mem.le_refl _
  have hlt : n < b := by have := leI_f.1 h1; omega
  simp
  have c84 := call84 (m.put pos gen (rowsR (C.flatten ++ R))) pos gen n C.flatten R [] (by rw [obj_put h, List.append_nil]) (by rw [List.append_nil, List.length_append, hCl]; omega) a n (by omega) (by omega) hRf (by omega)
  refine xcall_a c84 ?_
  simp [put_put]
  clear c84 h1
  refine wpS_loopS (ι := Nat × (List (List DRow) × List DRow)) (fun g => [(0, .row pos gen 3 0 n), (1, .int .i64 n), (2, .fn 41 []), (6, .int .i64 g.1)]) (fun g => m.put pos gen (rowsR (g.2.1.flatten ++ g.2.2))) (fun g => n - g.1)
    (fun g => 0 < g.1 ∧ (g.2.1.flatten ++ g.2.2).Perm l ∧ (∀ c ∈ g.2.1, c.length = g.1 ∧ Srt ltR c) ∧ g.2.2.length < g.1 ∧ Srt ltR g.2.2) (20, (C, sortBy ltR R)) ⟨by omega, (List.Perm.append_left _ (sortBy_perm R)).trans hp, hC, by rw [sortBy_len]; omega, stoR.sorted _⟩ (Sim.of_le (Env.le_of (by simp)) (Mem.le_refl _)) ?_
  clear hRf hlen hCl hp hC ha hb hlt
  clear C R a b
  rintro ⟨bs, ⟨C, R⟩⟩ ⟨hb0, hp, hC, hRl, hRs⟩
  simp only at hb0 hp hC hRl hRs
  have hCl := flat_len (fun c hc => (hC c hc).1)
  have hlen : bs * C.length + R.length = n := by
    have := hp.length_eq
    rw [List.length_append, hCl] at this; omega
  simp
  refine br_cond rfl (fun h1 => ?_) (fun h1 => ?_)
  · have hlt : bs < n := by have := ltI_t.1 h1; omega
    obtain ⟨b2, hb2⟩ : ∃ b2, b2 = 2 * bs := ⟨_, rfl⟩
    have hw2 : IntKind.i64.wrap (2 * bs) = (b2 : Int) := wrapN (by omega) (by omega)
    have hw2' : IntKind.i64.wrap (bs * 2) = (b2 : Int) := wrapN (by omega) (by omega)
    simp [hw2]
    refine wpS_loopS (ι := List (List DRow) × List (List DRow)) (fun g => [(0, .row pos gen 3 0 n), (1, .int .i64 n), (2, .fn 41 []), (6, .int .i64 bs), (7, .int .i64 (b2 * g.1.length : Nat)), (8, .int .i64 (b2 * g.1.length + b2 : Nat))]) (fun g => m.put pos gen (rowsR (g.1.flatten ++ (g.2.flatten ++ R)))) (fun g => g.2.length)
      (fun g => (g.1.flatten ++ (g.2.flatten ++ R)).Perm l ∧ (∀ c ∈ g.1, c.length = b2 ∧ Srt ltR c) ∧ (∀ c ∈ g.2, c.length = bs ∧ Srt ltR c)) ([], C) ⟨by simpa using hp, by simp, hC⟩ (Sim.of_le (Env.le_of (by simp)) (Mem.le_refl _)) ?_
    clear hp hlen hCl hC
    clear C
    rintro ⟨D, C⟩ ⟨hp, hD, hC⟩
    simp only at hp hD hC
    have hDl := flat_len (fun c hc => (hD c hc).1)
    have hCl := flat_len (fun c hc => (hC c hc).1)
    have hlen : b2 * D.length + (bs * C.length + R.length) = n := by
      have := hp.length_eq
      rw [List.length_append, List.length_append, hDl, hCl] at this; omega
    obtain ⟨a, ha⟩ : ∃ a, a = b2 * D.length := ⟨_, rfl⟩
    obtain ⟨b, hb⟩ : ∃ b, b = a + b2 := ⟨_, rfl⟩
    rw [← ha] at hlen hDl
    simp only [← ha, ← hb]
    have hall : ∀ r, r ∈ C.flatten ∨ r ∈ R → r.Fit := fun r hr => hfit r (hp.mem_iff.1 (List.mem_append_right _ (List.mem_append.2 hr)))
    obtain ⟨mm, hmm⟩ : ∃ mm, mm = a + bs := ⟨_, rfl⟩
    have hwm : IntKind.i64.wrap (a + bs) = (mm : Int) := wrapN (by omega) (by omega)
    simp
    refine br_cond rfl (fun h2 => ?_) (fun h2 => ?_)
    · have hle : b ≤ n := by have := leI_t.1 h2; omega
      obtain ⟨X, Y, C', rfl⟩ : ∃ X Y C', C = X :: Y :: C' := by
        match C, hlen with
        | [], hlen => simp at hlen; omega
        | [X], hlen => simp at hlen; omega
        | X :: Y :: C', _ => exact ⟨X, Y, C', rfl⟩
      have hXl := (hC X (by simp)).1
      have hYl := (hC Y (by simp)).1
      obtain ⟨b3, hb3⟩ : ∃ b3, b3 = b + b2 := ⟨_, rfl⟩
      have hwb : IntKind.i64.wrap (b + b2) = (b3 : Int) := wrapN (by omega) (by omega)
      have f1 : b2 * (D.length + 1) = b := by rw [Nat.mul_add, ← ha]; omega
      have f2 : (b2 : Int) * ((D.length : Int) + 1) = b := by exact_mod_cast f1
      simp [hwm]
      have c85 := call85 (X.length + Y.length) (m.put pos gen (rowsR (D.flatten ++ ((X :: Y :: C').flatten ++ R)))) pos gen n D.flatten X Y (C'.flatten ++ R) a mm b (by rw [obj_put h]; simp) (by have := hp.length_eq; simp only [List.flatten_cons, List.length_append] at this ⊢; omega) (by omega) (by omega) (by omega) (by omega) (by omega) (Nat.le_refl _) (fun r hr => hall r (.inl (by simp [hr]))) (fun r hr => hall r (.inl (by simp [hr]))) (hC X (by simp)).2 (hC Y (by simp)).2 (by omega)
      refine xcall_a (by simpa using c85) ?_
      simp [hw2, hwb, put_put]
      refine ⟨D ++ [sortBy ltR (X ++ Y)], C', ⟨?_, ?_, fun c hc => hC c (by simp [hc])⟩, ?_, Sim.of_le (Env.le_of (by simp [f2]; omega)) ?_⟩
      · refine List.Perm.trans ?_ hp
        simp only [List.flatten_append, List.flatten_cons, List.flatten_nil, List.append_nil, List.append_assoc]
        refine List.Perm.append_left _ ?_
        have := (sortBy_perm (lt := ltR) (X ++ Y)).append_right (C'.flatten ++ R)
        rwa [List.append_assoc] at this
      · intro c hc
        rcases List.mem_append.1 hc with hc | hc
        · exact hD c hc
        · rw [List.mem_singleton] at hc
          subst hc
          exact ⟨by rw [sortBy_len, List.length_append]; omega, stoR.sorted _⟩
      · omega
      · simp only [List.flatten_append, List.flatten_cons, List.flatten_nil, List.append_nil, List.append_assoc]; exact Mem.le_refl _
    · have hgt : n < b := by have := leI_f.1 h2; omega
      simp [hwm]
      refine br_cond rfl (fun h3 => ?_) (fun h3 => ?_)
      · have hlt3 : mm < n := by have := ltI_t.1 h3; omega
        obtain ⟨X, rfl⟩ : ∃ X, C = [X] := by
          match C, hlen with
          | [], hlen => simp at hlen; omega
          | [X], hlen => exact ⟨X, rfl⟩
          | X :: Y :: C', hlen => simp only [List.length_cons, Nat.mul_add, Nat.mul_one] at hlen; omega
        have hXl := (hC X (by simp)).1
        simp only [List.length_cons, List.length_nil] at hlen
        have c85 := call85 (X.length + R.length) (m.put pos gen (rowsR (D.flatten ++ ([X].flatten ++ R)))) pos gen n D.flatten X R [] a mm n (by rw [obj_put h]; simp) (by have := hp.length_eq; simp only [List.flatten_cons, List.flatten_nil, List.append_nil, List.length_append] at this ⊢; omega) (by omega) (by omega) (by omega) (by omega) (by omega) (Nat.le_refl _) (fun r hr => hall r (.inl (by simp [hr]))) (fun r hr => hall r (.inr hr)) (hC X (by simp)).2 hRs (by omega)
        simp
        refine xcall_a (by simpa using c85) ?_
        simp [hw2', put_put]
        refine ⟨b2, D, sortBy ltR (X ++ R), ⟨by omega, ?_, hD, by rw [sortBy_len, List.length_append]; omega, stoR.sorted _⟩, by omega, Sim.of_le (Env.le_of (by simp)) (Mem.le_refl _)⟩
        refine List.Perm.trans ?_ hp
        simp only [List.flatten_cons, List.flatten_nil, List.append_nil]
        exact List.Perm.append_left _ (sortBy_perm _)
      · have hge3 : n ≤ mm := by have := ltI_f.1 h3; omega
        simp [hw2']
        match C, hp, hC, hCl, hlen with
        | [], hp, hC, hCl, hlen =>
          refine ⟨b2, D, R, ⟨by omega, by simpa using hp, hD, by omega, hRs⟩, by omega, Sim.of_le (Env.le_of (by simp)) (Mem.le_refl _)⟩
        | [X], hp, hC, hCl, hlen =>
          have hXl := (hC X (by simp)).1
          simp only [List.length_cons, List.length_nil] at hlen
          have hR0 : R = [] := List.eq_nil_of_length_eq_zero (by omega)
          subst hR0
          refine ⟨b2, D, X, ⟨by omega, by simpa using hp, hD, by omega, (hC X (by simp)).2⟩, by omega, Sim.of_le (Env.le_of (by simp)) (by simp; exact Mem.le_refl _)⟩
        | X :: Y :: C', hp, hC, hCl, hlen => simp only [List.length_cons, Nat.mul_add, Nat.mul_one] at hlen; omega
  · have hge : n ≤ bs := by have := ltI_f.1 h1; omega
    have hsorted : Srt ltR (C.flatten ++ R) := by
      match C, hC, hCl, hlen with
      | [], hC, hCl, hlen => exact hRs
      | [X], hC, hCl, hlen =>
        simp only [List.length_cons, List.length_nil] at hlen
        have hR0 : R = [] := List.eq_nil_of_length_eq_zero (by omega)
        subst hR0
        simpa using (hC X (by simp)).2
      | X :: Y :: C', hC, hCl, hlen => simp only [List.length_cons, Nat.mul_add, Nat.mul_one] at hlen; omega
    simp [cr72, postA, endPost, stoR.unique hsorted hp]

theorem call40 (m : Mem) (pos gen n : Nat) (l : List DRow) (h : m.obj pos gen = some (rowsR l)) (hn : l.length = n) (hfit : ∀ r ∈ l, r.Fit) (hl : n ≤ 3000000000000) :
    ACalls Try.prog 40 [.row pos gen 3 0 n, .fn 41 []] m fun out m' => out = .ret (.tuple []) ∧ m' = m.put pos gen (rowsR (sortBy ltR l)) := by
  refine ok40.acalls (by simp) ?_
  simp [c40]
  refine xcall_a (call72 m pos gen n l h hn hfit hl) ?_
  simp [cr40, postA, endPost]
end Go.Pm

/- LkT8: contracts: builders of texts. -/
set_option linter.unusedVariables false
namespace Go.Pm
open Go Go.Proofs Go.Shelf Go.RowKit

theorem info85 : (Try.prog.info? 85).map (·.size) = some 2 := by kernel_rfl
theorem cells85 : Try.prog.cellsOf 85 = 2 := by kernel_rfl
theorem lies85 (count : Nat) (h : 1 ≤ count) : liesAt Try.prog Try.prog.depth 85 (count * 2 / Try.prog.cellsOf 85) 0 85 1 = true := by
  have hd : Try.prog.depth = (2 * (Try.prog.types.size + Made.depth) + 1) + 1 := rfl
  have hc : count * 2 / 2 = count := by omega
  rw [cells85, hc, hd]
  simp only [liesAt, Bool.or_eq_true]
  left
  rw [hd]
  simp [rowAt, cells85, sameLayout, h]

set_option maxHeartbeats 1000000 in
set_option maxRecDepth 100000 in
theorem check_used (b : Nat) (w : World) (h0 : w.cell? ⟨b, 0, none⟩ = some (.pointer (some ⟨b, 0, none⟩))) :
    Calls Try.prog 74 #[.pointer (some ⟨b, 0, none⟩)] w fun e w' => e = .returned (.tuple #[]) ∧ w' = w := by
  obtain ⟨j, hj, _⟩ := Option.map_eq_some_iff.1 info85
  go_enter Try.func74, Try.ntmps74
  go_wp2
  rw [Lib.run_neq_ptr_same w _ Try.underlying82 hj]
  go_wp2
  go_end0
  exact ⟨rfl, rfl⟩

set_option maxHeartbeats 1000000 in
set_option maxRecDepth 100000 in
theorem check_fresh (b : Nat) (w : World) (h0 : w.cell? ⟨b, 0, none⟩ = some (.pointer none)) (c : Nat) (hc : 1 ≤ c) (hsh : w.shape? b = some (85, c * 2)) (hfz : w.frozen? ⟨b, 0, none⟩ = false) :
    Calls Try.prog 74 #[.pointer (some ⟨b, 0, none⟩)] w fun e w' => e = .returned (.tuple #[]) ∧ w' = w.setCell ⟨b, 0, none⟩ (.pointer (some ⟨b, 0, none⟩)) := by
  obtain ⟨j, hj, hjs⟩ := Option.map_eq_some_iff.1 info85
  go_enter Try.func74, Try.ntmps74
  go_wp2
  rw [Lib.run_to_unsafe w ⟨b, 0, none⟩ Try.underlying82 Try.underlying131 hj (by rw [hjs]; decide) hsh (by show 0 < c * 2; omega)]
  simp only [Result.andThen]
  rw [Oper.upon_value]
  go_wp2
  rw [run_callFunc_extern Try.func86 (by kernel_rfl) (by kernel_rfl) (by kernel_rfl) (e := Extern.AbiNoEscape.same) (by kernel_rfl)]
  rw [Lib.run_noEscape]
  simp only [Result.andThen]
  rw [Oper.upon_value]
  go_wp2
  rw [Lib.run_from_unsafe w ⟨b, 0, none⟩ Try.underlying131 Try.underlying82 hj hsh (lies85 c hc)]
  simp only [Result.andThen]
  rw [Oper.upon_value]
  go_wp2
  go_end0
  exact ⟨rfl, rfl⟩

theorem elem_cells {σ : Sig} {K : Bool → Nat → Prop} {w : World} {b : Nat} {x y : AV} (h : LR σ K w b 0 2 [[x, y]]) : (∃ u, w.cell? ⟨b, 0, none⟩ = some u ∧ u.oneCell' = true ∧ VR σ K w x u) ∧ ∃ u, w.cell? ⟨b, 1, none⟩ = some u ∧ u.oneCell' = true ∧ VR σ K w y u := by
  obtain ⟨_, h, _⟩ := h
  exact ⟨h.1, h.2.1⟩

theorem call74 (m : Mem) (pos gen : Nat) (a v : AV) (h : m.obj pos gen = some (.row 85 2 [[a, v]])) (ha : a = .const (.pointer none) ∨ a = .rptr pos gen 2 0 0) :
    ACalls Try.prog 74 [.rptr pos gen 2 0 0] m fun out m' => out = .ret (.tuple []) ∧ m' = m.put pos gen (.row 85 2 [[.rptr pos gen 2 0 0, v]]) := by
  refine ⟨⟨Try.f74, Try.func74, rfl, by kernel_rfl⟩, fun β K σ w vals hrel hv => ?_⟩
  obtain ⟨u, us, rfl, hV, hnil⟩ := hv
  rw [VRs] at hnil
  subst hnil
  rw [VR] at hV
  obtain ⟨b, c, hg, rfl⟩ := hV
  obtain ⟨cur, hheap, hcs, hcap, hmax, hpos2, hlr⟩ := hrel.obj_row h hg
  obtain ⟨⟨u0, hc0, ho0, hV0⟩, ⟨u1, hc1, ho1, hV1⟩⟩ := elem_cells hlr
  have hpos := Mem.obj_some h
  have hself : VR σ K w (.rptr pos gen 2 0 0) (.pointer (some ⟨b, 0, none⟩)) := by rw [VR]; exact ⟨b, c, hg, rfl⟩
  show Calls Try.prog 74 #[.pointer (some ⟨b, 0, none⟩)] w _
  rcases ha with rfl | rfl
  · rw [VR] at hV0
    subst hV0
    have hb : b < w.heap.size := (Array.getElem?_eq_some_iff.1 hheap).1
    have hsz : cur.size = c * 2 := hcs
    have hc1' : 1 ≤ c := by simpa using hcap
    refine (check_fresh b w hc0 c hc1' (by simp [World.shape?, hheap, hsz]) (by simp [World.frozen?, hheap])).mono ?_
    rintro e w' ⟨rfl, rfl⟩
    have hheap' : (w.setCell ⟨b, 0, none⟩ (.pointer (some ⟨b, 0, none⟩))).heap[b]? = some (.cells (cur.setIfInBounds 0 (.pointer (some ⟨b, 0, none⟩))) 85 (0, 0)) := by
      show (w.heap.modify b _)[b]? = _
      rw [Array.getElem?_modify, if_pos rfl, hheap]
      rfl
    have hgr : w.grownBy (w.setCell ⟨b, 0, none⟩ (.pointer (some ⟨b, 0, none⟩))) (some b) := by
      refine ⟨rfl, rfl, rfl, by simp [World.setCell], fun k hk hne => ?_⟩
      show (w.heap.modify b _)[k]? = _
      rw [Array.getElem?_modify, if_neg (fun e => hne (by rw [e]))]
    have hKs := hrel.kept_same hgr (hrel.not_kept h hg)
    have hput : Rel β K σ (m.put pos gen (.row 85 2 [[.rptr pos gen 2 0 0, v]])) (w.setCell ⟨b, 0, none⟩ (.pointer (some ⟨b, 0, none⟩))) := by
      refine hrel.put hpos hg hgr ⟨_, hheap', by simp [hcs], by simpa using hcap, hmax, hpos2, rfl, ⟨⟨_, ?_, rfl, by rw [VR]; exact ⟨b, c, hg, rfl⟩⟩, ⟨u1, ?_, ho1, VR.mono (List.prefix_refl _) (fun _ _ h => h) hKs _ _ hV1⟩, trivial⟩, trivial⟩
      · rw [cell?_cells hheap']
        have h0 : 0 < cur.size := by omega
        simp [h0]
      · have e1 := hc1
        rw [cell?_cells hheap] at e1
        rw [cell?_cells hheap']
        simpa using e1
    exact ⟨K, σ, _, .ret (.tuple []), ⟨rfl, rfl⟩, hput, List.prefix_refl _, fun _ _ h => h, hKs, .tuple #[], rfl, by rw [VR]; exact ⟨#[], rfl, rfl⟩⟩
  · rw [VR] at hV0
    obtain ⟨b', c', hg', rfl⟩ := hV0
    rw [hg] at hg'
    injection hg' with hg'; injection hg' with e1 e2; injection e1 with e1; subst e1; subst e2
    refine (check_used b w hc0).mono ?_
    rintro e w' ⟨rfl, rfl⟩
    rw [Mem.put_same hpos]
    exact ⟨K, σ, m, .ret (.tuple []), ⟨rfl, rfl⟩, hrel, List.prefix_refl _, fun _ _ h => h, fun _ _ _ => rfl, .tuple #[], rfl, by rw [VR]; exact ⟨#[], rfl, rfl⟩⟩

section
attribute [-simp] List.getElem?_map Mem.obj Mem.put Mem.turn
theorem obj_put_ne {m : Mem} {p g q k : Nat} {o : AObj} (h : p ≠ q) : (m.put p g o).obj q k = m.obj q k := by
  simp [Mem.obj, Mem.put, List.getElem?_set, h]
theorem obj_turn_ne {m : Mem} {p q k : Nat} {o : AObj} (h : p ≠ q) : (m.turn p o).obj q k = m.obj q k := by
  simp [Mem.obj, Mem.turn, List.getElem?_set, h]
theorem put_next {m : Mem} {p g : Nat} {o : AObj} : (m.put p g o).next = m.next := rfl
theorem bytes_len (s : ByteArray) : (bytesOf s).length = s.size := by simp [bytesOf]
theorem bytes_app (s t : ByteArray) : bytesOf s ++ bytesOf t = bytesOf (s ++ t) := by simp [bytesOf]

/-- What a builder at `bpos` with its bytes at `rpos` is behind a writing. -/
def writeM (m : Mem) (bpos bgen rpos : Nat) (t : ByteArray) : Mem :=
  (m.turn rpos (.row 5 1 (bytesOf t))).put bpos bgen (.row 85 2 [[.rptr bpos bgen 2 0 0, .row rpos m.next 1 0 t.size]])
theorem put_turn_put {m : Mem} {p g r : Nat} {o x o' : AObj} (h : p ≠ r) : ((m.put p g o).turn r x).put p g o' = (m.turn r x).put p g o' := by
  simp only [Mem.put, Mem.turn]
  rw [List.set_comm _ _ h, List.set_set]

theorem call43 (m : Mem) (bpos bgen rpos rgen : Nat) (a : AV) (t s : ByteArray) (hb : m.obj bpos bgen = some (.row 85 2 [[a, .row rpos rgen 1 0 t.size]])) (hr : m.obj rpos rgen = some (.row 5 1 (bytesOf t))) (hne : bpos ≠ rpos) (ha : a = .const (.pointer none) ∨ a = .rptr bpos bgen 2 0 0) (hl : t.size + s.size ≤ 140737488355328) :
    ACalls Try.prog 43 [.rptr bpos bgen 2 0 0, .str s] m fun out m' => out = .ret (.tuple [.int .i64 s.size, .const .nilIface]) ∧ m' = writeM m bpos bgen rpos (t ++ s) := by
  refine ok43.acalls (by simp) ?_
  simp [c43]
  refine xcall_a (call74 m bpos bgen a _ hb ha) ?_
  have h1 : (m.put bpos bgen (.row 85 2 [[.rptr bpos bgen 2 0 0, .row rpos rgen 1 0 t.size]])).obj bpos bgen = some (.row 85 2 [[.rptr bpos bgen 2 0 0, .row rpos rgen 1 0 t.size]]) := obj_put hb
  have h2 : (m.put bpos bgen (.row 85 2 [[.rptr bpos bgen 2 0 0, .row rpos rgen 1 0 t.size]])).obj rpos rgen = some (.row 5 1 (bytesOf t)) := by rw [obj_put_ne hne]; exact hr
  have b1 : t.size + s.size ≤ 9223372036854775807 := by omega
  have h3 : ((m.put bpos bgen (.row 85 2 [[.rptr bpos bgen 2 0 0, .row rpos rgen 1 0 t.size]])).turn rpos (.row 5 1 (bytesOf (t ++ s)))).obj bpos bgen = some (.row 85 2 [[.rptr bpos bgen 2 0 0, .row rpos rgen 1 0 t.size]]) := by rw [obj_turn_ne (fun e => hne e.symm)]; exact h1
  simp [h1, h2, h3, nilCheckA, appendSA, bytes_len, put_next, bytes_app, b1, hl, List.range_succ, put_turn_put hne, cr43, writeM]
end
end Go.Pm

/- LkT9: contracts: a builder's text. -/
set_option linter.unusedVariables false
namespace Go.Pm
open Go Go.Proofs Go.Shelf Go.RowKit

theorem mixedT : Try.prog.follows Departure.mixedOrders = true := by kernel_rfl
theorem cells5 : Try.prog.cellsOf 5 = 1 := by kernel_rfl

set_option maxHeartbeats 2000000 in
set_option maxRecDepth 100000 in
theorem string_row (b g cap : Nat) (cur : Array Value) (l : List UInt8) (w : World) (h0 : l ≠ []) (hc : w.cell? ⟨b, 1, none⟩ = some (.slice (some ⟨g, 0, none⟩) l.length cap)) (hg : w.heap[g]? = some (.cells cur 5 (0, 0))) (hlc : l.length ≤ cap) (hcm : cap ≤ maxLen) (hcs : cur.size = cap * 1)
    (hcell : ∀ j x, l[j]? = some x → w.cell? ((⟨g, 0, none⟩ : Addr).add j) = some (.int .u8 x.toNat)) :
    Calls Try.prog 45 #[.pointer (some ⟨b, 0, none⟩)] w fun e w' => e = .returned (.string ⟨l.toArray⟩) ∧ w' = w.drew.freeze ⟨g, 0, none⟩ l.length := by
  have hl0 : l.length ≠ 0 := by simpa using h0
  have c1 : w.drew.cell? ⟨b, 1, none⟩ = some (.slice (some ⟨g, 0, none⟩) l.length cap) := hc
  have hSD : (Builtin.unsafeSliceData_ #[83] 120 #[.slice (some ⟨g, 0, none⟩) l.length cap]).run Try.prog w.drew = .ok (.pointer (some ⟨g, 0, none⟩)) w.drew :=
    Lib.run_unsafeSliceData_row _ _ _ _ _ _ (by omega)
  have hUS : (Builtin.unsafeString_ #[120, 3] 9 #[.pointer (some ⟨g, 0, none⟩), .int .i64 l.length]).run Try.prog w.drew = .ok (.string ⟨l.toArray⟩) (w.drew.freeze ⟨g, 0, none⟩ l.length) :=
    Lib.run_unsafeString_row w.drew 120 3 9 5 Try.underlying120 cells5 g cur.size (by have hg' : w.drew.heap[g]? = some (.cells cur 5 (0, 0)) := hg; simp [World.shape?, hg']) l h0 (by omega) (by unfold maxLen at hcm; omega) hcell
  have mixed := mixedT
  go_enter Try.func45, Try.ntmps45
  go_wp2
  go_region_o
  all_goals (go_wp2; go_ret; exact ⟨rfl, rfl⟩)

theorem unsafe_none (W : World) (q : Option Addr) : (Builtin.unsafeString_ #[120, 3] 9 #[.pointer q, .int .i64 0]).run Try.prog W = .ok (.string .empty) W := Lib.run_unsafeString_none W _ _ _ q

set_option maxHeartbeats 2000000 in
set_option maxRecDepth 100000 in
theorem string_nil (b : Nat) (w : World) (hc : w.cell? ⟨b, 1, none⟩ = some (.slice none 0 0)) :
    Calls Try.prog 45 #[.pointer (some ⟨b, 0, none⟩)] w fun e w' => e = .returned (.string ⟨#[]⟩) ∧ w' = w.drew := by
  have hUS := unsafe_none
  have c1 : w.drew.cell? ⟨b, 1, none⟩ = some (.slice none 0 0) := hc
  have hSD : (Builtin.unsafeSliceData_ #[83] 120 #[.slice none 0 0]).run Try.prog w.drew = .ok (.pointer none) w.drew := rfl
  have mixed := mixedT
  go_enter Try.func45, Try.ntmps45
  go_wp2
  go_region_o
  all_goals (go_wp2; go_ret; exact ⟨rfl, rfl⟩)

set_option maxHeartbeats 2000000 in
set_option maxRecDepth 100000 in
theorem string_noroom (b g : Nat) (cur : Array Value) (w : World) (hb : b < w.heap.size) (hc : w.cell? ⟨b, 1, none⟩ = some (.slice (some ⟨g, 0, none⟩) 0 0)) (hg : w.heap[g]? = some (.cells cur 5 (0, 0))) :
    Calls Try.prog 45 #[.pointer (some ⟨b, 0, none⟩)] w fun e w' => e = .returned (.string ⟨#[]⟩) ∧ w' = w.drew.alloc (.view ⟨g, 0, none⟩ 5) := by
  have hUS := unsafe_none
  have c1 : w.drew.cell? ⟨b, 1, none⟩ = some (.slice (some ⟨g, 0, none⟩) 0 0) := hc
  have hSD : (Builtin.unsafeSliceData_ #[83] 120 #[.slice (some ⟨g, 0, none⟩) 0 0]).run Try.prog w.drew = .ok (.pointer (some ⟨w.drew.heap.size, 0, none⟩)) (w.drew.alloc (.view ⟨g, 0, none⟩ 5)) :=
    Lib.run_unsafeSliceData_zero w.drew _ _ 5 Try.underlying120 ⟨g, 0, none⟩ 0 (5, cur.size) (by have hg' : w.drew.heap[g]? = some (.cells cur 5 (0, 0)) := hg; simp [World.shape?, hg'])
  have c2 : (w.drew.alloc (.view ⟨g, 0, none⟩ 5)).cell? ⟨b, 1, none⟩ = some (.slice (some ⟨g, 0, none⟩) 0 0) := by
    rw [cell?_congr (w := w.drew) (a := ⟨b, 1, none⟩) (Lib.alloc_old w.drew _ b hb)]; exact c1
  have c3 : (w.alloc (.view ⟨g, 0, none⟩ 5)).drew.cell? ⟨b, 1, none⟩ = some (.slice (some ⟨g, 0, none⟩) 0 0) := c2
  have mixed := mixedT
  go_enter Try.func45, Try.ntmps45
  go_wp2
  go_region_o
  all_goals (go_wp2; go_ret; exact ⟨rfl, rfl⟩)

set_option maxHeartbeats 2000000 in
set_option maxRecDepth 100000 in
theorem string_room (b g cap : Nat) (w : World) (hc0 : cap ≠ 0) (hc : w.cell? ⟨b, 1, none⟩ = some (.slice (some ⟨g, 0, none⟩) 0 cap)) :
    Calls Try.prog 45 #[.pointer (some ⟨b, 0, none⟩)] w fun e w' => e = .returned (.string ⟨#[]⟩) ∧ w' = w.drew := by
  have hUS := unsafe_none
  have c1 : w.drew.cell? ⟨b, 1, none⟩ = some (.slice (some ⟨g, 0, none⟩) 0 cap) := hc
  have hSD : (Builtin.unsafeSliceData_ #[83] 120 #[.slice (some ⟨g, 0, none⟩) 0 cap]).run Try.prog w.drew = .ok (.pointer (some ⟨g, 0, none⟩)) w.drew :=
    Lib.run_unsafeSliceData_row _ _ _ _ _ _ hc0
  clear hc0
  have mixed := mixedT
  go_enter Try.func45, Try.ntmps45
  go_wp2
  go_region_o
  all_goals (go_wp2; go_ret; exact ⟨rfl, rfl⟩)

theorem drew_grown (w : World) : w.grownBy w.drew none := ⟨rfl, rfl, rfl, Nat.le_refl _, fun _ _ _ => rfl⟩
theorem freeze_grown (w : World) (g n : Nat) : w.grownBy (w.drew.freeze ⟨g, 0, none⟩ n) (some g) := by
  unfold World.freeze
  split
  · exact grownBy.weaken (drew_grown w)
  · refine ⟨rfl, rfl, rfl, by simp, fun k hk hne => ?_⟩
    show (w.drew.heap.modify g _)[k]? = _
    rw [Array.getElem?_modify, if_neg (fun e => hne (by rw [e]))]
    rfl

theorem call45 (m : Mem) (bpos bgen rpos rgen : Nat) (a : AV) (s : ByteArray) (hb : m.obj bpos bgen = some (.row 85 2 [[a, .row rpos rgen 1 0 s.size]])) (hr : m.obj rpos rgen = some (.row 5 1 (bytesOf s))) :
    ACalls Try.prog 45 [.rptr bpos bgen 2 0 0] m fun out m' => out = .ret (.str s) ∧ m' = m.put rpos rgen .hole := by
  refine ⟨⟨Try.f45, Try.func45, rfl, by kernel_rfl⟩, fun β K σ w vals hrel hv => ?_⟩
  obtain ⟨u, us, rfl, hV, hnil⟩ := hv
  rw [VRs] at hnil
  subst hnil
  rw [VR] at hV
  obtain ⟨b, c, hg, rfl⟩ := hV
  obtain ⟨cur, hheap, hcs, hcap, hmax, hpos2, hlr⟩ := hrel.obj_row hb hg
  obtain ⟨_, ⟨u1, hc1, ho1, hV1⟩⟩ := elem_cells hlr
  have hposr := Mem.obj_some hr
  have hblt : b < w.heap.size := (Array.getElem?_eq_some_iff.1 hheap).1
  show Calls Try.prog 45 #[.pointer (some ⟨b, 0, none⟩)] w _
  have fin : ∀ (w' : World) (sr : Option Nat × Nat), σ[rgen]? = some sr → w.grownBy w' sr.1 → ∀ e, e = Ending.returned (.string s) →
      ∃ K' σ' m' out, (out = AOut.ret (.str s) ∧ m' = m.put rpos rgen .hole) ∧ Rel β K' σ' m' w' ∧ σ <+: σ' ∧ (∀ p b, K p b → K' p b) ∧ (∀ p b, K p b → w'.heap[b]? = w.heap[b]?) ∧ OutR σ' K' w' out e := by
    rintro w' ⟨sb, sc⟩ hsr hgr e rfl
    have hKs : ∀ p b, K p b → w'.heap[b]? = w.heap[b]? := by
      intro p b' hk
      refine hgr.block b' (hrel.kept p b' hk).2 (fun e => ?_)
      simp only at e
      subst e
      exact (hrel.own b' ⟨rpos, rgen, _, sc, hposr, hsr⟩).2.2 p hk
    exact ⟨K, σ, _, .ret (.str s), ⟨rfl, rfl⟩, hrel.put hposr hsr hgr trivial, List.prefix_refl _, fun _ _ h => h, hKs, .string s, rfl, by rw [VR]⟩
  have hemp : s.size = 0 → s = ⟨#[]⟩ := fun h => by
    cases s with
    | mk d => have : d.size = 0 := h; rw [Array.size_eq_zero_iff] at this; rw [this]
  rw [VR] at hV1
  rcases hV1 with ⟨g, cp, hgr, hoc, rfl⟩ | ⟨hgr, hn0, _, rfl⟩ | ⟨hn0, h0, _⟩
  · obtain ⟨cur2, hheap2, hcs2, hcap2, hmax2, _, hlr2⟩ := hrel.obj_row hr hgr
    simp only [Nat.zero_mul, Nat.sub_zero] at hc1
    by_cases hz : s.size = 0
    · have hs := hemp hz
      rw [hz] at hc1
      by_cases hcp : cp = 0
      · subst hcp
        refine (string_noroom b g cur2 w hblt hc1 hheap2).mono ?_
        rintro e w' ⟨rfl, rfl⟩
        refine fin _ _ hgr (grownBy.weaken (w' := w.drew.alloc (.view ⟨g, 0, none⟩ 5)) ⟨rfl, rfl, rfl, by simp, fun k hk _ => heap_alloc_old w.drew _ hk⟩) _ (by rw [hs])
      · refine (string_room b g cp w hcp hc1).mono ?_
        rintro e w' ⟨rfl, rfl⟩
        exact fin _ _ hgr (grownBy.weaken (drew_grown w)) _ (by rw [hs])
    · have hl : s.data.toList ≠ [] := by
        intro e
        have : s.data.toList.length = 0 := by rw [e]; rfl
        exact hz this
      have hlen : s.data.toList.length = s.size := rfl
      rw [← hlen] at hc1
      have hcell : ∀ j x, s.data.toList[j]? = some x → w.cell? ((⟨g, 0, none⟩ : Addr).add j) = some (.int .u8 x.toNat) := by
        intro j x hj
        obtain ⟨_, hc⟩ := LR_iff.1 hlr2 j [.int .u8 x.toNat] (by unfold bytesOf; rw [List.getElem?_map, hj]; rfl)
        obtain ⟨u, hu, _, hVu⟩ := CR_iff.1 hc 0 _ rfl
        rw [VR] at hVu
        rw [Addr.add_lit]
        rw [show 0 + j * 1 + 0 = 0 + j by omega] at hu
        rw [hu, hVu]
      refine (string_row b g cp cur2 s.data.toList w hl hc1 hheap2 (by rw [hlen]; omega) hmax2 hcs2 hcell).mono ?_
      rintro e w' ⟨rfl, rfl⟩
      exact fin _ _ hgr (freeze_grown w g _) _ (by simp)
  · have hs := hemp hn0
    have hs2 := hs
    refine (string_nil b w hc1).mono ?_
    rintro e w' ⟨rfl, rfl⟩
    exact fin _ _ hgr (drew_grown w) _ (by rw [hs])
  · omega
end Go.Pm

/- LkQ8: contracts: link's Map. -/
namespace Go.Pm
open Go Go.Proofs
attribute [-simp] List.getElem?_map List.map_append List.map_take List.map_drop ByteArray.size_append

theorem Rel.nil_elem {β : Base} {K : Bool → Nat → Prop} {σ : Sig} {m : Mem} {w : World} (h : Rel β K σ m w) {pos g e sz : Nat} {els : List (List AV)} {vs : List AV} (i j et : Nat) {sz2 : Nat} (hsz : 0 < sz2) (hp : m.store[pos]? = some (g, .row e sz els)) (hi : els[i]? = some vs) (hj : vs[j]? = some .nilS) :
    Rel β K (σ ++ [(none, 0)]) ((m.new (.row et sz2 [])).put pos g (.row e sz (els.set i (vs.set j (.row m.store.length m.next sz2 0 0))))) w := by
  obtain ⟨h1, h2⟩ := h.nil_row et hsz
  have hlt := (List.getElem?_eq_some_iff.1 hp).1
  have hp' : (m.new (.row et sz2 [])).store[pos]? = some (g, .row e sz els) := by
    simp only [Mem.new]
    rw [List.getElem?_append_left hlt]
    exact hp
  obtain ⟨s, hs, ho⟩ := h1.objs pos g _ hp'
  refine h1.put hp' hs ⟨rfl, rfl, rfl, Nat.le_refl _, fun _ _ _ => rfl⟩ ?_
  obtain ⟨b, c⟩ := s
  cases b with
  | none =>
    obtain ⟨h3, _⟩ := ho
    subst h3
    cases hi
  | some b =>
    obtain ⟨cur, hb, hl, hcap, hmax, h0, hlr⟩ := ho
    refine ⟨cur, hb, hl, by rw [List.length_set]; exact hcap, hmax, h0, LR_iff.2 fun k x hk => ?_⟩
    rw [List.getElem?_set] at hk
    split at hk
    · rename_i hik
      subst hik
      split at hk
      · injection hk with hk; subst hk
        obtain ⟨g1, g2⟩ := LR_iff.1 hlr i _ hi
        refine ⟨by rw [List.length_set]; exact g1, CR_iff.2 fun k x hk => ?_⟩
        rw [List.getElem?_set] at hk
        split at hk
        · rename_i hjk
          subst hjk
          split at hk
          · injection hk with hk; subst hk
            obtain ⟨u, hu1, hu2, hu3⟩ := CR_iff.1 g2 j _ hj
            exact ⟨u, hu1, hu2, nil_as_row h2 hu3⟩
          · cases hk
        · exact CR_iff.1 g2 k x hk
      · cases hk
    · exact LR_iff.1 hlr k x hk

theorem Sim.nil_elem {e : Env} {m : Mem} {pos g t sz : Nat} {els : List (List AV)} {vs : List AV} (i j et : Nat) {sz2 : Nat} (hsz : 0 < sz2) (hp : m.store[pos]? = some (g, .row t sz els)) (hi : els[i]? = some vs) (hj : vs[j]? = some .nilS) :
    Sim e ((m.new (.row et sz2 [])).put pos g (.row t sz (els.set i (vs.set j (.row m.store.length m.next sz2 0 0))))) e m := by
  intro β N a w σ K hst
  have hpre : σ <+: σ ++ [(none, 0)] := List.prefix_append _ _
  exact ⟨_, hpre, hst.rel.nil_elem i j et hsz hp hi hj, hst.env.mono hpre (fun _ _ h => h) (fun _ _ _ => rfl), hst.defers, hst.size⟩

theorem xdcall_a {P : Program} {imp : List FuncId} {f : FuncId} {xs : List AV} {v : AV} {dst : Option Nat} {t : DT} {d : List Nat} {fs : List Fr} {Q : Post} {e : Env} {m m' : Mem} (hi : imp.contains f = true) (h : ACalls P f xs m fun out m2 => out = .ret v ∧ m2 = m')
    (hk : xdops P imp t d fs Q (e.put dst v) m') : xdcall P imp f xs dst t d fs Q e m := by
  unfold xdcall dact
  simp only [List.map_map, Function.comp_def, Opnd.eval, hi]
  exact ⟨v, m', by simpa using h, hk.out⟩

def rowsAV (l : List DRow) : List (List AV) := l.map DRow.av
theorem rowsAV_len (l : List DRow) : (rowsAV l).length = l.length := by simp [rowsAV]
theorem rowsR_eq (l : List DRow) : rowsR l = .row 78 3 (rowsAV l) := rfl
theorem rowsAV_nil : rowsAV [] = [] := rfl
def mapTo (x : Img) (i j : Nat) : List DRow := (x.names.take i).map rowN ++ (x.defs.take j).map rowD
theorem mapTo_nil (x : Img) : mapTo x 0 0 = [] := rfl
theorem mapTo_len {x : Img} {i j : Nat} (hi : i ≤ x.names.length) (hj : j ≤ x.defs.length) : (mapTo x i j).length = i + j := by simp [mapTo]; omega
theorem mapTo_name {x : Img} {i : Nat} (h : i < x.names.length) : rowsAV (mapTo x (i + 1) 0) = rowsAV (mapTo x i 0) ++ [[.int .i64 (ix x.names i).at_, .bool false, .str (ix x.names i).name]] := by
  unfold mapTo rowsAV
  rw [take_ix h]
  simp [List.map_append, rowN, DRow.av]
theorem mapTo_def {x : Img} {i j : Nat} (h : j < x.defs.length) : rowsAV (mapTo x i (j + 1)) = rowsAV (mapTo x i j) ++ [[.int .i64 (ix x.defs j).at_, .bool true, .str (ix x.defs j).name]] := by
  unfold mapTo rowsAV
  rw [take_ix h]
  simp [List.map_append, rowD, DRow.av]
theorem mapTo_all (x : Img) : mapTo x x.names.length x.defs.length = mapRows x := by
  unfold mapTo mapRows
  rw [List.take_length, List.take_length]

/-- A builder's text, and itself. -/
def builder (a : AV) (gr n : Nat) : AObj := .row 85 2 [[a, .row 3 gr 1 0 n]]

set_option maxHeartbeats 4000000 in
theorem call18 (x : Img) (hx : x.Small) (hlen : x.names.length + x.defs.length ≤ 3000000000000) : PCalls Try.prog 18 [.agg x.av] fun out => out = .ret (mapAV x) := by
  refine ok18.pcalls (by simp) ?_
  simp [c18, Img.av]
  refine xcall_p (call39 x hx) (by simp [Img.av]) ?_
  cases hi : imgOk x with
  | false => simp [cr18, mapAV, hi]
  | true =>
  have ht := imgOk_told hi
  obtain ⟨hb0, hb1⟩ := ht.base
  have he := ht.end_
  simp
  refine wpS_loopS (ι := Nat × (Nat × Nat)) (fun u => [(1, .ptr 0 0 0), (4, .row 1 u.2.1 3 0 u.1), (17, .list true 2 (x.names.map DDef.av)), (18, .int .i64 x.names.length), (19, .int .i64 u.1)]) (fun u => ⟨[(0, .cells x.av), (u.2.1, .row 78 3 (rowsAV (mapTo x u.1 0)))], u.2.2⟩) (fun u => x.names.length - u.1)
    (fun u => u.1 ≤ x.names.length) (0, (1, 2)) (Nat.zero_le _) (Sim.after (Sim.nil_env 4 78 (sz := 3) (by omega) rfl) (Sim.of_le (Env.le_of (by simp)) (Mem.le_of rfl (by simp [Img.av, mapTo_nil, rowsAV_nil])))) ?_
  rintro ⟨i, g, nx⟩ hin
  simp only at hin
  have hw : IntKind.i64.wrap (i + 1) = i + 1 := wrap64 (by omega) (by omega)
  simp [Img.av]
  refine br_cond rfl (fun h2 => ?_) (fun h2 => ?_)
  · have hlt2 : i < x.names.length := by have := ltI_t.1 h2; omega
    have hs := mapTo_name hlt2
    have hl : (rowsAV (mapTo x i 0)).length = i := by rw [rowsAV_len, mapTo_len hin (Nat.zero_le _)]; rfl
    have b1 : (i + 1) * 32 ≤ 140737488355328 := by omega
    have b2 : i + 1 ≤ 9223372036854775807 := by omega
    simp [h2, idxM, DDef.av, appendA, hl, b1, b2, List.range_succ, hw]
    exact ⟨i + 1, by omega, by omega, nx + 2, nx + 3, Sim.of_le (Env.le_of (by simp)) (Mem.le_of rfl (by simp [hs]))⟩
  have hid : i = x.names.length := by have := ltI_f.1 h2; omega
  subst hid
  have h2' : ltI (x.names.length : Int) x.names.length = false := h2
  simp [h2']
  clear h2 h2' hw hin
  refine wpS_loopS (ι := Nat × (Nat × Nat)) (fun u => [(1, .ptr 0 0 0), (4, .row 1 u.2.1 3 0 (x.names.length + u.1)), (33, .list true 2 (x.defs.map DDef.av)), (34, .int .i64 x.defs.length), (35, .int .i64 u.1)]) (fun u => ⟨[(0, .cells x.av), (u.2.1, .row 78 3 (rowsAV (mapTo x x.names.length u.1)))], u.2.2⟩) (fun u => x.defs.length - u.1)
    (fun u => u.1 ≤ x.defs.length) (0, (g, nx)) (Nat.zero_le _) (Sim.of_le (Env.le_of (by simp)) (Mem.le_of rfl (by simp [Img.av]))) ?_
  clear g nx
  rintro ⟨i, g, nx⟩ hin
  simp only at hin
  have hw : IntKind.i64.wrap (i + 1) = i + 1 := wrap64 (by omega) (by omega)
  simp [Img.av]
  refine br_cond rfl (fun h2 => ?_) (fun h2 => ?_)
  · have hlt2 : i < x.defs.length := by have := ltI_t.1 h2; omega
    have hs := mapTo_def (i := x.names.length) hlt2
    have hl : (rowsAV (mapTo x x.names.length i)).length = x.names.length + i := by rw [rowsAV_len, mapTo_len (Nat.le_refl _) hin]
    have b1 : (x.names.length + i + 1) * 32 ≤ 140737488355328 := by omega
    have b2 : x.names.length + i + 1 ≤ 9223372036854775807 := by omega
    simp [h2, idxM, DDef.av, appendA, hl, b1, b2, List.range_succ, hw]
    exact ⟨i + 1, by omega, by omega, nx + 2, nx + 3, Sim.of_le (Env.le_of (by simp; omega)) (Mem.le_of rfl (by simp [hs]))⟩
  have hid : i = x.defs.length := by have := ltI_f.1 h2; omega
  subst hid
  have h2' : ltI (x.defs.length : Int) x.defs.length = false := h2
  simp [h2', mapTo_all]
  clear h2 h2' hw hin
  have hrl : (mapRows x).length = x.names.length + x.defs.length := by rw [← mapTo_all, mapTo_len (Nat.le_refl _) (Nat.le_refl _)]
  have hrf : ∀ r ∈ mapRows x, r.Fit ∧ r.text.size ≤ 31 := fun r hr => by
    unfold mapRows at hr
    rcases List.mem_append.1 hr with hr | hr
    · obtain ⟨d, hd, rfl⟩ := List.mem_map.1 hr
      have := ht.names d hd
      exact ⟨⟨by simp only [rowN]; omega, by simp only [rowN]; omega⟩, this.1⟩
    · obtain ⟨d, hd, rfl⟩ := List.mem_map.1 hr
      have := ht.defs d hd
      exact ⟨⟨by simp only [rowD]; omega, by simp only [rowD]; omega⟩, this.1⟩
  refine xcall_a (call40 _ 1 g (x.names.length + x.defs.length) (mapRows x) (by simp [Mem.obj, rowsR_eq]) hrl (fun r hr => (hrf r hr).1) hlen) ?_
  obtain ⟨L, hL⟩ : ∃ L, L = sortBy ltR (mapRows x) := ⟨_, rfl⟩
  have hLm : ∀ r ∈ L, r.Fit ∧ r.text.size ≤ 31 := fun r hr => hrf r (by rwa [hL, (sortBy_perm _).mem_iff] at hr)
  obtain ⟨n, hn⟩ : ∃ n, n = L.length := ⟨_, rfl⟩
  have hnl : x.names.length + x.defs.length = n := by rw [hn, hL, sortBy_len, hrl]
  have hone : (Value.pointer none).oneCell' = true := rfl
  have hmt : mapText x = catS ((L.take n).map lineR) := by rw [hn, List.take_length, hL]; rfl
  have hz0 : (catS ((L.take 0).map lineR)).size = 0 := rfl
  have hbb0 : bytesOf (catS ((L.take 0).map lineR)) = [] := rfl
  simp [← hL, rowsR_eq, hnl, hone]
  refine wpS_loopS (ι := (Nat × AV) × (Nat × Nat)) (fun u => [(9, .rptr 2 nx 2 0 0), (50, .row 1 g 3 0 n), (51, .int .i64 n), (52, .int .i64 u.1.1)])
    (fun u => ⟨[(0, .cells x.av), (g, .row 78 3 (rowsAV L)), (nx, .row 85 2 [[u.1.2, .row 3 u.2.1 1 0 (catS ((L.take u.1.1).map lineR)).size]]), (u.2.1, .row 5 1 (bytesOf (catS ((L.take u.1.1).map lineR))))], u.2.2⟩) (fun u => n - u.1.1)
    (fun u => u.1.1 ≤ n ∧ (u.1.2 = .const (.pointer none) ∨ u.1.2 = .rptr 2 nx 2 0 0)) ((0, .const (.pointer none)), (nx + 1, nx + 2)) ⟨Nat.zero_le _, .inl rfl⟩
    (Sim.after (Sim.nil_elem (pos := 2) (g := nx) (t := 85) (sz := 2) (els := [[.const (.pointer none), .nilS]]) (vs := [.const (.pointer none), .nilS]) 0 1 5 (sz2 := 1) (by omega) rfl rfl rfl) (Sim.of_le (Env.le_of (by simp)) (Mem.le_of rfl (by simp only [hz0, hbb0]; simp [Img.av])))) ?_
  rintro ⟨⟨i, a⟩, gr, nx2⟩ ⟨hin, ha⟩
  simp only at hin ha
  have hw : IntKind.i64.wrap (i + 1) = i + 1 := wrap64 (by omega) (by omega)
  obtain ⟨T, hT⟩ : ∃ T, T = catS ((L.take i).map lineR) := ⟨_, rfl⟩
  have hTz : T.size ≤ 41 * i := by
    have := catL_size (l := L.take i) (fun r hr => (hLm r (List.mem_of_mem_take hr)).2)
    rw [← hT, List.length_take] at this
    omega
  simp only [← hT]
  simp [Img.av]
  refine br_cond rfl (fun h2 => ?_) (fun h2 => ?_)
  · have hlt2 : i < L.length := by have := ltI_t.1 h2; omega
    obtain ⟨r, hr⟩ : ∃ r, r = ix L i := ⟨_, rfl⟩
    obtain ⟨hrf1, hr31⟩ := hLm r (by rw [hr]; exact ix_mem hlt2)
    have hget : (rowsAV L)[i]? = some [.int .i64 r.at_, .bool r.isDef, .str r.text] := by
      have := get_ix hlt2 (r := r) hr.symm
      exact this
    obtain ⟨k, hk⟩ : ∃ k : Nat, r.at_ = k := ⟨r.at_.toNat, by have := hrf1.1; omega⟩
    have hk1 : k ≤ 1000000000000 := by have := hrf1.2; omega
    have hcs := catL_snoc (L.take i) r
    rw [hr, ← take_ix hlt2, ← hr, ← hT, lineR_eq, hk, Int.toNat_natCast] at hcs
    obtain ⟨b, hb⟩ : ∃ b, b = (if r.isDef then (⟨#[32, 32, 32]⟩ : ByteArray) else ⟨#[32]⟩) := ⟨_, rfl⟩
    have hbz : b.size ≤ 3 := by
      rw [hb]
      cases r.isDef
      · exact (by decide : (⟨#[32]⟩ : ByteArray).size ≤ 3)
      · exact (by decide : (⟨#[32, 32, 32]⟩ : ByteArray).size ≤ 3)
    rw [← hb] at hcs
    have s10 : (⟨#[10]⟩ : ByteArray).size = 1 := rfl
    have c1 : (hexF k 6).size + b.size ≤ 9223372036854775807 := by rw [hexF_size]; omega
    have c2 : (hexF k 6 ++ b).size + r.text.size ≤ 9223372036854775807 := by rw [ByteArray.size_append, hexF_size]; omega
    have c3 : (hexF k 6 ++ b ++ r.text).size + (⟨#[10]⟩ : ByteArray).size ≤ 9223372036854775807 := by rw [ByteArray.size_append, ByteArray.size_append, hexF_size, s10]; omega
    obtain ⟨ln, hln⟩ : ∃ ln, ln = hexF k 6 ++ b ++ r.text ++ ⟨#[10]⟩ := ⟨_, rfl⟩
    have hlz : ln.size ≤ 41 := by rw [hln, ByteArray.size_append, ByteArray.size_append, ByteArray.size_append, hexF_size, s10]; omega
    rw [← hln] at hcs
    cases hd : r.isDef with
    | true =>
      rw [hd] at hb hget
      simp only [if_true] at hb
      simp [h2, hget, hk]
      refine xdcall_p rfl (call44 k 6 hk1 (by omega) (by omega)) (by simp) ?_
      simp [← hb, c1, c2, c3, ← hln]
      refine xdcall_a rfl (call43 _ 2 nx 3 gr a T ln (by simp) (by simp) (by omega) ha (by omega)) ?_
      simp [writeM, hw]
      exact ⟨i + 1, .rptr 2 nx 2 0 0, ⟨by omega, .inr rfl⟩, by omega, nx2 + 1, nx2 + 2, Sim.of_le (Env.le_of (by simp)) (Mem.le_of rfl (by simp [hcs]))⟩
    | false =>
      rw [hd] at hb hget
      simp only [Bool.false_eq_true, if_false] at hb
      simp [h2, hget, hk]
      refine xdcall_p rfl (call44 k 6 hk1 (by omega) (by omega)) (by simp) ?_
      simp [← hb, c1, c2, c3, ← hln]
      refine xdcall_a rfl (call43 _ 2 nx 3 gr a T ln (by simp) (by simp) (by omega) ha (by omega)) ?_
      simp [writeM, hw]
      exact ⟨i + 1, .rptr 2 nx 2 0 0, ⟨by omega, .inr rfl⟩, by omega, nx2 + 1, nx2 + 2, Sim.of_le (Env.le_of (by simp)) (Mem.le_of rfl (by simp [hcs]))⟩
  have hid : i = n := by have := ltI_f.1 h2; omega
  subst hid
  rw [← hmt] at hT
  have h2' : ltI (i : Int) i = false := h2
  simp [h2']
  refine xcall_a (call45 _ 2 nx 3 gr a T (by simp) (by simp)) ?_
  simp [cr18, mapAV, hi, ← hT]
end Go.Pm

/- LkC22: contracts: the linker's Link. -/
namespace Go.Pm
open Go Go.Proofs
attribute [-simp] List.getElem?_map

def img0 : List AV := [.int .i64 0, .str ⟨#[]⟩, .nilS, .nilS, .nilS]

theorem DCalls.of_le {P : Program} {f : FuncId} {xs : List AV} {pan : Option AV} {m1 m : Mem} {R : Mem → Prop} (hle : Mem.le m1 m) (h : DCalls P f xs pan m1 R) : DCalls P f xs pan m R := by
  refine ⟨h.1, fun β K σ w vals u hrel hv hu => h.2 β K σ w vals u ?_ hv hu⟩
  obtain ⟨h1, n, h2⟩ := hle
  have : m1 = ⟨m.store.take n, m.next⟩ := by cases m1; simp only at h1 h2; rw [h1, h2]
  rw [this]
  exact hrel.forget n

/-- The deferred function, where nothing panics. -/
theorem call25r (m : Mem) (a b c : AV) : DCalls Try.prog 25 [a, b, c] none m fun m' => m' = m := by
  refine ok25.dcalls (by simp) ?_
  simp [c25]

/-- The results' variables. -/
def boxes (i : List AV) (e : Int) (n : ByteArray) : List (Nat × AObj) := [(0, .cells i), (1, .cells [.int .i64 e]), (2, .cells [.str n])]

theorem call25p (nx : Nat) (c : Int) (n : ByteArray) : DCalls Try.prog 25 [.ptr 0 0 0, .ptr 1 1 0, .ptr 2 2 0] (some (.iface 58 (.agg [.int .i64 c, .str n]))) ⟨boxes img0 0 ⟨#[]⟩, nx⟩ fun m => ∃ post nx', m = ⟨boxes img0 c n ++ post, nx'⟩ := by
  refine ok25.dcalls (by simp) ?_
  simp [c25, boxes, img0]

/-- What Link computes: the image, an error's number, a name. -/
inductive LRes where
  | bad (e : Int) (n : ByteArray)
  | good (i : Img)
def LRes.av : LRes → AV
  | .bad e n => .tuple [.agg img0, .int .i64 e, .str n]
  | .good i => .tuple [.agg i.av, .int .i64 0, .str ⟨#[]⟩]
def imgOf (s : LSt) (base : Int) : Img := ⟨base, ⟨(imageCode s base).toArray⟩, sortD s.defs, s.lines, s.places⟩
def linkL (l : List Deck) (libs : List (List Deck)) (base : Int) : LRes :=
  if allF l libs = false then .bad 1 ⟨#[]⟩ else if baseF base = false then .bad 7 ⟨#[]⟩ else
  match putAll (.start base) l with
  | .error n => .bad 6 n
  | .ok s => match neededL libs (libs.flatten.length + 1) s with
    | (_, n :: _) => .bad 5 n
    | (s', []) => if 65536 < s'.end_ then .bad 11 ⟨#[]⟩ else .good (imgOf s' base)

theorem pan9 {e : Env} {m : Mem} {k : Nat} {c : Int} {n : ByteArray} {L : LRes} (hL : L = .bad c n) (hle : Mem.le ⟨boxes img0 0 ⟨#[]⟩, k⟩ m) (h6 : e.get 6 = .ptr 0 0 0) (h7 : e.get 7 = .ptr 1 1 0) (h8 : e.get 8 = .ptr 2 2 0) :
    postF Try.prog cr9 (fun out m => permOD 1 m out = some (.ret L.av)) 25 [.ptr 0 0 0, .ptr 1 1 0, .ptr 2 2 0] (.panic (.iface 58 (.agg [.int .i64 c, .str n]))) e m := by
  rw [postF_panic]
  refine ⟨_, DCalls.of_le hle (call25p k c n), ?_⟩
  rintro m' ⟨post, nx', rfl⟩
  subst hL
  simp [cr9, h6, h7, h8, boxes, img0, permOD, permD, mapO, LRes.av]

theorem putAll_drop {s : LSt} {l : List Deck} {i : Nat} (h : i < l.length) : putAll s (l.drop i) = match putL true s (ix l i) with
    | .error n => .error n
    | .ok s' => putAll s' (l.drop (i + 1)) := by
  rw [drop_ix h]
  cases hp : putL true s (ix l i) <;> simp only [putAll, hp]

set_option maxHeartbeats 4000000 in
theorem call9 (p q : Bool) (l : List Deck) (libs : List (List Deck)) (base : Int) (hl : SmallL l) (hb : SmallLL libs) (hlib : libs.length ≤ 2000000) (hsum : l.length + libs.flatten.length ≤ 2000000) :
    PCalls Try.prog 9 [.list p 5 (l.map Deck.av), .list q 1 (libs.map libAV), .int .i64 base] fun out => out = .ret (linkL l libs base).av := by
  refine pcalls_of_acalls 1 (ok9.acalls (by simp) ?_)
  generalize hL : linkL l libs base = L
  simp [cx9]
  refine xcall_p (call23 p q l libs hl hb hlib hsum) (by simp) ?_
  unfold linkL at hL
  cases hall : allF l libs with
  | false =>
    rw [hall, if_pos rfl] at hL
    subst hL
    simp [cr9, permOD, permD, mapO, LRes.av, img0]
  | true =>
    rw [hall, if_neg (by simp)] at hL
    simp
    refine xcall_p (call24 base) (by simp) ?_
    cases hbs : baseF base with
    | false =>
      rw [hbs, if_pos rfl] at hL
      subst hL
      simp [cr9, permOD, permD, mapO, LRes.av, img0]
    | true =>
      rw [hbs, if_neg (by simp)] at hL
      have hbase : 0 ≤ base ∧ base ≤ 65528 := by
        unfold baseF at hbs
        rw [Bool.and_eq_true] at hbs
        exact withinF_t hbs.1
      have hfl : ∀ o ∈ l, o.Fit ∧ RefsFit o := fun o ho => by
        refine deckOk_fit (hl.each o ho) ?_
        unfold allF at hall
        rw [Bool.and_eq_true, List.all_eq_true] at hall
        exact hall.1 o ho
      have hfb : ∀ o ∈ libs.flatten, o.Fit ∧ RefsFit o := fun o ho => by
        obtain ⟨x, hx, ho⟩ := List.mem_flatten.1 ho
        refine deckOk_fit ((hb.each x hx).each o ho) ?_
        unfold allF at hall
        rw [Bool.and_eq_true, List.all_eq_true, List.all_eq_true] at hall
        have := hall.2 x hx
        rw [List.all_eq_true] at this
        exact this o ho
      have hgood := LSt.good_start hbase.1 (by omega)
      simp [cy9]
      have c26 := call26 base (boxes img0 0 ⟨#[]⟩) 3
      refine xcall_a c26 ?_
      simp
      have hle : ∀ (post : List (Nat × AObj)) k, Mem.le ⟨boxes img0 0 ⟨#[]⟩, k⟩ ⟨boxes img0 0 ⟨#[]⟩ ++ post, k⟩ := fun post k => le_pre _ _ _
      refine wpS_loopS (ι := (Nat × LSt) × (LG × Nat)) (fun u => [(1, .list q 1 (libs.map libAV)), (6, .ptr 0 0 0), (7, .ptr 1 1 0), (8, .ptr 2 2 0), (9, .ptr 5 5 0), (27, .list p 5 (l.map Deck.av)), (28, .int .i64 l.length), (29, .int .i64 u.1.1)])
        (fun u => ⟨boxes img0 0 ⟨#[]⟩ ++ lkObjs 3 base u.2.1 u.1.2, u.2.2⟩) (fun u => l.length - u.1.1)
        (fun u => u.1.1 ≤ l.length ∧ putAll (.start base) l = putAll u.1.2 (l.drop u.1.1) ∧ u.1.2.Good base ∧ u.1.2.objs.length = u.1.1 ∧ u.2.1.a = 3) ((0, .start base), (⟨3, 6, 7, 8, 9⟩, 10)) ⟨Nat.zero_le _, rfl, hgood, rfl, rfl⟩
        (Sim.of_le (Env.le_of (by simp [boxes])) (Mem.le_of rfl (by simp [boxes]))) ?_
      intro ⟨⟨i, s⟩, ⟨G, nx⟩⟩ ⟨hi, hput, hg, hol, hGa⟩
      simp only at hi hput hg hol hGa
      have hw : IntKind.i64.wrap (i + 1) = i + 1 := wrap64 (by have := hl.len; omega) (by have := hl.len; omega)
      simp
      refine br_cond rfl (fun h => ?_) (fun h => ?_)
      · have hlt : i < l.length := by have := ltI_t.1 h; omega
        rw [putAll_drop hlt] at hput
        have hf := hfl _ (ix_mem hlt)
        generalize hoi : ix l i = o at *
        have hob : (boxes img0 0 ⟨#[]⟩ ++ (lkObjs 3 base G s ++ [(nx, AObj.cells o.av)]))[10]? = some (nx, .cells o.av) := rfl
        simp [h, idxM, hoi, Deck.av]
        have c27 := call27 (boxes img0 0 ⟨#[]⟩) base G s o true (nx + 1) hg.small hf.1
        rw [hGa] at c27
        refine xcall_r (R := put27 (boxes img0 0 ⟨#[]⟩) base G true s o) (ACalls.of_le (m1 := ⟨boxes img0 0 ⟨#[]⟩ ++ lkObjs 3 base G s, nx + 1⟩) (Mem.le_of rfl (by simp [boxes, lkObjs])) (by exact c27)) ?_ ?_
        · intro v m' hp
          unfold put27 at hp
          cases hpu : putL true s o with
          | error n => rw [hpu] at hp; obtain ⟨hp, _⟩ := hp; cases hp
          | ok s' =>
            rw [hpu] at hp hput
            obtain ⟨_, o', n', d', l', nx', rfl⟩ := hp
            obtain ⟨e1, _⟩ := putL_same hpu
            have hll := hl.len
            simp [hw]
            exact ⟨i + 1, s', ⟨G.a, o', n', d', l'⟩, ⟨by omega, hput, putL_good hg hf.1 hf.2 (by omega) hpu, by rw [e1]; simp [hol], hGa⟩, by omega, nx', Sim.of_le (Env.le_of (by simp)) (Mem.le_of rfl (by simp [boxes, lkObjs]))⟩
        · intro v m' hp
          unfold put27 at hp
          cases hpu : putL true s o with
          | ok s' => rw [hpu] at hp; obtain ⟨hp, _⟩ := hp; cases hp
          | error n =>
            rw [hpu] at hp hput
            simp only at hput
            rw [hput] at hL
            obtain ⟨hp, nx', rfl⟩ := hp
            injection hp with hp; subst hp
            unfold wrongV
            simp
            exact pan9 hL.symm (Mem.le_refl _) (by rfl) (by rfl) (by rfl)
      · have hil : i = l.length := by have := ltI_f.1 h; omega
        rw [hil, List.drop_length, putAll] at hput
        rw [hput] at hL
        simp only at hL
        have haw : awayL libs s.own ≤ libs.flatten.length := List.length_filter_le _ _
        have c28 := call28 (boxes img0 0 ⟨#[]⟩) base G s nx q libs hb (fun o ho => (hfb o ho).1) hg.small (by omega)
        have hng := needed_good hfb (libs.flatten.length + 1) s hg (by omega)
        rw [hGa] at c28
        generalize hN : neededL libs (libs.flatten.length + 1) s = N at *
        obtain ⟨s', ms⟩ := N
        simp only at hL c28 hng
        simp [h]
        refine xcall_r c28 ?_ (by rintro v m' ⟨_, _, _, _, _, _, _, h, _⟩; cases h)
        rintro v m' ⟨o', n', d', l', g, nx', _, hv, rfl⟩
        injection hv with hv; subst hv
        cases ms with
        | cons n ms =>
          simp only at hL
          have hgt : ltI 0 (ms.length + 1) = true := ltI_t.2 (by omega)
          simp [hgt, lkObjs, boxes, textsR]
          exact ⟨_, _, ⟨rfl, rfl⟩, pan9 hL.symm (Mem.le_of (m' := ⟨boxes img0 0 ⟨#[]⟩, nx'⟩) rfl (by simp [boxes])) (by rfl) (by rfl) (by rfl)⟩
        | nil =>
          simp only at hL
          have hgt : ltI 0 0 = false := ltI_f.2 (by omega)
          simp [hgt, lkObjs, lkCells, boxes]
          cases h65 : ltI 65536 s'.end_ with
          | true =>
            rw [if_pos (ltI_t.1 h65)] at hL
            simp
            exact ⟨_, _, ⟨rfl, rfl⟩, pan9 hL.symm (Mem.le_of (m' := ⟨boxes img0 0 ⟨#[]⟩, nx'⟩) rfl (by simp [boxes])) (by rfl) (by rfl) (by rfl)⟩
          | false =>
            have := ltI_f.1 h65
            rw [if_neg (by omega)] at hL
            have c29 := call29 (boxes img0 0 ⟨#[]⟩) base ⟨3, o', n', d', l'⟩ s' nx' hng.placed
            simp
            refine xcall_r (ACalls.of_le (m1 := ⟨boxes img0 0 ⟨#[]⟩ ++ lkObjs 3 base ⟨3, o', n', d', l'⟩ s', nx'⟩) (Mem.le_of rfl (by simp [boxes, lkObjs, lkCells])) (by exact c29)) ?_ (by rintro v m' ⟨h, _⟩; cases h)
            rintro v m' ⟨hv, ny, rfl⟩
            injection hv with hv; subst hv
            subst hL
            simp [boxes, lkDone, postF_ret]
            refine ⟨_, call25r _ _ _ _, ?_⟩
            rintro m' rfl
            have hsl := sortD_len hng.distinct
            have htk : (List.map DDef.av (sortD s'.defs)).take s'.defs.length = List.map DDef.av (sortD s'.defs) := List.take_of_length_le (by simp [hsl])
            simp [cr9, permOD, permD, mapO, LRes.av, Img.av, imgOf, hsl, htk]
end Go.Pm

/- LkC25: contracts: the linker's same and Move. -/
namespace Go.Pm
open Go Go.Proofs
attribute [-simp] List.getElem?_map

theorem call59 (p q : Bool) (a b : List DDef) (ha : a.length ≤ 4000000000000) : PCalls Try.prog 59 [.list p 2 (a.map DDef.av), .list q 2 (b.map DDef.av)] fun out => out = .ret (.bool (defsEq a b)) := by
  refine ok59.pcalls (by simp) ?_
  simp [c59]
  refine br_cond rfl (fun h => ?_) (fun h => ?_) <;> simp at h
  · simp [cr59, defsEq, h]
  simp
  have hlen := eqI_t.1 h
  refine wpS_loop (ι := Nat) (fun i => [(0, .list p 2 (a.map DDef.av)), (1, .list q 2 (b.map DDef.av)), (12, .int .i64 a.length), (13, .int .i64 i)]) (fun _ => ⟨[], 0⟩) (fun i => a.length - i)
    (fun i => i ≤ a.length ∧ ∀ j, j < i → eqD (ix a j) (ix b j) = true) 0 (by simp) (Env.le_of (by simp)) (by simp) ?_
  intro i ⟨hi, hall⟩
  have hw : IntKind.i64.wrap (i + 1) = i + 1 := wrap64 (by omega) (by omega)
  simp
  refine br_cond rfl (fun h1 => ?_) (fun h1 => ?_)
  · have hlt : i < a.length := by have := ltI_t.1 h1; omega
    have h2 : ltI ↑i ↑b.length = true := ltN (by omega)
    simp [h1, h2, idxM, def_take, sEq_D]
    refine br_cond rfl (fun h3 => ?_) (fun h3 => ?_) <;> simp at h3
    · have hA : ((List.range a.length).all fun i => eqD (ix a i) (ix b i)) = false := all_f (p := fun i => eqD (ix a i) (ix b i)) hlt h3
      have hE : defsEq a b = false := by unfold defsEq; rw [hA, Bool.and_false]
      simp [cr59, hE]
    · simp [hw]
      exact ⟨i + 1, ⟨by omega, upto hall h3⟩, by omega, Env.le_of (by simp), Mem.le_of rfl (by simp)⟩
  · have hid : i = a.length := by have := ltI_f.1 h1; omega
    have hA : ((List.range a.length).all fun i => eqD (ix a i) (ix b i)) = true := all_t (by rw [← hid]; exact hall)
    have hE : defsEq a b = true := by unfold defsEq; rw [hA, h]; rfl
    simp [h1, cr59, hE]

theorem call60 (p q : Bool) (a b : List DLine) (ha : a.length ≤ 4000000000000) : PCalls Try.prog 60 [.list p 2 (a.map DLine.av), .list q 2 (b.map DLine.av)] fun out => out = .ret (.bool (linesEq a b)) := by
  refine ok60.pcalls (by simp) ?_
  simp [c60]
  refine br_cond rfl (fun h => ?_) (fun h => ?_) <;> simp at h
  · simp [cr60, linesEq, h]
  simp
  have hlen := eqI_t.1 h
  refine wpS_loop (ι := Nat) (fun i => [(0, .list p 2 (a.map DLine.av)), (1, .list q 2 (b.map DLine.av)), (12, .int .i64 a.length), (13, .int .i64 i)]) (fun _ => ⟨[], 0⟩) (fun i => a.length - i)
    (fun i => i ≤ a.length ∧ ∀ j, j < i → eqL (ix a j) (ix b j) = true) 0 (by simp) (Env.le_of (by simp)) (by simp) ?_
  intro i ⟨hi, hall⟩
  have hw : IntKind.i64.wrap (i + 1) = i + 1 := wrap64 (by omega) (by omega)
  simp
  refine br_cond rfl (fun h1 => ?_) (fun h1 => ?_)
  · have hlt : i < a.length := by have := ltI_t.1 h1; omega
    have h2 : ltI ↑i ↑b.length = true := ltN (by omega)
    simp [h1, h2, idxM, line_take, sEq_L]
    refine br_cond rfl (fun h3 => ?_) (fun h3 => ?_) <;> simp at h3
    · have hA : ((List.range a.length).all fun i => eqL (ix a i) (ix b i)) = false := all_f (p := fun i => eqL (ix a i) (ix b i)) hlt h3
      have hE : linesEq a b = false := by unfold linesEq; rw [hA, Bool.and_false]
      simp [cr60, hE]
    · simp [hw]
      exact ⟨i + 1, ⟨by omega, upto hall h3⟩, by omega, Env.le_of (by simp), Mem.le_of rfl (by simp)⟩
  · have hid : i = a.length := by have := ltI_f.1 h1; omega
    have hA : ((List.range a.length).all fun i => eqL (ix a i) (ix b i)) = true := all_t (by rw [← hid]; exact hall)
    have hE : linesEq a b = true := by unfold linesEq; rw [hA, h]; rfl
    simp [h1, cr60, hE]

def sameL (a b : Img) : Bool := eqI a.base b.base && eqS a.code b.code && defsEq a.defs b.defs && linesEq a.lines b.lines && defsEq a.names b.names

theorem call30 (a b : Img) (ha : a.Small) : PCalls Try.prog 30 [.agg a.av, .agg b.av] fun out => out = .ret (.bool (sameL a b)) := by
  refine ok30.pcalls (by simp) ?_
  simp [c30, Img.av]
  refine br_guard_t rfl (fun h1 => ?_) (fun h1 => ?_)
  · simp [h1]
    refine br_guard_t rfl (fun h2 => ?_) (fun h2 => ?_)
    · simp [h2]
      refine xcall_p (call59 true true a.defs b.defs ha.defs) (by simp) ?_
      simp
      refine br_guard_t rfl (fun h3 => ?_) (fun h3 => ?_)
      · simp [h3]
        refine xcall_p (call60 true true a.lines b.lines ha.lines) (by simp) ?_
        simp
        refine br_guard_t rfl (fun h4 => ?_) (fun h4 => ?_)
        · simp [h4]
          refine xcall_p (call59 true true a.names b.names ha.names) (by simp) ?_
          simp [cr30, sameL, h1, h2, h3, h4]
        · simp [h4, cr30, sameL]
      · simp [h3, cr30, sameL]
    · simp [h2, cr30, sameL]
  · simp [h1, cr30, sameL]

/-- What Move computes. -/
def LRes.avE : LRes → AV
  | .bad e _ => .tuple [.agg img0, .int .i64 e]
  | .good i => .tuple [.agg i.av, .int .i64 0]
def moveL (x : Img) (l : List Deck) (libs : List (List Deck)) (to_ : Int) : LRes := match linkL l libs x.base with
  | .bad _ _ => .bad 1 ⟨#[]⟩
  | .good w => if sameL w x then linkL l libs to_ else .bad 1 ⟨#[]⟩

/-- Errors' numbers of Link are none. -/
theorem linkL_bad {l : List Deck} {libs : List (List Deck)} {base e : Int} {n : ByteArray} (h : linkL l libs base = .bad e n) : e ≠ 0 := by
  unfold linkL at h
  repeat' split at h
  all_goals first | (injection h with h; subst h; decide) | cases h

/-- Names are no longer than what came in. -/
structure LSt.Named (s : LSt) : Prop where
  defs : ∀ d ∈ s.defs, d.name.size ≤ 1048576
  places : ∀ d ∈ s.places, d.name.size ≤ 1048576
theorem linkDefs_named {o : Deck} (h : o.Small) : ∀ d ∈ linkDefs o, d.name.size ≤ 1048576 := by
  intro d hd
  unfold linkDefs at hd
  split at hd
  · exact h.dname d hd
  · rcases List.mem_cons.1 hd with rfl | hd
    · exact h.name
    · exact h.dname d hd
theorem putNames_named {A : Int} {once : Bool} : ∀ (ds : List DDef) (s s' : LSt), putNames A once ds s = .ok s' → (∀ d ∈ ds, d.name.size ≤ 1048576) → s.Named → s'.Named
  | [], s, s', h, _, h1 => by simp only [putNames, Except.ok.injEq] at h; subst h; exact h1
  | d :: ds, s, s', h, hd, h1 => by
    rw [putNames] at h
    split at h
    · split at h
      · cases h
      · exact putNames_named ds s s' h (fun d' hd' => hd d' (List.mem_cons_of_mem _ hd')) h1
    · refine putNames_named ds _ s' h (fun d' hd' => hd d' (List.mem_cons_of_mem _ hd')) ⟨fun x hx => ?_, h1.places⟩
      rcases List.mem_append.1 hx with hx | hx
      · exact h1.defs x hx
      · rw [List.mem_singleton.1 hx]; exact hd d List.mem_cons_self
theorem putL_named {once : Bool} {s s' : LSt} {o : Deck} (hs : s.Named) (ho : o.Small) (h : putL once s o = .ok s') : s'.Named := by
  unfold putL at h
  split at h
  · cases h
  · split at h
    · cases h
    · rename_i s1 h1
      injection h with h; subst h
      have := putNames_named _ _ _ h1 (linkDefs_named ho) ⟨hs.defs, fun x hx => by
        rcases List.mem_append.1 hx with hx | hx
        · exact hs.places x hx
        · rw [List.mem_singleton.1 hx]; exact ho.name⟩
      exact ⟨this.defs, this.places⟩
theorem needed_named {libs : List (List Deck)} (hfit : ∀ o ∈ libs.flatten, o.Small) : ∀ (n : Nat) (s : LSt), s.Named → (neededL libs n s).1.Named
  | 0, s, h => h
  | n + 1, s, h => by
    rw [neededL]
    split
    · exact h
    · rename_i o ho
      exact needed_named hfit n _ (putL_named h (hfit o (firstL_mem ho).1) (putL_false s o))
theorem putAll_good {base : Int} : ∀ (l : List Deck) (s s' : LSt), putAll s l = .ok s' → (∀ o ∈ l, o.Fit ∧ RefsFit o) → s.Good base → s.Named → s.objs.length + l.length ≤ 2000000 → s'.Good base ∧ s'.Named ∧ s'.objs = s.objs ++ l
  | [], s, s', h, _, h1, h2, _ => by simp only [putAll, Except.ok.injEq] at h; subst h; exact ⟨h1, h2, by simp⟩
  | o :: l, s, s', h, hf, h1, h2, hl => by
    rw [putAll] at h
    split at h
    · cases h
    · rename_i s1 hp
      have hfo := hf o List.mem_cons_self
      obtain ⟨e1, _⟩ := putL_same hp
      obtain ⟨a, b, c⟩ := putAll_good l s1 s' h (fun x hx => hf x (List.mem_cons_of_mem _ hx)) (putL_good h1 hfo.1 hfo.2 (by simp at hl; omega) hp) (putL_named h2 hfo.1.small hp) (by rw [e1]; simp at hl ⊢; omega)
      exact ⟨a, b, by rw [c, e1]; simp⟩

/-- What is known of a good link. -/
structure LinkedBy (l : List Deck) (libs : List (List Deck)) (base : Int) (i : Img) (s0 s : LSt) : Prop where
  ok : allF l libs = true
  based : baseF base = true
  put : putAll (.start base) l = .ok s0
  need : neededL libs (libs.flatten.length + 1) s0 = (s, [])
  end_ : s.end_ ≤ 65536
  img : i = imgOf s base
  good : s.Good base
  named : s.Named
theorem linkL_good {l : List Deck} {libs : List (List Deck)} {base : Int} {i : Img} (hl : SmallL l) (hb : SmallLL libs) (hsum : l.length + libs.flatten.length ≤ 2000000) (h : linkL l libs base = .good i) : ∃ s0 s, LinkedBy l libs base i s0 s := by
  unfold linkL at h
  split at h
  · cases h
  rename_i h1
  have h1 : allF l libs = true := by simpa using h1
  split at h
  · cases h
  rename_i h2
  have h2 : baseF base = true := by simpa using h2
  split at h
  · cases h
  rename_i s0 h3
  split at h
  · cases h
  rename_i s h4
  split at h
  · cases h
  rename_i h5
  injection h with h
  have hbase : 0 ≤ base ∧ base ≤ 65528 := by
    unfold baseF at h2
    rw [Bool.and_eq_true] at h2
    exact withinF_t h2.1
  have hfl : ∀ o ∈ l, o.Fit ∧ RefsFit o := fun o ho => by
    refine deckOk_fit (hl.each o ho) ?_
    unfold allF at h1
    rw [Bool.and_eq_true, List.all_eq_true] at h1
    exact h1.1 o ho
  have hsb : ∀ o ∈ libs.flatten, o.Small := fun o ho => by
    obtain ⟨x, hx, ho⟩ := List.mem_flatten.1 ho
    exact (hb.each x hx).each o ho
  have hfb : ∀ o ∈ libs.flatten, o.Fit ∧ RefsFit o := fun o ho => by
    refine deckOk_fit (hsb o ho) ?_
    obtain ⟨x, hx, ho⟩ := List.mem_flatten.1 ho
    unfold allF at h1
    rw [Bool.and_eq_true, List.all_eq_true, List.all_eq_true] at h1
    have := h1.2 x hx
    rw [List.all_eq_true] at this
    exact this o ho
  obtain ⟨a, b, c⟩ := putAll_good l _ _ h3 hfl (LSt.good_start hbase.1 (by omega)) ⟨by simp [LSt.start], by simp [LSt.start]⟩ (by simp [LSt.start]; omega)
  have hol : s0.objs.length = l.length := by rw [c]; simp [LSt.start]
  have haw : awayL libs s0.own ≤ libs.flatten.length := List.length_filter_le _ _
  have hg := needed_good hfb (libs.flatten.length + 1) s0 a (by omega)
  have hn := needed_named hsb (libs.flatten.length + 1) s0 b
  rw [h4] at hg hn
  exact ⟨s0, s, h1, h2, h3, h4, by omega, h.symm, hg, hn⟩

theorem patch_len' {nm : List DDef} {a T : Nat} {rs : List DRef} {b : List UInt8} (hb : b.length = T) (h : ∀ r ∈ rs, a + r.at_.toNat + 4 ≤ T) : (patchRefs nm a rs b).length = T := by
  rw [patch_len (by rw [hb]; exact h), hb]
theorem place_len {nm : List DDef} {base : Int} {T : Nat} : ∀ {l : List (Deck × DDef)} {b : List UInt8}, b.length = T → (∀ x ∈ l, (x.2.at_ - base).toNat + x.1.code.size ≤ T ∧ ∀ r ∈ x.1.refs, (x.2.at_ - base).toNat + r.at_.toNat + 4 ≤ T) → (placeObjs nm base l b).length = T
  | [], b, hb, _ => hb
  | (o, d) :: l, b, hb, h => by
    rw [placeObjs]
    have h0 := h (o, d) List.mem_cons_self
    have hs : (splice b (d.at_ - base).toNat o.code.data.toList).length = T := by
      rw [splice_len (by rw [hb]; simpa using h0.1), hb]
    exact place_len (patch_len' hs h0.2) fun x hx => h x (List.mem_cons_of_mem _ hx)
theorem zip_mem {s : LSt} {base : Int} (hg : s.Good base) {x : Deck × DDef} (h : x ∈ s.objs.zip s.places) : ∃ i, i < s.objs.length ∧ x = (ix s.objs i, ix s.places i) := by
  obtain ⟨i, hi, he⟩ := List.getElem_of_mem h
  have hl := hg.small.places
  rw [List.length_zip, hl, Nat.min_self] at hi
  refine ⟨i, hi, ?_⟩
  rw [← he]
  have h1 : i < s.places.length := by omega
  simp [ix, List.getD, hi, h1]
theorem imageCode_len {s : LSt} {base : Int} (hg : s.Good base) : (imageCode s base).length = (s.end_ - base).toNat := by
  unfold imageCode
  refine place_len (by simp) fun x hx => ?_
  obtain ⟨i, hi, rfl⟩ := zip_mem hg hx
  have hp := hg.places i hi
  have hr := hg.refs _ (ix_mem hi)
  simp only
  refine ⟨by omega, fun r hr' => ?_⟩
  have := hr r hr'
  omega
theorem imgOf_small {s : LSt} {base : Int} (hg : s.Good base) (hn : s.Named) (he : s.end_ ≤ 65536) : (imgOf s base).Small := by
  have h1 := hg.small.objs
  have h2 := hg.small.defs
  have h3 := hg.small.lines
  have h4 := hg.small.places
  have h5 := hg.base0
  refine ⟨?_, ?_, ?_, ?_, fun d hd => hn.defs d ((sortD_perm hg.distinct).mem_iff.1 hd), hn.places⟩
  · show (imageCode s base).toArray.size ≤ _
    simp [imageCode_len hg]; omega
  · show (sortD s.defs).length ≤ _
    rw [sortD_len hg.distinct]; omega
  · show s.lines.length ≤ _
    omega
  · show s.places.length ≤ _
    omega
theorem linkL_small {l : List Deck} {libs : List (List Deck)} {base : Int} {i : Img} (hl : SmallL l) (hb : SmallLL libs) (hsum : l.length + libs.flatten.length ≤ 2000000) (h : linkL l libs base = .good i) : i.Small := by
  obtain ⟨s0, s, hk⟩ := linkL_good hl hb hsum h
  rw [hk.img]
  exact imgOf_small hk.good hk.named hk.end_

set_option maxHeartbeats 4000000 in
theorem call12 (p q : Bool) (x : Img) (l : List Deck) (libs : List (List Deck)) (to_ : Int) (hl : SmallL l) (hb : SmallLL libs) (hlib : libs.length ≤ 2000000) (hsum : l.length + libs.flatten.length ≤ 2000000) :
    PCalls Try.prog 12 [.agg x.av, .list p 5 (l.map Deck.av), .list q 1 (libs.map libAV), .int .i64 to_] fun out => out = .ret (moveL x l libs to_).avE := by
  refine ok12.pcalls (by simp) ?_
  generalize hM : moveL x l libs to_ = M
  unfold moveL at hM
  simp [c12, Img.av]
  refine xcall_p (call9 p q l libs x.base hl hb hlib hsum) (by simp) ?_
  cases hw : linkL l libs x.base with
  | bad e n =>
    have he := linkL_bad hw
    have he' : eqI e 0 = false := eqI_f.2 he
    rw [hw] at hM
    simp only at hM
    subst hM
    simp [LRes.av, img0, he', cr12, LRes.avE]
  | good w =>
    rw [hw] at hM
    simp only at hM
    have hsw := linkL_small hl hb hsum hw
    have he' : eqI 0 0 = true := eqI_t.2 rfl
    simp [LRes.av, Img.av, he']
    refine xcall_p (call30 w x hsw) (by simp [Img.av]) ?_
    cases hsm : sameL w x with
    | false =>
      rw [hsm, if_neg (by simp)] at hM
      subst hM
      simp [cr12, LRes.avE, img0]
    | true =>
      rw [hsm, if_pos rfl] at hM
      simp
      refine xcall_p (call9 p q l libs to_ hl hb hlib hsum) (by simp) ?_
      rw [hM]
      cases M with
      | bad e n => simp [LRes.av, img0, cr12, LRes.avE]
      | good w2 => simp [LRes.av, Img.av, cr12, LRes.avE]
end Go.Pm

/- LkC29: the two linkers take the same objects. -/
namespace Go.Pm
open Go Go.Proofs
attribute [-simp] List.getElem?_map List.length_flatten

theorem outer_any (l : List DDef) (n : ByteArray) : (outerF l n).isSome = l.any fun d => eqS d.name n := by
  unfold outerF
  rw [Option.isSome_map, Bool.eq_iff_iff, List.find?_isSome, List.any_eq_true]
theorem eqS_sym (a b : ByteArray) : eqS a b = eqS b a := by
  rw [Bool.eq_iff_iff, eqS_t, eqS_t]; exact eq_comm
theorem linkDefs_perm (o : Deck) : (linkDefs o).Perm (defsF o) := by
  unfold linkDefs defsF
  split
  · exact List.Perm.refl _
  · exact List.perm_append_comm (l₁ := [⟨o.name, 0⟩]) (l₂ := o.defs)
theorem linkDefs_any (o : Deck) (n : ByteArray) : (linkDefs o).any (fun d => eqS d.name n) = definesF o n := by
  unfold definesF
  exact (linkDefs_perm o).any_eq
theorem defines_own (o : Deck) : definesF o o.name = true := by
  unfold definesF defsF
  split
  · rename_i h; exact h
  · simp [eqS_t.2 rfl]

/-- The state when these objects were put, where names may be there. -/
def stF (base : Int) (g : List Deck) : LSt := g.foldl putNF (.start base)
theorem stF_snoc (base : Int) (g : List Deck) (o : Deck) : stF base (g ++ [o]) = putNF (stF base g) o := by
  unfold stF; rw [List.foldl_append]; rfl

theorem names_false_any (A : Int) (n : ByteArray) : ∀ (ds : List DDef) (s s' : LSt), putNames A false ds s = .ok s' → (outerF s'.nmap n).isSome = ((outerF s.nmap n).isSome || ds.any fun d => eqS d.name n)
  | [], s, s', h => by simp only [putNames, Except.ok.injEq] at h; subst h; simp
  | d :: ds, s, s', h => by
    rw [putNames] at h
    split at h
    · rename_i hd
      rw [if_neg (by simp)] at h
      rw [names_false_any A n ds s s' h, List.any_cons]
      cases hx : eqS d.name n with
      | false => rfl
      | true => rw [eqS_t.1 hx] at hd; simp [hd]
    · rw [names_false_any A n ds _ s' h, outer_any, List.any_append, ← outer_any, List.any_cons]
      simp [Bool.or_assoc]

theorem putNF_any (s : LSt) (o : Deck) (n : ByteArray) : (outerF (putNF s o).nmap n).isSome = ((outerF s.nmap n).isSome || definesF o n) := by
  have h := putL_false s o
  unfold putL at h
  simp only [Bool.false_and, Bool.false_eq_true, if_false] at h
  split at h
  · cases h
  · rename_i s1 h1
    injection h with h
    rw [← h, ← linkDefs_any]
    have e := names_false_any _ n _ _ _ h1
    exact e

structure Got (s : LSt) (g : List Deck) : Prop where
  objs : s.objs = g
  known : ∀ n, (outerF s.nmap n).isSome = knownF g n
  own : ∀ n, hasS s.own n = g.any fun x => eqS x.name n
theorem got_snoc {s : LSt} {g : List Deck} {o : Deck} (h : Got s g) : Got (putNF s o) (g ++ [o]) := by
  obtain ⟨e1, e2, _⟩ := putL_same (putL_false s o)
  refine ⟨by rw [e1, h.objs], fun n => ?_, fun n => ?_⟩
  · rw [putNF_any, h.known]; unfold knownF; simp
  · rw [e2, hasS_addS, h.own, eqS_sym]; simp [eqS_sym]
theorem got_from (base : Int) : ∀ (l g : List Deck) (s : LSt), Got s g → Got (l.foldl putNF s) (g ++ l)
  | [], g, s, h => by simpa using h
  | o :: l, g, s, h => by
    have := got_from base l (g ++ [o]) _ (got_snoc (o := o) h)
    simpa using this
theorem got (base : Int) (g : List Deck) : Got (stF base g) g := by
  have := got_from base g [] (.start base) ⟨rfl, fun n => rfl, fun n => rfl⟩
  rw [List.nil_append] at this
  exact this

/-- What is taken first. -/
def firstF (g : List Deck) (libs : List (List Deck)) : List ByteArray → Option Deck
  | [] => none
  | n :: ns => if knownF g n then firstF g libs ns else match foundF g libs n with
    | some o => some o
    | none => firstF g libs ns
theorem scan_first (g : List Deck) (libs : List (List Deck)) : ∀ (ns ms : List ByteArray), (scanF [] g libs ns ms).2 = firstF g libs ns
  | [], ms => rfl
  | n :: ns, ms => by
    rw [scanF, firstF]
    have : (outerF [] n).isSome = false := rfl
    simp only [this, Bool.false_or]
    split
    · exact scan_first g libs ns ms
    · cases foundF g libs n with
      | some o => rfl
      | none => exact scan_first g libs ns _
theorem scan_none (g : List Deck) (libs : List (List Deck)) : ∀ (ns ms : List ByteArray), firstF g libs ns = none → (scanF [] g libs ns ms).1 = ms ++ ns.filter fun n => !knownF g n
  | [], ms, _ => by simp [scanF]
  | n :: ns, ms, h => by
    rw [firstF] at h
    rw [scanF]
    have : (outerF [] n).isSome = false := rfl
    simp only [this, Bool.false_or]
    split
    · rename_i hk
      rw [if_pos hk] at h
      rw [scan_none g libs ns ms h, List.filter_cons, if_neg (by simp [hk])]
    · rename_i hk
      rw [if_neg hk] at h
      cases hf : foundF g libs n with
      | some o => rw [hf] at h; cases h
      | none =>
        rw [hf] at h
        simp only at h ⊢
        rw [scan_none g libs ns _ h, List.filter_cons, if_pos (by simpa using hk)]
        simp

theorem found_same {s : LSt} {g : List Deck} (h : Got s g) (libs : List (List Deck)) (n : ByteArray) : foundL s.own libs n = foundF g libs n := by
  unfold foundL findIn foundF
  congr 1
  funext o
  unfold takesL takes
  rw [h.own, linkDefs_any]
theorem firstL_app (own : List ByteArray) (libs : List (List Deck)) : ∀ a b : List ByteArray, firstL own libs (a ++ b) = (firstL own libs a).or (firstL own libs b)
  | [], b => rfl
  | n :: a, b => by
    rw [List.cons_append, firstL, firstL]
    cases foundL own libs n with
    | some o => rfl
    | none => exact firstL_app own libs a b
theorem firstL_of_mem {own : List ByteArray} {libs : List (List Deck)} {n : ByteArray} {o : Deck} (h : foundL own libs n = some o) : ∀ {a : List ByteArray}, n ∈ a → (firstL own libs a).isSome = true
  | [], hm => by cases hm
  | m :: a, hm => by
    rw [firstL]
    cases hf : foundL own libs m with
    | some o => rfl
    | none =>
      rcases List.mem_cons.1 hm with rfl | hm
      · rw [hf] at h; cases h
      · exact firstL_of_mem h hm
theorem lack_first {s : LSt} {g : List Deck} (h : Got s g) (libs : List (List Deck)) : ∀ ns ms : List ByteArray, firstL s.own libs (lackL s.nmap ns ms) = (firstL s.own libs ms).or (firstF g libs ns)
  | [], ms => by rw [lackL, firstF]; simp
  | n :: ns, ms => by
    rw [lackL, firstF, h.known]
    split
    · exact lack_first h libs ns ms
    · split
      · rename_i hm
        rw [lack_first h libs ns ms]
        obtain ⟨x, hx, he⟩ := List.any_eq_true.1 hm
        rw [eqS_t] at he
        subst he
        cases hf : foundF g libs n with
        | none => rfl
        | some o =>
          have := firstL_of_mem (by rw [found_same h]; exact hf) hx
          obtain ⟨v, hv⟩ := Option.isSome_iff_exists.1 this
          rw [hv]; rfl
      · rw [lack_first h libs ns _, firstL_app, Option.or_assoc]
        congr 1
        rw [firstL, found_same h]
        cases foundF g libs n with
        | some o => rfl
        | none => rfl
theorem lack_pre (nm : List DDef) : ∀ ns ms : List ByteArray, ∃ t, lackL nm ns ms = ms ++ t
  | [], ms => ⟨[], by simp [lackL]⟩
  | n :: ns, ms => by
    rw [lackL]
    split
    · exact lack_pre nm ns ms
    · split
      · exact lack_pre nm ns ms
      · obtain ⟨t, ht⟩ := lack_pre nm ns (ms ++ [n])
        exact ⟨n :: t, by rw [ht]; simp⟩
theorem lack_head {s : LSt} {g : List Deck} (h : Got s g) : ∀ ns : List ByteArray, (lackL s.nmap ns []).head? = (ns.filter fun n => !knownF g n).head?
  | [] => rfl
  | n :: ns => by
    rw [lackL, h.known, List.filter_cons]
    cases hk : knownF g n with
    | true => simpa using lack_head h ns
    | false =>
      obtain ⟨t, ht⟩ := lack_pre s.nmap ns [n]
      simp [ht]

theorem needed_gath (libs : List (List Deck)) (base : Int) : ∀ (N : Nat) (g : List Deck), (neededL libs N (stF base g)).1 = stF base (gathF [] libs N g).1 ∧ (neededL libs N (stF base g)).2.head? = (gathF [] libs N g).2.head?
  | 0, g => ⟨rfl, rfl⟩
  | N + 1, g => by
    have h := got base g
    rw [neededL, gathF, h.objs, lack_first h]
    have h2 := scan_first g libs (refNames g) []
    have h3 := scan_none g libs (refNames g) []
    have e : (firstL (stF base g).own libs []).or (firstF g libs (refNames g)) = firstF g libs (refNames g) := rfl
    rw [e]
    cases hs : scanF [] g libs (refNames g) [] with
    | mk ms r =>
      rw [hs] at h2 h3
      simp only at h2 h3
      subst h2
      cases hf : firstF g libs (refNames g) with
      | none =>
        refine ⟨rfl, ?_⟩
        rw [h3 hf]
        simpa using lack_head h (refNames g)
      | some o =>
        simp only
        rw [← stF_snoc]
        exact needed_gath libs base N (g ++ [o])

/-! What is defined twice. -/
theorem nodup_of {l : List DDef} (h : ∀ i, i < l.length → ∀ k, k < i → eqS (ix l k).name (ix l i).name = false) : (l.map (·.name)).Nodup := by
  rw [List.nodup_iff_pairwise_ne, List.pairwise_iff_getElem]
  intro i j hi hj hij
  simp only [List.length_map] at hi hj
  have := h j hj i hij
  simp only [ix, List.getD, List.getElem?_eq_getElem hi, List.getElem?_eq_getElem hj, Option.getD_some] at this
  simp only [List.getElem_map]
  intro e
  rw [eqS_t.2 e] at this
  cases this
theorem deckOk_names {o : Deck} (h : deckOk o = true) : (o.defs.map (·.name)).Nodup ∧ nameOk o.name = true ∧ ∀ d ∈ o.defs, nameOk d.name = true := by
  unfold deckOk at h
  simp only [Bool.and_eq_true] at h
  obtain ⟨⟨⟨⟨⟨h0, _⟩, _⟩, h2⟩, _⟩, _⟩ := h
  rw [List.all_eq_true] at h2
  refine ⟨nodup_of fun i hi k hk => ?_, h0, fun d hd => ?_⟩
  · have := h2 i (List.mem_range.2 hi)
    unfold defOk at this
    rw [Bool.and_eq_true, List.all_eq_true] at this
    simpa using this.2 k (List.mem_range.2 hk)
  · obtain ⟨i, hi, rfl⟩ := ix_of_mem hd
    have := h2 i (List.mem_range.2 hi)
    unfold defOk at this
    simp only [Bool.and_eq_true] at this
    exact this.1.1.1
theorem nameOk_ne {n : ByteArray} (h : nameOk n = true) : n ≠ ⟨#[]⟩ := by
  rintro rfl
  revert h
  decide
theorem linkDefs_nodup {o : Deck} (h : (o.defs.map (·.name)).Nodup) : ((linkDefs o).map (·.name)).Nodup := by
  unfold linkDefs
  split
  · exact h
  · rename_i hn
    rw [List.map_cons, List.nodup_cons]
    refine ⟨fun hm => hn ?_, h⟩
    obtain ⟨d, hd, he⟩ := List.mem_map.1 hm
    exact List.any_eq_true.2 ⟨d, hd, eqS_t.2 he⟩

theorem names_same (A : Int) : ∀ (ds : List DDef) (s s' : LSt), putNames A true ds s = .ok s' → putNames A false ds s = .ok s'
  | [], s, s', h => h
  | d :: ds, s, s', h => by
    rw [putNames] at h ⊢
    split at h
    · rw [if_pos rfl] at h; cases h
    · rename_i hn
      rw [if_neg hn]
      exact names_same A ds _ s' h
theorem putL_same_f {s s' : LSt} {o : Deck} (h : putL true s o = .ok s') : s' = putNF s o := by
  have h2 := putL_false s o
  unfold putL at h h2
  simp only [Bool.false_and, Bool.false_eq_true, if_false] at h2
  split at h
  · cases h
  · split at h
    · cases h
    · rename_i s1 h1
      rw [names_same _ _ _ _ h1] at h2
      simp only at h2
      rw [h] at h2
      injection h2
theorem find_congr {α : Type} {p q : α → Bool} : ∀ {l : List α}, (∀ x ∈ l, p x = q x) → l.find? p = l.find? q
  | [], _ => rfl
  | x :: l, h => by
    rw [List.find?_cons, List.find?_cons, h x List.mem_cons_self, find_congr fun y hy => h y (List.mem_cons_of_mem _ hy)]
theorem names_err (A : Int) : ∀ (ds : List DDef) (s : LSt), (ds.map (·.name)).Nodup → match ds.find? (fun d => (outerF s.nmap d.name).isSome) with
    | some d => putNames A true ds s = .error d.name
    | none => ∃ s', putNames A true ds s = .ok s'
  | [], s, _ => ⟨s, rfl⟩
  | d :: ds, s, h => by
    rw [List.map_cons, List.nodup_cons] at h
    rw [List.find?_cons, putNames]
    cases hd : (outerF s.nmap d.name).isSome with
    | true => simp
    | false =>
      have ih := names_err A ds { s with nmap := s.nmap ++ [⟨d.name, A + d.at_⟩], defs := s.defs ++ [⟨d.name, A + d.at_⟩] } h.2
      have e : ds.find? (fun x => (outerF (s.nmap ++ [⟨d.name, A + d.at_⟩]) x.name).isSome) = ds.find? fun x => (outerF s.nmap x.name).isSome := by
        refine find_congr fun x hx => ?_
        rw [outer_any, outer_any, List.any_append]
        have : eqS d.name x.name = false := by
          cases hx2 : eqS d.name x.name with
          | false => rfl
          | true => exact absurd (List.mem_map.2 ⟨x, hx, (eqS_t.1 hx2).symm⟩) h.1
        simp [this]
      simp only at ih
      rw [e] at ih
      simpa using ih

theorem double_put (base : Int) : ∀ (l g : List Deck) (met : List ByteArray), (∀ o ∈ l, deckOk o = true) → (∀ n, hasS met n = knownF g n) → match putAll (stF base g) l with
    | .error n => doubleF met l = n ∧ n ≠ ⟨#[]⟩
    | .ok s => doubleF met l = ⟨#[]⟩ ∧ s = stF base (g ++ l)
  | [], g, met, _, _ => ⟨rfl, by simp⟩
  | o :: l, g, met, hok, hm => by
    have h := got base g
    obtain ⟨hd1, hd2, hd3⟩ := deckOk_names (hok o List.mem_cons_self)
    have hown : hasS (stF base g).own o.name = true → knownF g o.name = true := by
      rw [h.own, List.any_eq_true]
      rintro ⟨x, hx, he⟩
      rw [eqS_t] at he
      unfold knownF
      exact List.any_eq_true.2 ⟨x, hx, he ▸ defines_own x⟩
    rw [putAll, doubleF, hm]
    cases hk : knownF g o.name with
    | true =>
      have : putL true (stF base g) o = .error o.name := by
        unfold putL
        rw [h.known, hk]
        simp
      rw [this]
      exact ⟨rfl, nameOk_ne hd2⟩
    | false =>
      have hown2 : hasS (stF base g).own o.name = false := by
        cases hx : hasS (stF base g).own o.name with
        | false => rfl
        | true => rw [hown hx] at hk; cases hk
      have e1 : (linkDefs o).find? (fun d => (outerF (stF base g).nmap d.name).isSome) = o.defs.find? fun d => hasS met d.name := by
        have e2 : (fun d : DDef => (outerF (stF base g).nmap d.name).isSome) = fun d => hasS met d.name := by
          funext d; rw [h.known, hm]
        rw [e2]
        unfold linkDefs
        split
        · rfl
        · rw [List.find?_cons, hm, hk]
      have hn := names_err (upF (stF base g).end_) (linkDefs o) { stF base g with own := addS (stF base g).own o.name, objs := (stF base g).objs ++ [o], places := (stF base g).places ++ [⟨o.name, upF (stF base g).end_⟩] } (linkDefs_nodup hd1)
      simp only at hn
      rw [e1] at hn
      have hp : putL true (stF base g) o = match putNames (upF (stF base g).end_) true (linkDefs o) { stF base g with own := addS (stF base g).own o.name, objs := (stF base g).objs ++ [o], places := (stF base g).places ++ [⟨o.name, upF (stF base g).end_⟩] } with
          | .error n => .error n
          | .ok s' => .ok { s' with lines := s'.lines ++ o.lines.map (fun x => ⟨upF (stF base g).end_ + x.at_, x.stmt⟩), end_ := upF (stF base g).end_ + o.code.size } := by
        rw [putL, h.known, hk, hown2]
        rfl
      simp only [Bool.false_eq_true, if_false]
      cases hf : o.defs.find? (fun d => hasS met d.name) with
      | some d =>
        rw [hf] at hn
        simp only at hn
        rw [hn] at hp
        rw [hp]
        exact ⟨rfl, nameOk_ne (hd3 d (List.mem_of_find?_eq_some hf))⟩
      | none =>
        rw [hf] at hn
        simp only at hn
        obtain ⟨s', hs'⟩ := hn
        rw [hs'] at hp
        have hs := putL_same_f hp
        have hp2 : putL true (stF base g) o = .ok (putNF (stF base g) o) := by rw [hp]; exact congrArg _ hs
        rw [hp2]
        simp only
        rw [← stF_snoc]
        have := double_put base l (g ++ [o]) (meets met o) (fun x hx => hok x (List.mem_cons_of_mem _ hx)) fun n => by
          have : hasS (meets met o) n = (hasS met n || definesF o n) := by
            unfold meets definesF
            generalize defsF o = ds
            clear hm hf hs hs' hp hp2 e1
            induction ds generalizing met with
            | nil => simp
            | cons d ds ih => rw [List.foldl_cons, ih, hasS_addS, List.any_cons, Bool.or_assoc]
          rw [this, hm]
          unfold knownF; simp
        rw [List.append_assoc] at this
        exact this
end Go.Pm
