/- LkC13: contracts: the first one of which something is so. -/
import Derived.Test.YtolfkdphlgkekaaMe
import Derived.Test.YtolfkdphlgkekaaMa
import Derived.Test.YtolfkdphlgkekaaLkS3
import Derived.Test.YtolfkdphlgkekaaMd
namespace Go.Pm
open Go Go.Proofs
attribute [-simp] List.getElem?_map

def indexF {α : Type} (φ : α → Bool) : List α → Nat → Int
  | [], _ => -1
  | x :: l, n => if φ x then n else indexF φ l (n + 1)

theorem indexF_shift {α : Type} {φ : α → Bool} {l : List α} {i : Nat} [Inhabited α] (h : i < l.length) (hφ : φ (ix l i) = false) : indexF φ (l.drop i) i = indexF φ (l.drop (i + 1)) (i + 1) := by
  rw [List.drop_eq_getElem_cons h]
  have : l[i] = ix l i := by simp [ix, List.getD, h]
  rw [this, indexF, if_neg (by rw [hφ]; simp)]

theorem call98 (p : Bool) (ds : List DDef) (f : FuncId) (caps : List AV) (φ : DDef → Bool) (hl : ds.length ≤ 2000000) (hb : tmpAs ⟨[], 0⟩ caps = some caps)
    (hf : ∀ d, PCalls Try.prog f (.agg d.av :: caps) fun out => out = .ret (.bool (φ d))) :
    PCalls Try.prog 98 [.list p 2 (ds.map DDef.av), .fn f caps] fun out => out = .ret (.int .i64 (indexF φ ds 0)) := by
  refine ok98.pcalls (by simp) ?_
  simp [c98]
  refine wpS_loop (ι := Nat) (fun i => [(0, .list p 2 (ds.map DDef.av)), (1, .fn f caps), (7, .int .i64 ds.length), (8, .int .i64 i)]) (fun _ => ⟨[], 0⟩) (fun i => ds.length - i)
    (fun i => i ≤ ds.length ∧ indexF φ ds 0 = indexF φ (ds.drop i) i) 0 (by simp) (Env.le_of (by simp)) rfl ?_
  intro i ⟨hi, hall⟩
  have hw : IntKind.i64.wrap (i + 1) = i + 1 := wrap64 (by omega) (by omega)
  simp
  refine br_cond rfl (fun h => ?_) (fun h => ?_)
  · have hlt : i < ds.length := by have := ltI_t.1 h; omega
    have ht : (ix ds i).av.take 2 = (ix ds i).av := rfl
    have hn : norefL (ix ds i).av = true := by simp [DDef.av]
    have hlen : (ix ds i).av.length = 2 := rfl
    simp [h, idxM, ht, hlen]
    refine xcall_p (hf (ix ds i)) (by simp [hb, hn]) ?_
    simp
    refine br_cond rfl (fun h1 => ?_) (fun h1 => ?_)
    · have : indexF φ (ds.drop i) i = i := by
        rw [List.drop_eq_getElem_cons hlt]
        have e : ds[i] = ix ds i := by simp [ix, List.getD, hlt]
        rw [e, indexF, if_pos h1]
      simp [cr98, hall, this]
    · simp [hw]
      exact ⟨i + 1, ⟨by omega, by rw [hall]; exact indexF_shift hlt h1⟩, by omega, Env.le_of (by simp), Mem.le_of rfl (by simp)⟩
  · have hid : i = ds.length := by have := ltI_f.1 h; omega
    subst hid
    simp [h, cr98, hall, indexF]
end Go.Pm

/- LkC14: contracts: the names that an object defines, as the linker says it. -/
namespace Go.Pm
open Go Go.Proofs
attribute [-simp] List.getElem?_map

theorem call79 (d : DDef) (o : Deck) (q : Bool) : PCalls Try.prog 79 [.agg d.av, .iptr q o.av] fun out => out = .ret (.bool (eqS d.name o.name)) := by
  refine ok79.pcalls (by simp) ?_
  simp [c79, cr79, DDef.av, Deck.av]

theorem call78 (p : Bool) (ds : List DDef) (f : FuncId) (caps : List AV) (φ : DDef → Bool) (hl : ds.length ≤ 2000000) (hb : tmpAs ⟨[], 0⟩ caps = some caps) (hb2 : tmpBs ⟨[], 0⟩ caps = some caps)
    (hf : ∀ d, PCalls Try.prog f (.agg d.av :: caps) fun out => out = .ret (.bool (φ d))) :
    PCalls Try.prog 78 [.list p 2 (ds.map DDef.av), .fn f caps] fun out => out = .ret (.bool (leI 0 (indexF φ ds 0))) := by
  refine ok78.pcalls (by simp) ?_
  simp [c78]
  refine xcall_p (call98 p ds f caps φ hl hb hf) (by simp [hb2]) ?_
  simp [cr78]

theorem index_any {α : Type} {φ : α → Bool} : ∀ (l : List α) (n : Nat), leI 0 (indexF φ l n) = l.any φ
  | [], n => by simp [indexF, leI]
  | x :: l, n => by
    rw [indexF, List.any_cons]
    rcases Bool.eq_false_or_eq_true (φ x) with h | h
    · rw [if_pos h, h]; simp [leI]
    · rw [if_neg (by rw [h]; simp), h, index_any l (n + 1)]; rfl

/-- The names that an object defines, its own one ahead. -/
def linkDefs (o : Deck) : List DDef := if o.defs.any (fun d => eqS d.name o.name) then o.defs else ⟨o.name, 0⟩ :: o.defs

theorem call54 (o : Deck) (hs : o.Small) : PCalls Try.prog 54 [.agg o.av] fun out => out = .ret (.list true 2 ((linkDefs o).map DDef.av)) := by
  refine ok54.pcalls (by simp) ?_
  have dl := hs.defs
  have hn := norefL_deck o
  simp [c54, Deck.av]
  refine xcall_p (call78 true o.defs 79 [.iptr false o.av] (fun d => eqS d.name o.name) (by omega) (by simp [tmpAs, tmpA, tmpB]) (by simp) (fun d => call79 d o false)) (by simp [Deck.av]) ?_
  rw [index_any]
  simp
  generalize hb : (o.defs.any fun d => eqS d.name o.name) = b
  refine br_cond rfl (fun h => ?_) (fun h => ?_)
  · have hd : linkDefs o = o.defs := by unfold linkDefs; rw [hb, if_pos h]
    simp [cr54, hd]
  · have hd : linkDefs o = ⟨o.name, 0⟩ :: o.defs := by unfold linkDefs; rw [hb, if_neg (by rw [h]; simp)]
    have hc2 : (1 + o.defs.length) * 24 ≤ 140737488355328 ∧ 1 + o.defs.length ≤ 9223372036854775807 := ⟨by omega, by omega⟩
    simp [cr54, hd, appendA, hc2, List.range_succ, DDef.av]
    rw [if_pos (by omega), List.take_of_length_le (by simp; omega)]
    simp [permLL]
end Go.Pm

/- LkC15: contracts: texts in a list. -/
namespace Go.Pm
open Go Go.Proofs
attribute [-simp] List.getElem?_map

theorem call81 (d : DDef) (n : ByteArray) (q : Bool) : PCalls Try.prog 81 [.agg d.av, .iptr q [.str n]] fun out => out = .ret (.bool (eqS d.name n)) := by
  refine ok81.pcalls (by simp) ?_
  simp [c81, cr81, DDef.av]

theorem call99 (p : Bool) (l : List ByteArray) (n : ByteArray) (hl : l.length ≤ 4000000000000) : PCalls Try.prog 99 [.list p 1 (l.map fun s => [.str s]), .str n] fun out => out = .ret (.int .i64 (indexF (fun s => eqS n s) l 0)) := by
  refine ok99.pcalls (by simp) ?_
  simp [c99]
  refine wpS_loop (ι := Nat) (fun i => [(0, .list p 1 (l.map fun s => [.str s])), (1, .str n), (7, .int .i64 l.length), (8, .int .i64 i)]) (fun _ => ⟨[], 0⟩) (fun i => l.length - i)
    (fun i => i ≤ l.length ∧ indexF (fun s => eqS n s) l 0 = indexF (fun s => eqS n s) (l.drop i) i) 0 (by simp) (Env.le_of (by simp)) rfl ?_
  intro i ⟨hi, hall⟩
  have hw : IntKind.i64.wrap (i + 1) = i + 1 := wrap64 (by omega) (by omega)
  simp
  refine br_cond rfl (fun h => ?_) (fun h => ?_)
  · have hlt : i < l.length := by have := ltI_t.1 h; omega
    simp [h, idxM]
    refine br_cond rfl (fun h1 => ?_) (fun h1 => ?_)
    · have : indexF (fun s => eqS n s) (l.drop i) i = i := by
        rw [List.drop_eq_getElem_cons hlt]
        have e : l[i] = ix l i := by simp [ix, List.getD, hlt]
        rw [e, indexF, if_pos h1]
      simp [cr99, hall, this]
    · simp [hw]
      exact ⟨i + 1, ⟨by omega, by rw [hall]; exact indexF_shift hlt h1⟩, by omega, Env.le_of (by simp), Mem.le_of rfl (by simp)⟩
  · have hid : i = l.length := by have := ltI_f.1 h; omega
    subst hid
    simp [h, cr99, hall, indexF]

theorem call80 (p : Bool) (l : List ByteArray) (n : ByteArray) (hl : l.length ≤ 4000000000000) : PCalls Try.prog 80 [.list p 1 (l.map fun s => [.str s]), .str n] fun out => out = .ret (.bool (l.any fun s => eqS n s)) := by
  refine ok80.pcalls (by simp) ?_
  simp [c80, -List.any_eq_true]
  refine xcall_p (call99 p l n hl) (by simp) ?_
  rw [← index_any l 0]
  simp [cr80]
end Go.Pm
