/- LkC23: the library's sort, as a contract. -/
import Derived.Test.YtolfkdphlgkekaaLkS10
import Derived.Shelf.SlSortCmp.WholeK
import Derived.Test.YtolfkdphlgkekaaMg
namespace Go.Pm
open Go Go.Proofs Go.Shelf Go.RowKit Go.Lib Go.Sort
attribute [-simp] List.getElem?_map

def encD (d : DDef) : List Value := [.string d.name, .int .i64 d.at_]
def cmpD (a b : DDef) : Int := if ltS a.name b.name then -1 else if ltS b.name a.name then 1 else 0

set_option maxHeartbeats 2000000 in
theorem compare42 (x y : ByteArray) (W : World) : Calls Try.prog 42 #[.string x, .string y] W fun e w' => e = .returned (.int .i64 (if ltS x y then -1 else if ltS y x then 1 else 0)) ∧ w' = W := by
  have hg : ∀ W, (binOp .gtr 9 (.string x) (.string y)).run Try.prog W = .ok (.bool !(Op.bytesLess x.toList y.toList || x.toList == y.toList)) W := fun W => by simp [binOp, Op.stringOp]
  unfold ltS
  rcases less_tri x.toList y.toList with h | h | h
  · have h2 := less_asymm _ _ h
    rw [h, h2]
    go_enter Try.func42, Try.ntmps42
    go_wp2
    all_goals go_ret
    all_goals simp
  · have h2 := less_irrefl y.toList
    rw [h] at hg ⊢
    rw [h2] at hg ⊢
    simp only [beq_self_eq_true, Bool.or_true, Bool.not_true] at hg
    go_enter Try.func42, Try.ntmps42
    go_wp2
    all_goals go_ret
    all_goals simp
  · have h2 := less_asymm _ _ h
    have hne : (x.toList == y.toList) = false := by
      cases he : x.toList == y.toList with
      | false => rfl
      | true => rw [eq_of_beq he, less_irrefl] at h; cases h
    rw [h2, hne] at hg
    rw [h, h2]
    go_enter Try.func42, Try.ntmps42
    go_wp2
    all_goals go_ret
    all_goals simp

set_option maxHeartbeats 1000000 in
theorem closure58 (x y : DDef) (W : World) : Calls Try.prog 58 #[.agg #[.string x.name, .int .i64 x.at_], .agg #[.string y.name, .int .i64 y.at_]] W fun e w' => e = .returned (.int .i64 (cmpD x y)) ∧ ∃ q os', w' = grow (W.drewN q) os' := by
  have hcon := fun W' => compare42 x.name y.name W'
  change ∀ W', Calls Try.prog 42 _ _ _ at hcon
  unfold cmpD
  generalize (if ltS x.name y.name = true then (-1 : Int) else if ltS y.name x.name = true then 1 else 0) = r at hcon ⊢
  go_enter Try.func58, Try.ntmps58
  go_wp2_with (go_at_call 42; refine (hcon _).mono ?_; rintro e w' ⟨rfl, rfl⟩)
  go_ret
  exact ⟨rfl, 0, _, by rw [alloc_eq_grow, alloc_eq_grow, grow_grow]; rfl⟩

theorem cmpLays58 (blk off size : Nat) (w : World) : CmpLays Try.prog 58 #[] encD 2 cmpD blk off size w := fun _ _ _ _ x y => closure58 x y _

theorem ltOf_cmpD (x y : DDef) : ltOf cmpD x y = ltS x.name y.name := by
  unfold ltOf cmpD
  rcases ltS_tri x.name y.name with h | h | h
  · simp [h]
  · simp [h, ltS_irrefl]
  · simp [h, ltS_asymm h]
theorem swoD : SWO (ltOf cmpD) where
  irrefl x := by rw [ltOf_cmpD]; exact ltS_irrefl _
  trans x y z h1 h2 := by rw [ltOf_cmpD] at *; exact ltS_trans h1 h2
  ntrans x y z h1 h2 := by
    rw [ltOf_cmpD] at *
    cases h : ltS x.name z.name with
    | false => rfl
    | true =>
      rcases ltS_tri x.name y.name with h3 | h3 | h3
      · rw [h3] at h1; cases h1
      · rw [← h3, h] at h2; cases h2
      · rw [ltS_trans h3 h] at h2; cases h2

theorem sorted_world_heap (w : World) (b n : Nat) (d : Array DDef) (os : Array Obj) (hb : b < w.heap.size) {cur : Array Value} {e : TypeId} {fr : Nat × Nat} (h : w.heap[b]? = some (.cells cur e fr)) :
    (sortWorldK encD 2 w b 0 n d os).heap[b]? = some (.cells (putCells id 0 (flatK encD 2 d) cur) e fr) := by
  unfold sortWorldK
  rw [heap_grow_old _ _ (by rw [size_putRowK]; exact hb)]
  unfold putRowK putRow mapBlock
  show (w.heap.modify b _)[b]? = _
  rw [Array.getElem?_modify, if_pos rfl, h]
  rfl
theorem sorted_world_other (w : World) (b n k : Nat) (d : Array DDef) (os : Array Obj) (hk : k < w.heap.size) (hne : k ≠ b) : (sortWorldK encD 2 w b 0 n d os).heap[k]? = w.heap[k]? := by
  unfold sortWorldK
  rw [heap_grow_old _ _ (by rw [size_putRowK]; exact hk)]
  unfold putRowK putRow mapBlock
  show (w.heap.modify b _)[k]? = _
  rw [Array.getElem?_modify, if_neg (fun e => hne e.symm)]

theorem holds_of_rows {σ : Sig} {K : Bool → Nat → Prop} {w : World} {b : Nat} {ds : List DDef} {cur : Array Value} {e : TypeId} (hh : w.heap[b]? = some (.cells cur e (0, 0))) (h : LR σ K w b 0 2 (ds.map DDef.av)) : HoldsK encD 2 w b 0 ds.toArray := by
  intro t ht
  rw [size_flatK] at ht
  rw [get_flatK _ _ _ _ ht]
  have ht2 : t / 2 < ds.length := by simp at ht; omega
  have hd : (ds.toArray)[t / 2]! = ds[t / 2] := by rw [getElem!_pos _ _ (by simpa using ht2)]; simp
  rw [hd]
  obtain ⟨_, hc⟩ := LR_iff.1 h (t / 2) (DDef.av ds[t / 2]) (by rw [List.getElem?_map, List.getElem?_eq_getElem ht2]; rfl)
  refine ⟨?_, by simp [World.frozen?, hh]⟩
  have hm : t % 2 = 0 ∨ t % 2 = 1 := by omega
  rcases hm with hm | hm
  · obtain ⟨u, hu, _, hV⟩ := CR_iff.1 hc 0 (.str ds[t / 2].name) rfl
    rw [VR] at hV
    rw [hm, show 0 + t = 0 + t / 2 * 2 + 0 by omega, hu, hV]
    rfl
  · obtain ⟨u, hu, _, hV⟩ := CR_iff.1 hc 1 (.int .i64 ds[t / 2].at_) rfl
    rw [VR] at hV
    rw [hm, show 0 + t = 0 + t / 2 * 2 + 1 by omega, hu, hV]
    rfl

theorem rows_of_holds {σ : Sig} {K : Bool → Nat → Prop} {w : World} {b : Nat} {d : Array DDef} (h : HoldsK encD 2 w b 0 d) : LR σ K w b 0 2 (d.toList.map DDef.av) := by
  refine LR_iff.2 fun i c hc => ?_
  rw [List.getElem?_map, Option.map_eq_some_iff] at hc
  obtain ⟨x, hx, rfl⟩ := hc
  have hi : i < d.size := by have := (List.getElem?_eq_some_iff.1 hx).1; simpa using this
  have hx' : d[i]! = x := by
    rw [getElem!_pos d i hi]
    have := (List.getElem?_eq_some_iff.1 hx).2
    simpa using this
  have hs : (flatK encD 2 d).size = d.size * 2 := size_flatK _ _ _
  refine ⟨rfl, CR_iff.2 fun j y hj => ?_⟩
  have hj2 : j < 2 := (List.getElem?_eq_some_iff.1 hj).1
  have hh := (h (i * 2 + j) (by rw [hs]; omega)).1
  rw [get_flatK _ _ _ _ (by omega), show (i * 2 + j) / 2 = i by omega, hx'] at hh
  have hm : j = 0 ∨ j = 1 := by omega
  rcases hm with rfl | rfl
  · have : y = .str x.name := by simpa [DDef.av] using hj.symm
    subst this
    refine ⟨.string x.name, ?_, rfl, by rw [VR]⟩
    rw [show 0 + i * 2 + 0 = 0 + (i * 2 + 0) by omega, hh, show (i * 2 + 0) % 2 = 0 by omega]
    rfl
  · have : y = .int .i64 x.at_ := by simpa [DDef.av] using hj.symm
    subst this
    refine ⟨.int .i64 x.at_, ?_, rfl, by rw [VR]⟩
    rw [show 0 + i * 2 + 1 = 0 + (i * 2 + 1) by omega, hh, show (i * 2 + 1) % 2 = 1 by omega]
    rfl
end Go.Pm
