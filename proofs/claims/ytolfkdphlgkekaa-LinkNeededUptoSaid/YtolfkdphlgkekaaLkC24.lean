/- LkC24: contract: the library's sort of definitions by name. -/
import Derived.Test.YtolfkdphlgkekaaLkC23
import Derived.Test.YtolfkdphlgkekaaMg
import Derived.Shelf.SlSortCmp.NoneTotal
namespace Go.Pm
open Go Go.Proofs Go.Shelf Go.RowKit Go.Lib Go.Sort
attribute [-simp] List.getElem?_map

theorem sorted_is {ds : List DDef} {d : Array DDef} (hd : (ds.map (·.name)).Nodup) (hp : PermIn 0 ds.toArray.size ds.toArray d) (hs : SortedIn (ltOf cmpD) 0 ds.toArray.size d) : d.toList = sortD ds := by
  obtain ⟨h1, _, h2⟩ := hp
  have hsz : d.size = ds.length := by rw [h1]; simp
  have e1 : (d.extract 0 ds.toArray.size).toList = d.toList := by
    rw [← h1]; simp
  have e2 : (ds.toArray.extract 0 ds.toArray.size).toList = ds := by simp
  rw [e1, e2] at h2
  have hnd : (d.toList.map (·.name)).Nodup := (h2.map (·.name)).nodup_iff.2 hd
  refine sorted_unique ?_ (sortD_sorted ds) (h2.trans (sortD_perm hd).symm)
  rw [List.pairwise_iff_getElem]
  intro i j hi hj hij
  have hj' : j < d.size := by simpa using hj
  have hi' : i < d.size := by simpa using hi
  have := hs i j (Nat.zero_le _) hij (by simp; omega)
  rw [getElem!_pos d i hi', getElem!_pos d j hj', ltOf_cmpD] at this
  unfold LtD
  rw [Array.getElem_toList, Array.getElem_toList]
  rcases ltS_tri d[i].name d[j].name with h | h | h
  · exact h
  · exfalso
    have hne := List.pairwise_iff_getElem.1 hnd i j (by simpa using hi) (by simpa using hj) hij
    simp only [List.getElem_map, Array.getElem_toList] at hne
    exact hne h
  · rw [h] at this; cases this

theorem call57 (m : Mem) (pos gen n : Nat) (ds : List DDef) (h : m.obj pos gen = some (.row 40 2 (ds.map DDef.av))) (hn : ds.length = n) (hd : (ds.map (·.name)).Nodup) (hl : n ≤ 3000000000000) :
    ACalls Try.prog 57 [.row pos gen 2 0 n, .fn 58 []] m fun out m' => out = .ret (.tuple []) ∧ m' = m.put pos gen (.row 40 2 ((sortD ds).map DDef.av)) := by
  refine ⟨⟨Try.f57, Try.func57, rfl, by kernel_rfl⟩, fun β K σ w vals hrel hv => ?_⟩
  obtain ⟨u, us, rfl, hV, u2, us2, rfl, hV2, hnil⟩ := hv
  rw [VRs] at hnil
  subst hnil
  have hf : u2 = .func (.func 58) #[] #[] := by
    rw [VR] at hV2
    obtain ⟨cs, h1, h2⟩ := hV2
    rw [VRs] at h2
    have : cs = #[] := by apply Array.ext'; simpa using h2
    rw [h1, this]
  subst hf
  have hpos := Mem.obj_some h
  rcases Nat.eq_zero_or_pos n with h0 | h0
  · -- nothing
    have hds : ds = [] := List.eq_nil_of_length_eq_zero (by omega)
    subst hds
    have hu : ∃ p c, u = .slice p 0 c := by
      obtain ⟨ad, cap, he⟩ := row_value hV
      exact ⟨ad, cap, by rw [he, h0]⟩
    obtain ⟨p, c, rfl⟩ := hu
    refine (AnyF.slices_SortFunc_none Try.sortDef p c (.func (.func 58) #[] #[]) w).mono ?_
    rintro e w' ⟨rfl, rfl⟩
    refine ⟨K, σ, m, .ret (.tuple []), ⟨rfl, ?_⟩, hrel, List.prefix_refl _, fun _ _ h => h, fun _ _ _ => rfl, .tuple #[], rfl, by rw [VR]; exact ⟨#[], rfl, rfl⟩⟩
    exact (Mem.put_same hpos).symm
  · rw [VR] at hV
    rcases hV with ⟨b, c, hg, hoc, rfl⟩ | ⟨_, hl0, _⟩ | ⟨hl0, _⟩
    · obtain ⟨cur, hheap, hcs, hcap, hmax, hpos2, hlr⟩ := hrel.obj_row h hg
      have hH := holds_of_rows hheap hlr
      have hb : b < w.heap.size := (Array.getElem?_eq_some_iff.1 hheap).1
      have eg : ∀ args w, (callFunc 58 args).run Try.prog w = .ok (.enter 58 args) w := enters_of Try.func58 (by kernel_rfl) rfl
      have hcon := AnyQ.slices_SortFunc Try.sortDef 2 Try.isAgg40 Try.sizeOf40 encD (fun _ => rfl) (fun x v hv => by simp [encD] at hv; rcases hv with rfl | rfl <;> rfl) cmpD swoD 58 #[] b 0 c ds.toArray w eg (cmpLays58 b 0 ds.toArray.size w) hH hb (by simp; omega)
      have hargs : ([Value.slice (some ⟨b, 0 * 2, none⟩) n (c - 0), .func (.func 58) #[] #[]] : List Value).toArray = #[.slice (some ⟨b, 0, none⟩) ds.toArray.size c, .func (.func 58) #[] #[]] := by
        simp [hn]
      rw [hargs]
      refine Calls.mono hcon ?_
      rintro e w' ⟨rfl, d', n', os, hp, hs, rfl⟩
      have hd' := sorted_is hd hp hs
      have hsz : d'.size = ds.length := by rw [hp.1]; simp
      have hheap' := sorted_world_heap w b n' d' os hb hheap
      have hle : w.heap.size ≤ (sortWorldK encD 2 w b 0 n' d' os).heap.size := size_sortWorldK_c encD 2 w b 0 n' d' os
      have hgr : w.grownBy (sortWorldK encD 2 w b 0 n' d' os) (some b) := ⟨rfl, rfl, rfl, hle, fun k hk hne => sorted_world_other w b n' k d' os hk (fun e => hne (by rw [e]))⟩
      have hH' := holdsK_sortWorldK_c encD 2 w b 0 ds.toArray d' n' os hH hb hp.1
      have hKs := hrel.kept_same hgr (hrel.not_kept h hg)
      refine ⟨K, σ, _, .ret (.tuple []), ⟨rfl, rfl⟩, hrel.put hpos hg hgr ⟨_, hheap', ?_, ?_, hmax, hpos2, ?_⟩, List.prefix_refl _, fun _ _ h => h, hKs, .tuple #[], rfl, by rw [VR]; exact ⟨#[], rfl, rfl⟩⟩
      · simp [putCells, hcs]
      · rw [← hd']
        simp [hsz]
        simpa using hcap
      · rw [← hd']
        exact rows_of_holds hH'
    · omega
    · omega
end Go.Pm
