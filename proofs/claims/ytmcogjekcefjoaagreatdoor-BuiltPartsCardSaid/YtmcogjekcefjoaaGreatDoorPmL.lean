/- PmL: what an operation is resolved to is said of it. -/
import Derived.Test.YtmcogjekcefjoaaGreatDoorPmX
namespace Go.Pm
open Go
theorem arr1 {α : Type} {a : Array α} (h : a.size = 1) : ∃ x, a = #[x] := by
  obtain ⟨l⟩ := a
  match l, h with
  | [x], _ => exact ⟨x, rfl⟩
theorem arr2 {α : Type} {a : Array α} (h : a.size = 2) : ∃ x y, a = #[x, y] := by
  obtain ⟨l⟩ := a
  match l, h with
  | [x, y], _ => exact ⟨x, y, rfl⟩
theorem info_of_isSome {P : Program} {t : TypeId} (h : (P.info? t).isSome = true) : ∃ i, P.info? t = some i ∧ P.cellsOf t = i.size := by
  obtain ⟨i, hi⟩ := Option.isSome_iff_exists.1 h
  exact ⟨i, hi, cellsOf_eq hi⟩
set_option maxHeartbeats 1000000 in
theorem compK_says {P : Program} {o : Oper} {k : SK} (h : compK P o.op = some k) : Says P k o := by
  obtain ⟨op, hop⟩ : ∃ op, o.op = op := ⟨_, rfl⟩
  rw [hop] at h
  cases op <;> simp only [compK, reduceCtorEq, Option.some.injEq] at h
  case move y => subst h; exact says_move (.inl hop)
  case assign y => subst h; exact says_move (.inr hop)
  case pick a b c => subst h; exact says_pick hop
  case alloc t =>
    split at h
    · rename_i z hz
      split at h <;> (injection h with h; subst h)
      · exact says_allocT hop hz
      · exact says_alloc hop hz
    · cases h
  case box t y => subst h; exact says_box hop
  case build t parts =>
    split at h
    · rename_i fs z hu hz
      split at h
      · rename_i l hl
        simp only [Option.ite_none_right_eq_some, Option.some.injEq] at h
        obtain ⟨⟨h1, h2⟩, rfl⟩ := h
        exact says_build hop hu hz h1 hl h2
      · cases h
    · rename_i e z hu hz
      split at h
      · rename_i i hi
        simp only [Option.ite_none_right_eq_some, Option.some.injEq] at h
        obtain ⟨h1, rfl⟩ := h
        exact says_buildArr hop hu hz h1 hi
      · cases h
    · cases h
  case load t y =>
    split at h
    · rename_i i hi
      simp only [Option.ite_none_right_eq_some, Option.some.injEq] at h
      obtain ⟨⟨h1, h2⟩, rfl⟩ := h
      exact says_load hop hi h1 h2
    · cases h
  case store t y z =>
    split at h
    · rename_i i hi; injection h with h; subst h; exact says_store hop hi
    · cases h
  case nilCheck y => subst h; exact says_nilCheck hop
  case binOp op t y z t' =>
    split at h
    · rename_i hu
      split at h
      · injection h with h; subst h; exact says_eqBool hop rfl hu
      · injection h with h; subst h; exact says_eqBool hop rfl hu
      · cases h
    · injection h with h; subst h; exact says_bin hop
    · injection h with h; subst h; exact says_bin hop
    · rename_i fs hu
      split at h
      · rename_i ks hk
        split at h
        · rename_i hc
          split at h
          · injection h with h; subst h; exact says_eqAgg hop rfl hu hk hc.1 hc.2
          · injection h with h; subst h; exact says_eqAgg hop rfl hu hk hc.1 hc.2
          · cases h
        · cases h
      · cases h
    · rename_i n e hu
      split at h
      · rename_i kk i hk hi
        simp only [Option.ite_none_right_eq_some] at h
        obtain ⟨⟨rfl, h1, h2⟩, h⟩ := h
        split at h
        · injection h with h; subst h; exact says_eqPair hop rfl hu hk hi h1 h2
        · injection h with h; subst h; exact says_eqPair hop rfl hu hk hi h1 h2
        · cases h
      · cases h
    · rename_i ms hu
      split at h
      · split at h
        · injection h with h; subst h; exact says_eqNilI hop rfl hu
        · injection h with h; subst h; exact says_eqNilI hop rfl hu
        · cases h
      · cases h
    · rename_i el hu
      split at h
      · split at h
        · injection h with h; subst h; exact says_eqNilP hop rfl hu
        · injection h with h; subst h; exact says_eqNilP hop rfl hu
        · cases h
      · cases h
    · cases h
  case typeAssert x xt t ok =>
    cases ok <;> simp only [reduceCtorEq] at h
    split at h
    · cases h
    · rename_i d hd hu
      simp only [Option.map_eq_some_iff] at h
      obtain ⟨z, hz, rfl⟩ := h
      exact says_typeAssert hop hu (fun ms e => hd ms e) hz
    · cases h
  case buildSlice t n parts =>
    split at h
    · rename_i e hu
      split at h
      · rename_i i z hi hz
        simp only [Option.ite_none_right_eq_some, Option.some.injEq] at h
        obtain ⟨⟨h1, h2, h3, h4⟩, rfl⟩ := h
        exact says_buildRow hop hu hi hz h1 h2 h3 h4
      · cases h
    · cases h
  case makeSlice t a d =>
    split at h
    · rename_i e hu
      split at h
      · rename_i i z hi hz
        simp only [Option.ite_none_right_eq_some, Option.some.injEq] at h
        obtain ⟨⟨h1, h2, h3⟩, rfl⟩ := h
        exact says_mkRow hop hu hi hz h1 h2 h3
      · cases h
    · cases h
  case unOp op t y => subst h; exact says_un hop
  case convert src dst y =>
    split at h
    · rename_i h1 h2; injection h with h; subst h; exact says_convInt hop h1 h2
    · rename_i e h1 h3
      split at h
      · rename_i h2; injection h with h; subst h; exact says_bytesToStr hop h1 h2 h3
      · cases h
    · cases h
  case makeFunc fn first captured =>
    split at h
    · simp only [Option.ite_none_right_eq_some, Option.some.injEq] at h
      obtain ⟨h1, rfl⟩ := h
      exact says_mkFn hop h1
    · simp only [Option.ite_none_right_eq_some, Option.some.injEq] at h
      obtain ⟨⟨h1, h2⟩, rfl⟩ := h
      exact says_mkMeth hop h1 h2
    · cases h
  case makeMap t r =>
    split at h
    · injection h with h; subst h; exact says_mkMap hop
    · cases h
  case slice t x lo hi mx =>
    split at h
    · rename_i hu; injection h with h; subst h; exact says_sliceStr hop hu
    · rename_i e hu
      simp only [Option.ite_none_right_eq_some, Option.some.injEq] at h
      obtain ⟨⟨h1, h2⟩, rfl⟩ := h
      obtain ⟨i, hi', hc⟩ := info_of_isSome h1
      rw [hc] at h2 ⊢
      exact says_slice hop hu hi' h2
    · cases h
  case fieldAddr s x f =>
    split at h
    · rename_i fs hu
      split at h
      · rename_i fd hf
        simp only [Option.ite_none_right_eq_some, Option.some.injEq] at h
        obtain ⟨h1, rfl⟩ := h
        exact says_fieldAddr hop hu hf h1
      · cases h
    · cases h
  case field t x f =>
    split at h
    · rename_i fs hu
      split at h
      · rename_i fd hf
        split at h
        · rename_i i hi
          simp only [Option.ite_none_right_eq_some, Option.some.injEq] at h
          obtain ⟨h1, rfl⟩ := h
          exact says_field hop hu hf hi h1
        · cases h
      · cases h
    · cases h
  case indexAddr t x y =>
    split at h
    · rename_i e hu
      simp only [Option.ite_none_right_eq_some, Option.some.injEq] at h
      obtain ⟨h1, rfl⟩ := h
      obtain ⟨i, hi, hc⟩ := info_of_isSome h1
      rw [hc]
      exact says_indexAddr hop hu hi
    · rename_i n e hu
      simp only [Option.ite_none_right_eq_some, Option.some.injEq] at h
      obtain ⟨h1, rfl⟩ := h
      obtain ⟨i, hi, hc⟩ := info_of_isSome h1
      rw [hc]
      exact says_indexArr hop hu hi
    · cases h
  case index t x y =>
    split at h
    · rename_i hu; injection h with h; subst h; exact says_index hop hu
    · rename_i n e hu
      simp only [Option.ite_none_right_eq_some, Option.some.injEq] at h
      obtain ⟨⟨h1, h2⟩, rfl⟩ := h
      obtain ⟨i, hi, hc⟩ := info_of_isSome h1
      rw [hc]
      exact says_indexAgg hop hu hi h2
    · cases h
  case lookup t x y ok =>
    split at h
    · rename_i k' e hu
      split at h
      · rename_i sk z hk hz; injection h with h; subst h; exact says_lookup hop hu hk hz
      · cases h
    · cases h
  case mapUpdate t x y z =>
    split at h
    · rename_i k' e hu
      simp only [Option.map_eq_some_iff] at h
      obtain ⟨sk, hk, rfl⟩ := h
      exact says_mapUpdate hop hu hk
    · cases h
  case insert t x y z =>
    split at h
    · rename_i k' e hu
      simp only [Option.map_eq_some_iff] at h
      obtain ⟨sk, hk, rfl⟩ := h
      exact says_insert hop hu hk
    · cases h
  case extract x i => subst h; exact says_extract hop
  case makeInterface t x =>
    split at h
    · cases h
    · rename_i d hd hu; injection h with h; subst h
      exact says_mkIface hop hu (fun ms e => hd ms e)
    · cases h
  case call c =>
    obtain ⟨callee, args, ts⟩ := c
    simp only at h
    split at h
    · -- len
      split at h
      · rename_i hsz ht
        obtain ⟨x, rfl⟩ := arr1 hsz
        split at h
        · rename_i hu; injection h with h; subst h; exact says_len0 hop ht hu
        · rename_i hu; injection h with h; subst h; exact says_len1 hop ht hu
        · rename_i hu; injection h with h; subst h; exact says_len2 hop ht hu
        · cases h
      · cases h
    · -- append
      split at h
      · rename_i t x hsz hts
        obtain ⟨a, b, rfl⟩ := arr2 hsz
        have hts' : ts = #[t, x] := by apply Array.ext'; simpa using hts
        subst hts'
        split at h
        · rename_i e hu
          split at h
          · rename_i i z e' hi hz hx
            simp only [Option.ite_none_right_eq_some, Option.some.injEq] at h
            obtain ⟨⟨rfl, h1, h2, h3⟩, rfl⟩ := h
            exact @says_append P o _ e i z a b hop hu hi hz h1 h2 h3
          · rename_i i z k hi hz hx
            simp only [Option.ite_none_right_eq_some, Option.some.injEq] at h
            obtain ⟨⟨h1, h2, h3⟩, rfl⟩ := h
            exact @says_growNil P o _ _ e i z k a b hop hu hx hi hz h1 h2 h3
          · rename_i i z hi hz hx
            simp only [Option.ite_none_right_eq_some, Option.some.injEq] at h
            obtain ⟨⟨h1, h2, h3⟩, rfl⟩ := h
            exact @says_appendS P o _ _ e i z a b hop hu hx hi hz h1 h2 h3
          · cases h
        · cases h
      · cases h
    · -- cap
      split at h
      · rename_i hsz ht
        obtain ⟨x, rfl⟩ := arr1 hsz
        split at h
        · rename_i hu; injection h with h; subst h; exact says_cap hop ht hu
        · cases h
      · cases h
    · -- copy
      split at h
      · rename_i t hsz ht
        obtain ⟨a, b, rfl⟩ := arr2 hsz
        split at h
        · rename_i e hu
          simp only [Option.ite_none_right_eq_some, Option.some.injEq, Option.map_eq_some_iff] at h
          obtain ⟨⟨i, hi, hs⟩, rfl⟩ := h
          exact says_copy hop ht hu hi hs
        · cases h
      · cases h
    · -- delete
      split at h
      · rename_i t hsz ht
        obtain ⟨a, b, rfl⟩ := arr2 hsz
        split at h
        · rename_i k e hu
          simp only [Option.map_eq_some_iff] at h
          obtain ⟨kk, hk, rfl⟩ := h
          exact says_mapDelete hop ht hu hk
        · cases h
      · cases h
    · -- clear
      split at h
      · rename_i t hsz ht
        obtain ⟨a, rfl⟩ := arr1 hsz
        split at h
        · rename_i e hu
          split at h
          · rename_i i z hi hz
            injection h with h; subst h
            exact says_clear hop ht hu hi hz
          · cases h
        · cases h
      · cases h
    · -- min
      simp only [Option.ite_none_right_eq_some, Option.some.injEq] at h
      obtain ⟨h1, rfl⟩ := h
      obtain ⟨a, b, rfl⟩ := arr2 h1
      exact says_min hop
    · simp only [Option.ite_none_right_eq_some, Option.some.injEq] at h
      obtain ⟨h1, rfl⟩ := h
      obtain ⟨a, b, rfl⟩ := arr2 h1
      exact says_max hop
    · cases h
end Go.Pm
