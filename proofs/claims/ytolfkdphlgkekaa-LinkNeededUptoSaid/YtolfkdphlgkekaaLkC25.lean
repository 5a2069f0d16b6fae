/- LkC25: contracts: the linker's same and Move. -/
import Derived.Test.YtolfkdphlgkekaaMh
namespace Go.Pm
open Go Go.Proofs
attribute [-simp] List.getElem?_map

theorem call59 (p q : Bool) (a b : List DDef) (ha : a.length ≤ 4000000000000) : PCalls Try.prog 59 [.list p 2 (a.map DDef.av), .list q 2 (b.map DDef.av)] fun out => out = .ret (.bool (defsEq a b)) := by
  refine ok59.pcalls (by simp) ?_
  simp [c59]
  refine br_cond rfl (fun h => ?_) (fun h => ?_) <;> simp at h
  · simp [cr59, defsEq, h]
  simp
  have hlen := eqI_t.1 h
  refine wpS_loop (ι := Nat) (fun i => [(0, .list p 2 (a.map DDef.av)), (1, .list q 2 (b.map DDef.av)), (12, .int .i64 a.length), (13, .int .i64 i)]) (fun _ => ⟨[], 0⟩) (fun i => a.length - i)
    (fun i => i ≤ a.length ∧ ∀ j, j < i → eqD (ix a j) (ix b j) = true) 0 (by simp) (Env.le_of (by simp)) (by simp) ?_
  intro i ⟨hi, hall⟩
  have hw : IntKind.i64.wrap (i + 1) = i + 1 := wrap64 (by omega) (by omega)
  simp
  refine br_cond rfl (fun h1 => ?_) (fun h1 => ?_)
  · have hlt : i < a.length := by have := ltI_t.1 h1; omega
    have h2 : ltI ↑i ↑b.length = true := ltN (by omega)
    simp [h1, h2, idxM, def_take, sEq_D]
    refine br_cond rfl (fun h3 => ?_) (fun h3 => ?_) <;> simp at h3
    · have hA : ((List.range a.length).all fun i => eqD (ix a i) (ix b i)) = false := all_f (p := fun i => eqD (ix a i) (ix b i)) hlt h3
      have hE : defsEq a b = false := by unfold defsEq; rw [hA, Bool.and_false]
      simp [cr59, hE]
    · simp [hw]
      exact ⟨i + 1, ⟨by omega, upto hall h3⟩, by omega, Env.le_of (by simp), Mem.le_of rfl (by simp)⟩
  · have hid : i = a.length := by have := ltI_f.1 h1; omega
    have hA : ((List.range a.length).all fun i => eqD (ix a i) (ix b i)) = true := all_t (by rw [← hid]; exact hall)
    have hE : defsEq a b = true := by unfold defsEq; rw [hA, h]; rfl
    simp [h1, cr59, hE]

theorem call60 (p q : Bool) (a b : List DLine) (ha : a.length ≤ 4000000000000) : PCalls Try.prog 60 [.list p 2 (a.map DLine.av), .list q 2 (b.map DLine.av)] fun out => out = .ret (.bool (linesEq a b)) := by
  refine ok60.pcalls (by simp) ?_
  simp [c60]
  refine br_cond rfl (fun h => ?_) (fun h => ?_) <;> simp at h
  · simp [cr60, linesEq, h]
  simp
  have hlen := eqI_t.1 h
  refine wpS_loop (ι := Nat) (fun i => [(0, .list p 2 (a.map DLine.av)), (1, .list q 2 (b.map DLine.av)), (12, .int .i64 a.length), (13, .int .i64 i)]) (fun _ => ⟨[], 0⟩) (fun i => a.length - i)
    (fun i => i ≤ a.length ∧ ∀ j, j < i → eqL (ix a j) (ix b j) = true) 0 (by simp) (Env.le_of (by simp)) (by simp) ?_
  intro i ⟨hi, hall⟩
  have hw : IntKind.i64.wrap (i + 1) = i + 1 := wrap64 (by omega) (by omega)
  simp
  refine br_cond rfl (fun h1 => ?_) (fun h1 => ?_)
  · have hlt : i < a.length := by have := ltI_t.1 h1; omega
    have h2 : ltI ↑i ↑b.length = true := ltN (by omega)
    simp [h1, h2, idxM, line_take, sEq_L]
    refine br_cond rfl (fun h3 => ?_) (fun h3 => ?_) <;> simp at h3
    · have hA : ((List.range a.length).all fun i => eqL (ix a i) (ix b i)) = false := all_f (p := fun i => eqL (ix a i) (ix b i)) hlt h3
      have hE : linesEq a b = false := by unfold linesEq; rw [hA, Bool.and_false]
      simp [cr60, hE]
    · simp [hw]
      exact ⟨i + 1, ⟨by omega, upto hall h3⟩, by omega, Env.le_of (by simp), Mem.le_of rfl (by simp)⟩
  · have hid : i = a.length := by have := ltI_f.1 h1; omega
    have hA : ((List.range a.length).all fun i => eqL (ix a i) (ix b i)) = true := all_t (by rw [← hid]; exact hall)
    have hE : linesEq a b = true := by unfold linesEq; rw [hA, h]; rfl
    simp [h1, cr60, hE]

def sameL (a b : Img) : Bool := eqI a.base b.base && eqS a.code b.code && defsEq a.defs b.defs && linesEq a.lines b.lines && defsEq a.names b.names

theorem call30 (a b : Img) (ha : a.Small) : PCalls Try.prog 30 [.agg a.av, .agg b.av] fun out => out = .ret (.bool (sameL a b)) := by
  refine ok30.pcalls (by simp) ?_
  simp [c30, Img.av]
  refine br_guard_t rfl (fun h1 => ?_) (fun h1 => ?_)
  · simp [h1]
    refine br_guard_t rfl (fun h2 => ?_) (fun h2 => ?_)
    · simp [h2]
      refine xcall_p (call59 true true a.defs b.defs ha.defs) (by simp) ?_
      simp
      refine br_guard_t rfl (fun h3 => ?_) (fun h3 => ?_)
      · simp [h3]
        refine xcall_p (call60 true true a.lines b.lines ha.lines) (by simp) ?_
        simp
        refine br_guard_t rfl (fun h4 => ?_) (fun h4 => ?_)
        · simp [h4]
          refine xcall_p (call59 true true a.names b.names ha.names) (by simp) ?_
          simp [cr30, sameL, h1, h2, h3, h4]
        · simp [h4, cr30, sameL]
      · simp [h3, cr30, sameL]
    · simp [h2, cr30, sameL]
  · simp [h1, cr30, sameL]

/-- What Move computes. -/
def LRes.avE : LRes → AV
  | .bad e _ => .tuple [.agg img0, .int .i64 e]
  | .good i => .tuple [.agg i.av, .int .i64 0]
def moveL (x : Img) (l : List Deck) (libs : List (List Deck)) (to_ : Int) : LRes := match linkL l libs x.base with
  | .bad _ _ => .bad 1 ⟨#[]⟩
  | .good w => if sameL w x then linkL l libs to_ else .bad 1 ⟨#[]⟩

/-- Errors' numbers of Link are none. -/
theorem linkL_bad {l : List Deck} {libs : List (List Deck)} {base e : Int} {n : ByteArray} (h : linkL l libs base = .bad e n) : e ≠ 0 := by
  unfold linkL at h
  repeat' split at h
  all_goals first | (injection h with h; subst h; decide) | cases h

/-- Names are no longer than what came in. -/
structure LSt.Named (s : LSt) : Prop where
  defs : ∀ d ∈ s.defs, d.name.size ≤ 1048576
  places : ∀ d ∈ s.places, d.name.size ≤ 1048576
theorem linkDefs_named {o : Deck} (h : o.Small) : ∀ d ∈ linkDefs o, d.name.size ≤ 1048576 := by
  intro d hd
  unfold linkDefs at hd
  split at hd
  · exact h.dname d hd
  · rcases List.mem_cons.1 hd with rfl | hd
    · exact h.name
    · exact h.dname d hd
theorem putNames_named {A : Int} {once : Bool} : ∀ (ds : List DDef) (s s' : LSt), putNames A once ds s = .ok s' → (∀ d ∈ ds, d.name.size ≤ 1048576) → s.Named → s'.Named
  | [], s, s', h, _, h1 => by simp only [putNames, Except.ok.injEq] at h; subst h; exact h1
  | d :: ds, s, s', h, hd, h1 => by
    rw [putNames] at h
    split at h
    · split at h
      · cases h
      · exact putNames_named ds s s' h (fun d' hd' => hd d' (List.mem_cons_of_mem _ hd')) h1
    · refine putNames_named ds _ s' h (fun d' hd' => hd d' (List.mem_cons_of_mem _ hd')) ⟨fun x hx => ?_, h1.places⟩
      rcases List.mem_append.1 hx with hx | hx
      · exact h1.defs x hx
      · rw [List.mem_singleton.1 hx]; exact hd d List.mem_cons_self
theorem putL_named {once : Bool} {s s' : LSt} {o : Deck} (hs : s.Named) (ho : o.Small) (h : putL once s o = .ok s') : s'.Named := by
  unfold putL at h
  split at h
  · cases h
  · split at h
    · cases h
    · rename_i s1 h1
      injection h with h; subst h
      have := putNames_named _ _ _ h1 (linkDefs_named ho) ⟨hs.defs, fun x hx => by
        rcases List.mem_append.1 hx with hx | hx
        · exact hs.places x hx
        · rw [List.mem_singleton.1 hx]; exact ho.name⟩
      exact ⟨this.defs, this.places⟩
theorem needed_named {libs : List (List Deck)} (hfit : ∀ o ∈ libs.flatten, o.Small) : ∀ (n : Nat) (s : LSt), s.Named → (neededL libs n s).1.Named
  | 0, s, h => h
  | n + 1, s, h => by
    rw [neededL]
    split
    · exact h
    · rename_i o ho
      exact needed_named hfit n _ (putL_named h (hfit o (firstL_mem ho).1) (putL_false s o))
theorem putAll_good {base : Int} : ∀ (l : List Deck) (s s' : LSt), putAll s l = .ok s' → (∀ o ∈ l, o.Fit ∧ RefsFit o) → s.Good base → s.Named → s.objs.length + l.length ≤ 2000000 → s'.Good base ∧ s'.Named ∧ s'.objs = s.objs ++ l
  | [], s, s', h, _, h1, h2, _ => by simp only [putAll, Except.ok.injEq] at h; subst h; exact ⟨h1, h2, by simp⟩
  | o :: l, s, s', h, hf, h1, h2, hl => by
    rw [putAll] at h
    split at h
    · cases h
    · rename_i s1 hp
      have hfo := hf o List.mem_cons_self
      obtain ⟨e1, _⟩ := putL_same hp
      obtain ⟨a, b, c⟩ := putAll_good l s1 s' h (fun x hx => hf x (List.mem_cons_of_mem _ hx)) (putL_good h1 hfo.1 hfo.2 (by simp at hl; omega) hp) (putL_named h2 hfo.1.small hp) (by rw [e1]; simp at hl ⊢; omega)
      exact ⟨a, b, by rw [c, e1]; simp⟩

/-- What is known of a good link. -/
structure LinkedBy (l : List Deck) (libs : List (List Deck)) (base : Int) (i : Img) (s0 s : LSt) : Prop where
  ok : allF l libs = true
  based : baseF base = true
  put : putAll (.start base) l = .ok s0
  need : neededL libs (libs.flatten.length + 1) s0 = (s, [])
  end_ : s.end_ ≤ 65536
  img : i = imgOf s base
  good : s.Good base
  named : s.Named
theorem linkL_good {l : List Deck} {libs : List (List Deck)} {base : Int} {i : Img} (hl : SmallL l) (hb : SmallLL libs) (hsum : l.length + libs.flatten.length ≤ 2000000) (h : linkL l libs base = .good i) : ∃ s0 s, LinkedBy l libs base i s0 s := by
  unfold linkL at h
  split at h
  · cases h
  rename_i h1
  have h1 : allF l libs = true := by simpa using h1
  split at h
  · cases h
  rename_i h2
  have h2 : baseF base = true := by simpa using h2
  split at h
  · cases h
  rename_i s0 h3
  split at h
  · cases h
  rename_i s h4
  split at h
  · cases h
  rename_i h5
  injection h with h
  have hbase : 0 ≤ base ∧ base ≤ 65528 := by
    unfold baseF at h2
    rw [Bool.and_eq_true] at h2
    exact withinF_t h2.1
  have hfl : ∀ o ∈ l, o.Fit ∧ RefsFit o := fun o ho => by
    refine deckOk_fit (hl.each o ho) ?_
    unfold allF at h1
    rw [Bool.and_eq_true, List.all_eq_true] at h1
    exact h1.1 o ho
  have hsb : ∀ o ∈ libs.flatten, o.Small := fun o ho => by
    obtain ⟨x, hx, ho⟩ := List.mem_flatten.1 ho
    exact (hb.each x hx).each o ho
  have hfb : ∀ o ∈ libs.flatten, o.Fit ∧ RefsFit o := fun o ho => by
    refine deckOk_fit (hsb o ho) ?_
    obtain ⟨x, hx, ho⟩ := List.mem_flatten.1 ho
    unfold allF at h1
    rw [Bool.and_eq_true, List.all_eq_true, List.all_eq_true] at h1
    have := h1.2 x hx
    rw [List.all_eq_true] at this
    exact this o ho
  obtain ⟨a, b, c⟩ := putAll_good l _ _ h3 hfl (LSt.good_start hbase.1 (by omega)) ⟨by simp [LSt.start], by simp [LSt.start]⟩ (by simp [LSt.start]; omega)
  have hol : s0.objs.length = l.length := by rw [c]; simp [LSt.start]
  have haw : awayL libs s0.own ≤ libs.flatten.length := List.length_filter_le _ _
  have hg := needed_good hfb (libs.flatten.length + 1) s0 a (by omega)
  have hn := needed_named hsb (libs.flatten.length + 1) s0 b
  rw [h4] at hg hn
  exact ⟨s0, s, h1, h2, h3, h4, by omega, h.symm, hg, hn⟩

theorem patch_len' {nm : List DDef} {a T : Nat} {rs : List DRef} {b : List UInt8} (hb : b.length = T) (h : ∀ r ∈ rs, a + r.at_.toNat + 4 ≤ T) : (patchRefs nm a rs b).length = T := by
  rw [patch_len (by rw [hb]; exact h), hb]
theorem place_len {nm : List DDef} {base : Int} {T : Nat} : ∀ {l : List (Deck × DDef)} {b : List UInt8}, b.length = T → (∀ x ∈ l, (x.2.at_ - base).toNat + x.1.code.size ≤ T ∧ ∀ r ∈ x.1.refs, (x.2.at_ - base).toNat + r.at_.toNat + 4 ≤ T) → (placeObjs nm base l b).length = T
  | [], b, hb, _ => hb
  | (o, d) :: l, b, hb, h => by
    rw [placeObjs]
    have h0 := h (o, d) List.mem_cons_self
    have hs : (splice b (d.at_ - base).toNat o.code.data.toList).length = T := by
      rw [splice_len (by rw [hb]; simpa using h0.1), hb]
    exact place_len (patch_len' hs h0.2) fun x hx => h x (List.mem_cons_of_mem _ hx)
theorem zip_mem {s : LSt} {base : Int} (hg : s.Good base) {x : Deck × DDef} (h : x ∈ s.objs.zip s.places) : ∃ i, i < s.objs.length ∧ x = (ix s.objs i, ix s.places i) := by
  obtain ⟨i, hi, he⟩ := List.getElem_of_mem h
  have hl := hg.small.places
  rw [List.length_zip, hl, Nat.min_self] at hi
  refine ⟨i, hi, ?_⟩
  rw [← he]
  have h1 : i < s.places.length := by omega
  simp [ix, List.getD, hi, h1]
theorem imageCode_len {s : LSt} {base : Int} (hg : s.Good base) : (imageCode s base).length = (s.end_ - base).toNat := by
  unfold imageCode
  refine place_len (by simp) fun x hx => ?_
  obtain ⟨i, hi, rfl⟩ := zip_mem hg hx
  have hp := hg.places i hi
  have hr := hg.refs _ (ix_mem hi)
  simp only
  refine ⟨by omega, fun r hr' => ?_⟩
  have := hr r hr'
  omega
theorem imgOf_small {s : LSt} {base : Int} (hg : s.Good base) (hn : s.Named) (he : s.end_ ≤ 65536) : (imgOf s base).Small := by
  have h1 := hg.small.objs
  have h2 := hg.small.defs
  have h3 := hg.small.lines
  have h4 := hg.small.places
  have h5 := hg.base0
  refine ⟨?_, ?_, ?_, ?_, fun d hd => hn.defs d ((sortD_perm hg.distinct).mem_iff.1 hd), hn.places⟩
  · show (imageCode s base).toArray.size ≤ _
    simp [imageCode_len hg]; omega
  · show (sortD s.defs).length ≤ _
    rw [sortD_len hg.distinct]; omega
  · show s.lines.length ≤ _
    omega
  · show s.places.length ≤ _
    omega
theorem linkL_small {l : List Deck} {libs : List (List Deck)} {base : Int} {i : Img} (hl : SmallL l) (hb : SmallLL libs) (hsum : l.length + libs.flatten.length ≤ 2000000) (h : linkL l libs base = .good i) : i.Small := by
  obtain ⟨s0, s, hk⟩ := linkL_good hl hb hsum h
  rw [hk.img]
  exact imgOf_small hk.good hk.named hk.end_

set_option maxHeartbeats 4000000 in
theorem call12 (p q : Bool) (x : Img) (l : List Deck) (libs : List (List Deck)) (to_ : Int) (hl : SmallL l) (hb : SmallLL libs) (hlib : libs.length ≤ 2000000) (hsum : l.length + libs.flatten.length ≤ 2000000) :
    PCalls Try.prog 12 [.agg x.av, .list p 5 (l.map Deck.av), .list q 1 (libs.map libAV), .int .i64 to_] fun out => out = .ret (moveL x l libs to_).avE := by
  refine ok12.pcalls (by simp) ?_
  generalize hM : moveL x l libs to_ = M
  unfold moveL at hM
  simp [c12, Img.av]
  refine xcall_p (call9 p q l libs x.base hl hb hlib hsum) (by simp) ?_
  cases hw : linkL l libs x.base with
  | bad e n =>
    have he := linkL_bad hw
    have he' : eqI e 0 = false := eqI_f.2 he
    rw [hw] at hM
    simp only at hM
    subst hM
    simp [LRes.av, img0, he', cr12, LRes.avE]
  | good w =>
    rw [hw] at hM
    simp only at hM
    have hsw := linkL_small hl hb hsum hw
    have he' : eqI 0 0 = true := eqI_t.2 rfl
    simp [LRes.av, Img.av, he']
    refine xcall_p (call30 w x hsw) (by simp [Img.av]) ?_
    cases hsm : sameL w x with
    | false =>
      rw [hsm, if_neg (by simp)] at hM
      subst hM
      simp [cr12, LRes.avE, img0]
    | true =>
      rw [hsm, if_pos rfl] at hM
      simp
      refine xcall_p (call9 p q l libs to_ hl hb hlib hsum) (by simp) ?_
      rw [hM]
      cases M with
      | bad e n => simp [LRes.av, img0, cr12, LRes.avE]
      | good w2 => simp [LRes.av, Img.av, cr12, LRes.avE]
end Go.Pm
