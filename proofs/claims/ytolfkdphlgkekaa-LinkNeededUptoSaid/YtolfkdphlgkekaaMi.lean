/- LkC29: the two linkers take the same objects. -/
import Derived.Test.YtolfkdphlgkekaaLkC28
import Derived.Test.YtolfkdphlgkekaaLkC25
namespace Go.Pm
open Go Go.Proofs
attribute [-simp] List.getElem?_map List.length_flatten

theorem outer_any (l : List DDef) (n : ByteArray) : (outerF l n).isSome = l.any fun d => eqS d.name n := by
  unfold outerF
  rw [Option.isSome_map, Bool.eq_iff_iff, List.find?_isSome, List.any_eq_true]
theorem eqS_sym (a b : ByteArray) : eqS a b = eqS b a := by
  rw [Bool.eq_iff_iff, eqS_t, eqS_t]; exact eq_comm
theorem linkDefs_perm (o : Deck) : (linkDefs o).Perm (defsF o) := by
  unfold linkDefs defsF
  split
  · exact List.Perm.refl _
  · exact List.perm_append_comm (l₁ := [⟨o.name, 0⟩]) (l₂ := o.defs)
theorem linkDefs_any (o : Deck) (n : ByteArray) : (linkDefs o).any (fun d => eqS d.name n) = definesF o n := by
  unfold definesF
  exact (linkDefs_perm o).any_eq
theorem defines_own (o : Deck) : definesF o o.name = true := by
  unfold definesF defsF
  split
  · rename_i h; exact h
  · simp [eqS_t.2 rfl]

/-- The state when these objects were put, where names may be there. -/
def stF (base : Int) (g : List Deck) : LSt := g.foldl putNF (.start base)
theorem stF_snoc (base : Int) (g : List Deck) (o : Deck) : stF base (g ++ [o]) = putNF (stF base g) o := by
  unfold stF; rw [List.foldl_append]; rfl

theorem names_false_any (A : Int) (n : ByteArray) : ∀ (ds : List DDef) (s s' : LSt), putNames A false ds s = .ok s' → (outerF s'.nmap n).isSome = ((outerF s.nmap n).isSome || ds.any fun d => eqS d.name n)
  | [], s, s', h => by simp only [putNames, Except.ok.injEq] at h; subst h; simp
  | d :: ds, s, s', h => by
    rw [putNames] at h
    split at h
    · rename_i hd
      rw [if_neg (by simp)] at h
      rw [names_false_any A n ds s s' h, List.any_cons]
      cases hx : eqS d.name n with
      | false => rfl
      | true => rw [eqS_t.1 hx] at hd; simp [hd]
    · rw [names_false_any A n ds _ s' h, outer_any, List.any_append, ← outer_any, List.any_cons]
      simp [Bool.or_assoc]

theorem putNF_any (s : LSt) (o : Deck) (n : ByteArray) : (outerF (putNF s o).nmap n).isSome = ((outerF s.nmap n).isSome || definesF o n) := by
  have h := putL_false s o
  unfold putL at h
  simp only [Bool.false_and, Bool.false_eq_true, if_false] at h
  split at h
  · cases h
  · rename_i s1 h1
    injection h with h
    rw [← h, ← linkDefs_any]
    have e := names_false_any _ n _ _ _ h1
    exact e

structure Got (s : LSt) (g : List Deck) : Prop where
  objs : s.objs = g
  known : ∀ n, (outerF s.nmap n).isSome = knownF g n
  own : ∀ n, hasS s.own n = g.any fun x => eqS x.name n
theorem got_snoc {s : LSt} {g : List Deck} {o : Deck} (h : Got s g) : Got (putNF s o) (g ++ [o]) := by
  obtain ⟨e1, e2, _⟩ := putL_same (putL_false s o)
  refine ⟨by rw [e1, h.objs], fun n => ?_, fun n => ?_⟩
  · rw [putNF_any, h.known]; unfold knownF; simp
  · rw [e2, hasS_addS, h.own, eqS_sym]; simp [eqS_sym]
theorem got_from (base : Int) : ∀ (l g : List Deck) (s : LSt), Got s g → Got (l.foldl putNF s) (g ++ l)
  | [], g, s, h => by simpa using h
  | o :: l, g, s, h => by
    have := got_from base l (g ++ [o]) _ (got_snoc (o := o) h)
    simpa using this
theorem got (base : Int) (g : List Deck) : Got (stF base g) g := by
  have := got_from base g [] (.start base) ⟨rfl, fun n => rfl, fun n => rfl⟩
  rw [List.nil_append] at this
  exact this

/-- What is taken first. -/
def firstF (g : List Deck) (libs : List (List Deck)) : List ByteArray → Option Deck
  | [] => none
  | n :: ns => if knownF g n then firstF g libs ns else match foundF g libs n with
    | some o => some o
    | none => firstF g libs ns
theorem scan_first (g : List Deck) (libs : List (List Deck)) : ∀ (ns ms : List ByteArray), (scanF [] g libs ns ms).2 = firstF g libs ns
  | [], ms => rfl
  | n :: ns, ms => by
    rw [scanF, firstF]
    have : (outerF [] n).isSome = false := rfl
    simp only [this, Bool.false_or]
    split
    · exact scan_first g libs ns ms
    · cases foundF g libs n with
      | some o => rfl
      | none => exact scan_first g libs ns _
theorem scan_none (g : List Deck) (libs : List (List Deck)) : ∀ (ns ms : List ByteArray), firstF g libs ns = none → (scanF [] g libs ns ms).1 = ms ++ ns.filter fun n => !knownF g n
  | [], ms, _ => by simp [scanF]
  | n :: ns, ms, h => by
    rw [firstF] at h
    rw [scanF]
    have : (outerF [] n).isSome = false := rfl
    simp only [this, Bool.false_or]
    split
    · rename_i hk
      rw [if_pos hk] at h
      rw [scan_none g libs ns ms h, List.filter_cons, if_neg (by simp [hk])]
    · rename_i hk
      rw [if_neg hk] at h
      cases hf : foundF g libs n with
      | some o => rw [hf] at h; cases h
      | none =>
        rw [hf] at h
        simp only at h ⊢
        rw [scan_none g libs ns _ h, List.filter_cons, if_pos (by simpa using hk)]
        simp

theorem found_same {s : LSt} {g : List Deck} (h : Got s g) (libs : List (List Deck)) (n : ByteArray) : foundL s.own libs n = foundF g libs n := by
  unfold foundL findIn foundF
  congr 1
  funext o
  unfold takesL takes
  rw [h.own, linkDefs_any]
theorem firstL_app (own : List ByteArray) (libs : List (List Deck)) : ∀ a b : List ByteArray, firstL own libs (a ++ b) = (firstL own libs a).or (firstL own libs b)
  | [], b => rfl
  | n :: a, b => by
    rw [List.cons_append, firstL, firstL]
    cases foundL own libs n with
    | some o => rfl
    | none => exact firstL_app own libs a b
theorem firstL_of_mem {own : List ByteArray} {libs : List (List Deck)} {n : ByteArray} {o : Deck} (h : foundL own libs n = some o) : ∀ {a : List ByteArray}, n ∈ a → (firstL own libs a).isSome = true
  | [], hm => by cases hm
  | m :: a, hm => by
    rw [firstL]
    cases hf : foundL own libs m with
    | some o => rfl
    | none =>
      rcases List.mem_cons.1 hm with rfl | hm
      · rw [hf] at h; cases h
      · exact firstL_of_mem h hm
theorem lack_first {s : LSt} {g : List Deck} (h : Got s g) (libs : List (List Deck)) : ∀ ns ms : List ByteArray, firstL s.own libs (lackL s.nmap ns ms) = (firstL s.own libs ms).or (firstF g libs ns)
  | [], ms => by rw [lackL, firstF]; simp
  | n :: ns, ms => by
    rw [lackL, firstF, h.known]
    split
    · exact lack_first h libs ns ms
    · split
      · rename_i hm
        rw [lack_first h libs ns ms]
        obtain ⟨x, hx, he⟩ := List.any_eq_true.1 hm
        rw [eqS_t] at he
        subst he
        cases hf : foundF g libs n with
        | none => rfl
        | some o =>
          have := firstL_of_mem (by rw [found_same h]; exact hf) hx
          obtain ⟨v, hv⟩ := Option.isSome_iff_exists.1 this
          rw [hv]; rfl
      · rw [lack_first h libs ns _, firstL_app, Option.or_assoc]
        congr 1
        rw [firstL, found_same h]
        cases foundF g libs n with
        | some o => rfl
        | none => rfl
theorem lack_pre (nm : List DDef) : ∀ ns ms : List ByteArray, ∃ t, lackL nm ns ms = ms ++ t
  | [], ms => ⟨[], by simp [lackL]⟩
  | n :: ns, ms => by
    rw [lackL]
    split
    · exact lack_pre nm ns ms
    · split
      · exact lack_pre nm ns ms
      · obtain ⟨t, ht⟩ := lack_pre nm ns (ms ++ [n])
        exact ⟨n :: t, by rw [ht]; simp⟩
theorem lack_head {s : LSt} {g : List Deck} (h : Got s g) : ∀ ns : List ByteArray, (lackL s.nmap ns []).head? = (ns.filter fun n => !knownF g n).head?
  | [] => rfl
  | n :: ns => by
    rw [lackL, h.known, List.filter_cons]
    cases hk : knownF g n with
    | true => simpa using lack_head h ns
    | false =>
      obtain ⟨t, ht⟩ := lack_pre s.nmap ns [n]
      simp [ht]

theorem needed_gath (libs : List (List Deck)) (base : Int) : ∀ (N : Nat) (g : List Deck), (neededL libs N (stF base g)).1 = stF base (gathF [] libs N g).1 ∧ (neededL libs N (stF base g)).2.head? = (gathF [] libs N g).2.head?
  | 0, g => ⟨rfl, rfl⟩
  | N + 1, g => by
    have h := got base g
    rw [neededL, gathF, h.objs, lack_first h]
    have h2 := scan_first g libs (refNames g) []
    have h3 := scan_none g libs (refNames g) []
    have e : (firstL (stF base g).own libs []).or (firstF g libs (refNames g)) = firstF g libs (refNames g) := rfl
    rw [e]
    cases hs : scanF [] g libs (refNames g) [] with
    | mk ms r =>
      rw [hs] at h2 h3
      simp only at h2 h3
      subst h2
      cases hf : firstF g libs (refNames g) with
      | none =>
        refine ⟨rfl, ?_⟩
        rw [h3 hf]
        simpa using lack_head h (refNames g)
      | some o =>
        simp only
        rw [← stF_snoc]
        exact needed_gath libs base N (g ++ [o])

/-! What is defined twice. -/
theorem nodup_of {l : List DDef} (h : ∀ i, i < l.length → ∀ k, k < i → eqS (ix l k).name (ix l i).name = false) : (l.map (·.name)).Nodup := by
  rw [List.nodup_iff_pairwise_ne, List.pairwise_iff_getElem]
  intro i j hi hj hij
  simp only [List.length_map] at hi hj
  have := h j hj i hij
  simp only [ix, List.getD, List.getElem?_eq_getElem hi, List.getElem?_eq_getElem hj, Option.getD_some] at this
  simp only [List.getElem_map]
  intro e
  rw [eqS_t.2 e] at this
  cases this
theorem deckOk_names {o : Deck} (h : deckOk o = true) : (o.defs.map (·.name)).Nodup ∧ nameOk o.name = true ∧ ∀ d ∈ o.defs, nameOk d.name = true := by
  unfold deckOk at h
  simp only [Bool.and_eq_true] at h
  obtain ⟨⟨⟨⟨⟨h0, _⟩, _⟩, h2⟩, _⟩, _⟩ := h
  rw [List.all_eq_true] at h2
  refine ⟨nodup_of fun i hi k hk => ?_, h0, fun d hd => ?_⟩
  · have := h2 i (List.mem_range.2 hi)
    unfold defOk at this
    rw [Bool.and_eq_true, List.all_eq_true] at this
    simpa using this.2 k (List.mem_range.2 hk)
  · obtain ⟨i, hi, rfl⟩ := ix_of_mem hd
    have := h2 i (List.mem_range.2 hi)
    unfold defOk at this
    simp only [Bool.and_eq_true] at this
    exact this.1.1.1
theorem nameOk_ne {n : ByteArray} (h : nameOk n = true) : n ≠ ⟨#[]⟩ := by
  rintro rfl
  revert h
  decide
theorem linkDefs_nodup {o : Deck} (h : (o.defs.map (·.name)).Nodup) : ((linkDefs o).map (·.name)).Nodup := by
  unfold linkDefs
  split
  · exact h
  · rename_i hn
    rw [List.map_cons, List.nodup_cons]
    refine ⟨fun hm => hn ?_, h⟩
    obtain ⟨d, hd, he⟩ := List.mem_map.1 hm
    exact List.any_eq_true.2 ⟨d, hd, eqS_t.2 he⟩

theorem names_same (A : Int) : ∀ (ds : List DDef) (s s' : LSt), putNames A true ds s = .ok s' → putNames A false ds s = .ok s'
  | [], s, s', h => h
  | d :: ds, s, s', h => by
    rw [putNames] at h ⊢
    split at h
    · rw [if_pos rfl] at h; cases h
    · rename_i hn
      rw [if_neg hn]
      exact names_same A ds _ s' h
theorem putL_same_f {s s' : LSt} {o : Deck} (h : putL true s o = .ok s') : s' = putNF s o := by
  have h2 := putL_false s o
  unfold putL at h h2
  simp only [Bool.false_and, Bool.false_eq_true, if_false] at h2
  split at h
  · cases h
  · split at h
    · cases h
    · rename_i s1 h1
      rw [names_same _ _ _ _ h1] at h2
      simp only at h2
      rw [h] at h2
      injection h2
theorem find_congr {α : Type} {p q : α → Bool} : ∀ {l : List α}, (∀ x ∈ l, p x = q x) → l.find? p = l.find? q
  | [], _ => rfl
  | x :: l, h => by
    rw [List.find?_cons, List.find?_cons, h x List.mem_cons_self, find_congr fun y hy => h y (List.mem_cons_of_mem _ hy)]
theorem names_err (A : Int) : ∀ (ds : List DDef) (s : LSt), (ds.map (·.name)).Nodup → match ds.find? (fun d => (outerF s.nmap d.name).isSome) with
    | some d => putNames A true ds s = .error d.name
    | none => ∃ s', putNames A true ds s = .ok s'
  | [], s, _ => ⟨s, rfl⟩
  | d :: ds, s, h => by
    rw [List.map_cons, List.nodup_cons] at h
    rw [List.find?_cons, putNames]
    cases hd : (outerF s.nmap d.name).isSome with
    | true => simp
    | false =>
      have ih := names_err A ds { s with nmap := s.nmap ++ [⟨d.name, A + d.at_⟩], defs := s.defs ++ [⟨d.name, A + d.at_⟩] } h.2
      have e : ds.find? (fun x => (outerF (s.nmap ++ [⟨d.name, A + d.at_⟩]) x.name).isSome) = ds.find? fun x => (outerF s.nmap x.name).isSome := by
        refine find_congr fun x hx => ?_
        rw [outer_any, outer_any, List.any_append]
        have : eqS d.name x.name = false := by
          cases hx2 : eqS d.name x.name with
          | false => rfl
          | true => exact absurd (List.mem_map.2 ⟨x, hx, (eqS_t.1 hx2).symm⟩) h.1
        simp [this]
      simp only at ih
      rw [e] at ih
      simpa using ih

theorem double_put (base : Int) : ∀ (l g : List Deck) (met : List ByteArray), (∀ o ∈ l, deckOk o = true) → (∀ n, hasS met n = knownF g n) → match putAll (stF base g) l with
    | .error n => doubleF met l = n ∧ n ≠ ⟨#[]⟩
    | .ok s => doubleF met l = ⟨#[]⟩ ∧ s = stF base (g ++ l)
  | [], g, met, _, _ => ⟨rfl, by simp⟩
  | o :: l, g, met, hok, hm => by
    have h := got base g
    obtain ⟨hd1, hd2, hd3⟩ := deckOk_names (hok o List.mem_cons_self)
    have hown : hasS (stF base g).own o.name = true → knownF g o.name = true := by
      rw [h.own, List.any_eq_true]
      rintro ⟨x, hx, he⟩
      rw [eqS_t] at he
      unfold knownF
      exact List.any_eq_true.2 ⟨x, hx, he ▸ defines_own x⟩
    rw [putAll, doubleF, hm]
    cases hk : knownF g o.name with
    | true =>
      have : putL true (stF base g) o = .error o.name := by
        unfold putL
        rw [h.known, hk]
        simp
      rw [this]
      exact ⟨rfl, nameOk_ne hd2⟩
    | false =>
      have hown2 : hasS (stF base g).own o.name = false := by
        cases hx : hasS (stF base g).own o.name with
        | false => rfl
        | true => rw [hown hx] at hk; cases hk
      have e1 : (linkDefs o).find? (fun d => (outerF (stF base g).nmap d.name).isSome) = o.defs.find? fun d => hasS met d.name := by
        have e2 : (fun d : DDef => (outerF (stF base g).nmap d.name).isSome) = fun d => hasS met d.name := by
          funext d; rw [h.known, hm]
        rw [e2]
        unfold linkDefs
        split
        · rfl
        · rw [List.find?_cons, hm, hk]
      have hn := names_err (upF (stF base g).end_) (linkDefs o) { stF base g with own := addS (stF base g).own o.name, objs := (stF base g).objs ++ [o], places := (stF base g).places ++ [⟨o.name, upF (stF base g).end_⟩] } (linkDefs_nodup hd1)
      simp only at hn
      rw [e1] at hn
      have hp : putL true (stF base g) o = match putNames (upF (stF base g).end_) true (linkDefs o) { stF base g with own := addS (stF base g).own o.name, objs := (stF base g).objs ++ [o], places := (stF base g).places ++ [⟨o.name, upF (stF base g).end_⟩] } with
          | .error n => .error n
          | .ok s' => .ok { s' with lines := s'.lines ++ o.lines.map (fun x => ⟨upF (stF base g).end_ + x.at_, x.stmt⟩), end_ := upF (stF base g).end_ + o.code.size } := by
        rw [putL, h.known, hk, hown2]
        rfl
      simp only [Bool.false_eq_true, if_false]
      cases hf : o.defs.find? (fun d => hasS met d.name) with
      | some d =>
        rw [hf] at hn
        simp only at hn
        rw [hn] at hp
        rw [hp]
        exact ⟨rfl, nameOk_ne (hd3 d (List.mem_of_find?_eq_some hf))⟩
      | none =>
        rw [hf] at hn
        simp only at hn
        obtain ⟨s', hs'⟩ := hn
        rw [hs'] at hp
        have hs := putL_same_f hp
        have hp2 : putL true (stF base g) o = .ok (putNF (stF base g) o) := by rw [hp]; exact congrArg _ hs
        rw [hp2]
        simp only
        rw [← stF_snoc]
        have := double_put base l (g ++ [o]) (meets met o) (fun x hx => hok x (List.mem_cons_of_mem _ hx)) fun n => by
          have : hasS (meets met o) n = (hasS met n || definesF o n) := by
            unfold meets definesF
            generalize defsF o = ds
            clear hm hf hs hs' hp hp2 e1
            induction ds generalizing met with
            | nil => simp
            | cons d ds ih => rw [List.foldl_cons, ih, hasS_addS, List.any_cons, Bool.or_assoc]
          rw [this, hm]
          unfold knownF; simp
        rw [List.append_assoc] at this
        exact this
end Go.Pm

/- LkC30: the two linkers make the same image. -/
namespace Go.Pm
open Go Go.Proofs
attribute [-simp] List.getElem?_map List.length_flatten

theorem snoc_ind {α : Type} {P : List α → Prop} (h0 : P []) (hs : ∀ l x, P l → P (l ++ [x])) (l : List α) : P l := by
  have : ∀ r : List α, P r.reverse := by
    intro r
    induction r with
    | nil => exact h0
    | cons x r ih => rw [List.reverse_cons]; exact hs _ _ ih
  have h := this l.reverse
  rwa [List.reverse_reverse] at h

/-! Bytes written into a part. -/
theorem splice_mid {X C Y s : List UInt8} {p : Nat} (h : p + s.length ≤ C.length) : splice (X ++ C ++ Y) (X.length + p) s = X ++ splice C p s ++ Y := by
  unfold splice
  rw [List.append_assoc X C Y, List.take_append, List.take_of_length_le (l := X) (by omega), Nat.add_sub_cancel_left, List.take_append_of_le_length (by omega)]
  rw [List.drop_append, List.drop_eq_nil_of_le (by omega), List.nil_append, show X.length + p + s.length - X.length = p + s.length by omega, List.drop_append_of_le_length (by omega)]
  simp
theorem patch_mid {nm : List DDef} {X Y : List UInt8} : ∀ {rs : List DRef} {C : List UInt8}, (∀ r ∈ rs, r.at_.toNat + 4 ≤ C.length) → patchRefs nm X.length rs (X ++ C ++ Y) = X ++ patchRefs nm 0 rs C ++ Y
  | [], C, _ => rfl
  | r :: rs, C, h => by
    have h0 := h r List.mem_cons_self
    have hl : ∀ n : Int, r.at_.toNat + (fourL n).length ≤ C.length := fun n => h0
    rw [patchRefs, patchRefs, splice_mid (hl _), Nat.zero_add]
    exact patch_mid fun x hx => by rw [splice_len (hl _)]; exact h x (List.mem_cons_of_mem _ hx)
theorem splice_pre {P Y s : List UInt8} {p : Nat} (h : p + s.length ≤ P.length) : splice (P ++ Y) p s = splice P p s ++ Y := by
  have := splice_mid (X := []) (Y := Y) h
  simpa using this
theorem patch_pre {nm : List DDef} {a : Nat} {Y : List UInt8} : ∀ {rs : List DRef} {P : List UInt8}, (∀ r ∈ rs, a + r.at_.toNat + 4 ≤ P.length) → patchRefs nm a rs (P ++ Y) = patchRefs nm a rs P ++ Y
  | [], P, _ => rfl
  | r :: rs, P, h => by
    have h0 := h r List.mem_cons_self
    have hl : ∀ n : Int, a + r.at_.toNat + (fourL n).length ≤ P.length := fun n => h0
    rw [patchRefs, patchRefs, splice_pre (hl _)]
    exact patch_pre fun x hx => by rw [splice_len (hl _)]; exact h x (List.mem_cons_of_mem _ hx)

def patchL (nm : List DDef) (base : Int) : List (Deck × Int) → List UInt8 → List UInt8
  | [], b => b
  | (o, a) :: l, b => patchL nm base l (patchRefs nm (a - base).toNat o.refs b)
theorem patchL_snoc (nm : List DDef) (base : Int) (o : Deck) (a : Int) : ∀ (l : List (Deck × Int)) (b : List UInt8), patchL nm base (l ++ [(o, a)]) b = patchRefs nm (a - base).toNat o.refs (patchL nm base l b)
  | [], _ => rfl
  | (_, _) :: l, _ => patchL_snoc nm base o a l _
theorem place_snoc (nm : List DDef) (base : Int) (o : Deck) (d : DDef) : ∀ (l : List (Deck × DDef)) (b : List UInt8), placeObjs nm base (l ++ [(o, d)]) b = patchRefs nm (d.at_ - base).toNat o.refs (splice (placeObjs nm base l b) (d.at_ - base).toNat o.code.data.toList)
  | [], _ => rfl
  | (_, _) :: l, _ => place_snoc nm base o d l _
theorem patchL_pre {nm : List DDef} {base : Int} {Y : List UInt8} : ∀ {l : List (Deck × Int)} {P : List UInt8}, (∀ x ∈ l, ∀ r ∈ x.1.refs, (x.2 - base).toNat + r.at_.toNat + 4 ≤ P.length) → patchL nm base l (P ++ Y) = patchL nm base l P ++ Y
  | [], P, _ => rfl
  | (o, a) :: l, P, h => by
    have h0 := h (o, a) List.mem_cons_self
    rw [patchL, patchL, patch_pre h0]
    exact patchL_pre fun x hx r hr => by rw [patch_len h0]; exact h x (List.mem_cons_of_mem _ hx) r hr

theorem setFour_list (c : ByteArray) (p : Nat) (n : Int) : (setFour c p n).data.toList = splice c.data.toList p (fourL n) := by
  unfold setFour splice fourF fourL
  simp [ByteArray.data_append, ByteArray.data_extract]
  exact List.take_of_length_le (by simp)
theorem patchR_list {nm defs : List DDef} (hn : ∀ n, findR [] defs n = (outerF nm n).getD 0) {off : Int} (h0 : 0 ≤ off) : ∀ {rs : List DRef} {c : ByteArray}, (∀ r ∈ rs, 0 ≤ r.at_) → (patchR [] defs off rs c).data.toList = patchRefs nm off.toNat rs c.data.toList
  | [], c, _ => rfl
  | r :: rs, c, h => by
    have hr := h r List.mem_cons_self
    rw [patchR, patchRefs, patchR_list hn h0 fun x hx => h x (List.mem_cons_of_mem _ hx), setFour_list, hn, Int.toNat_add h0 hr]
theorem patchAll_list {nm defs : List DDef} (hn : ∀ n, findR [] defs n = (outerF nm n).getD 0) {base : Int} : ∀ {l : List (Deck × Int)} {c : ByteArray}, (∀ x ∈ l, base ≤ x.2 ∧ ∀ r ∈ x.1.refs, 0 ≤ r.at_) → (patchAllR [] defs base l c).data.toList = patchL nm base l c.data.toList
  | [], c, _ => rfl
  | (o, a) :: l, c, h => by
    obtain ⟨h1, h2⟩ := h (o, a) List.mem_cons_self
    have h1 : base ≤ a := h1
    rw [patchAllR, patchL, patchAll_list hn fun x hx => h x (List.mem_cons_of_mem _ hx), patchR_list hn (by omega) h2]

/-! Names, each once. -/
theorem outer_of_mem {n : ByteArray} {v : Int} : ∀ {l : List DDef}, (l.map (·.name)).Nodup → (∃ d ∈ l, d.name = n ∧ d.at_ = v) → outerF l n = some v
  | [], _, ⟨d, hd, _⟩ => by cases hd
  | x :: l, h, ⟨d, hd, e1, e2⟩ => by
    rw [List.map_cons, List.nodup_cons] at h
    unfold outerF
    rw [List.find?_cons]
    cases hx : eqS x.name n with
    | true =>
      rcases List.mem_cons.1 hd with rfl | hd
      · simp [e2]
      · exact absurd (List.mem_map.2 ⟨d, hd, e1.trans (eqS_t.1 hx).symm⟩) h.1
    | false =>
      rcases List.mem_cons.1 hd with rfl | hd
      · rw [eqS_t.2 e1] at hx; cases hx
      · exact outer_of_mem h.2 ⟨d, hd, e1, e2⟩
theorem outer_perm {l l' : List DDef} (hp : l.Perm l') (h : (l'.map (·.name)).Nodup) (n : ByteArray) : outerF l n = outerF l' n := by
  have h2 : (l.map (·.name)).Nodup := (hp.map _).nodup_iff.2 h
  cases hx : outerF l' n with
  | some v =>
    obtain ⟨d, hd, e1, e2⟩ := outerF_mem hx
    exact outer_of_mem h2 ⟨d, hp.mem_iff.2 hd, e1, e2⟩
  | none =>
    cases hy : outerF l n with
    | none => rfl
    | some v =>
      obtain ⟨d, hd, e1, _⟩ := outerF_mem hy
      exact absurd (List.mem_map.2 ⟨d, hp.mem_iff.1 hd, e1⟩) (outerF_none hx)

theorem definedF_there {l : List DDef} {d : DDef} (hs : l.Pairwise LtD) (h : d.name ∈ l.map (·.name)) : definedF l d = l := by
  obtain ⟨x, hx, he⟩ := List.mem_map.1 h
  have hsp : l = l.take (insPos l d.name) ++ l.drop (insPos l d.name) := (List.take_append_drop _ _).symm
  have hirr : ltS d.name d.name = false := ltS_irrefl _
  rw [hsp] at hx
  rcases List.mem_append.1 hx with hx | hx
  · have := take_while_all (p := fun x : DDef => ltS x.name d.name) (l := l) x (by exact hx)
    rw [he, hirr] at this; cases this
  · cases hdr : l.drop (insPos l d.name) with
    | nil => rw [hdr] at hx; cases hx
    | cons y r =>
      have hy : ltS y.name d.name = false := drop_while_head (p := fun x : DDef => ltS x.name d.name) (l := l) (by exact hdr)
      have hlt : insPos l d.name < l.length := by
        have := congrArg List.length hdr
        simp at this; omega
      have hix : ix l (insPos l d.name) = y := by
        have := drop_ix hlt
        rw [hdr] at this
        injection this with h1 _
        exact h1.symm
      have hyx : y.name = d.name := by
        rw [hdr] at hx
        rcases List.mem_cons.1 hx with rfl | hx
        · exact he
        · have hs2 : (y :: r).Pairwise LtD := by rw [← hdr]; exact hs.drop
          have := (List.pairwise_cons.1 hs2).1 x hx
          unfold LtD at this
          rw [he, hy] at this; cases this
      unfold definedF
      rw [if_pos ⟨hlt, by rw [hix]; exact eqS_t.2 hyx⟩]

def shD (A : Int) (d : DDef) : DDef := ⟨d.name, A + d.at_⟩
theorem addDefs_perm (A : Int) : ∀ (ds acc : List DDef), acc.Pairwise LtD → (ds.map (·.name)).Nodup → (addDefs A ds acc).Pairwise LtD ∧ (addDefs A ds acc).Perm (acc ++ (ds.filter fun d => !(outerF acc d.name).isSome).map (shD A))
  | [], acc, h, _ => ⟨h, by simp [addDefs]⟩
  | d :: ds, acc, h, hn => by
    rw [List.map_cons, List.nodup_cons] at hn
    have e : addDefs A (d :: ds) acc = addDefs A ds (definedF acc (shD A d)) := rfl
    rw [e]
    obtain ⟨h1, h2⟩ := addDefs_perm A ds (definedF acc (shD A d)) (definedF_sorted h) hn.2
    refine ⟨h1, h2.trans ?_⟩
    cases hd : (outerF acc d.name).isSome with
    | true =>
      obtain ⟨v, hv⟩ := Option.isSome_iff_exists.1 hd
      obtain ⟨x, hx, e1, _⟩ := outerF_mem hv
      rw [definedF_there (d := shD A d) h (List.mem_map.2 ⟨x, hx, e1⟩), List.filter_cons, if_neg (by simp [hd])]
    | false =>
      have hno : outerF acc d.name = none := by simpa using hd
      have hp := definedF_perm (l := acc) (d := shD A d) (outerF_none hno)
      have hf : ds.filter (fun x => !(outerF (definedF acc (shD A d)) x.name).isSome) = ds.filter fun x => !(outerF acc x.name).isSome := by
        refine List.filter_congr fun x hx => ?_
        rw [outer_any, hp.any_eq, List.any_append, ← outer_any]
        have : eqS (shD A d).name x.name = false := by
          cases hx2 : eqS (shD A d).name x.name with
          | false => rfl
          | true => exact absurd (List.mem_map.2 ⟨x, hx, (eqS_t.1 hx2).symm⟩) hn.1
        simp [this]
      rw [hf, List.filter_cons, if_pos (by simp [hd]), List.map_cons]
      have := hp.append_right ((ds.filter fun x => !(outerF acc x.name).isSome).map (shD A))
      simpa using this
theorem names_false (A : Int) : ∀ (ds : List DDef) (s : LSt), (ds.map (·.name)).Nodup → putNames A false ds s = .ok { s with nmap := s.nmap ++ (ds.filter fun d => !(outerF s.nmap d.name).isSome).map (shD A), defs := s.defs ++ (ds.filter fun d => !(outerF s.nmap d.name).isSome).map (shD A) }
  | [], s, _ => by simp [putNames]
  | d :: ds, s, hn => by
    rw [List.map_cons, List.nodup_cons] at hn
    rw [putNames]
    cases hd : (outerF s.nmap d.name).isSome with
    | true =>
      rw [if_pos rfl, if_neg (by simp), names_false A ds s hn.2, List.filter_cons, if_neg (by simp [hd])]
    | false =>
      have hf : ds.filter (fun x => !(outerF (s.nmap ++ [⟨d.name, A + d.at_⟩]) x.name).isSome) = ds.filter fun x => !(outerF s.nmap x.name).isSome := by
        refine List.filter_congr fun x hx => ?_
        rw [outer_any, List.any_append, ← outer_any]
        have : eqS d.name x.name = false := by
          cases hx2 : eqS d.name x.name with
          | false => rfl
          | true => exact absurd (List.mem_map.2 ⟨x, hx, (eqS_t.1 hx2).symm⟩) hn.1
        simp [this]
      rw [if_neg (by simp), names_false A ds _ hn.2]
      simp only
      rw [hf, List.filter_cons, if_pos (by simp [hd])]
      simp [shD]

/-! The two states side by side. -/
def padN (n : Nat) : Nat := (8 - n % 8) % 8
def codeP (nm : List DDef) (o : Deck) : List UInt8 := patchRefs nm 0 o.refs o.code.data.toList
def stepK (nm : List DDef) (c : List UInt8) (o : Deck) : List UInt8 := c ++ List.replicate (padN c.length) 0 ++ codeP nm o
def allK (nm : List DDef) (g : List Deck) : List UInt8 := g.foldl (stepK nm) []
theorem allK_snoc (nm : List DDef) (g : List Deck) (o : Deck) : allK nm (g ++ [o]) = stepK nm (allK nm g) o := by
  unfold allK; rw [List.foldl_append]; rfl
def rF (base : Int) (g : List Deck) : RSt := putAllR base .start g
theorem rF_snoc (base : Int) (g : List Deck) (o : Deck) : rF base (g ++ [o]) = putR base (rF base g) o := by
  unfold rF putAllR; rw [List.foldl_append]; rfl

structure DeckFine (o : Deck) : Prop where
  fit : o.Fit
  refs : RefsFit o
  names : (o.defs.map (·.name)).Nodup

structure Both (base : Int) (g : List Deck) : Prop where
  good : (stF base g).Good base
  end_ : (stF base g).end_ = base + (rF base g).code.size
  names : (stF base g).places = (rF base g).names
  starts : (rF base g).starts = (stF base g).places.map (·.at_)
  lines : (stF base g).lines = (rF base g).lines
  sorted : (rF base g).defs.Pairwise LtD
  perm : (rF base g).defs.Perm (stF base g).defs
  klen : ∀ nm, (allK nm g).length = (rF base g).code.size
  codeL : ∀ nm T, (rF base g).code.size ≤ T → placeObjs nm base (g.zip (stF base g).places) (List.replicate T 0) = allK nm g ++ List.replicate (T - (rF base g).code.size) 0
  codeR : ∀ nm, patchL nm base (g.zip (rF base g).starts) (rF base g).code.data.toList = allK nm g

theorem zip_ix {α β : Type} [Inhabited α] [Inhabited β] {a : List α} {b : List β} (hl : b.length = a.length) {x : α × β} (h : x ∈ a.zip b) : ∃ i, i < a.length ∧ x = (ix a i, ix b i) := by
  obtain ⟨i, hi, he⟩ := List.getElem_of_mem h
  rw [List.length_zip, hl, Nat.min_self] at hi
  refine ⟨i, hi, ?_⟩
  rw [← he]
  have h1 : i < b.length := by omega
  simp [ix, List.getD, hi, h1]
theorem ix_map {α β : Type} [Inhabited α] [Inhabited β] {f : α → β} {l : List α} {i : Nat} (h : i < l.length) : ix (l.map f) i = f (ix l i) := by
  simp [ix, List.getD, h]
theorem codeP_len {nm : List DDef} {o : Deck} (h : RefsFit o) : (codeP nm o).length = o.code.size := by
  unfold codeP
  rw [patch_len fun r hr => ?_]
  · simp
  · have := h r hr
    simp; omega

theorem putNF_defs {s : LSt} {o : Deck} (h : (o.defs.map (·.name)).Nodup) : (putNF s o).defs = s.defs ++ ((linkDefs o).filter fun d => !(outerF s.nmap d.name).isSome).map (shD (upF s.end_)) := by
  have hp := putL_false s o
  unfold putL at hp
  simp only [Bool.false_and, Bool.false_eq_true, if_false] at hp
  rw [names_false _ _ _ (linkDefs_nodup h)] at hp
  injection hp with hp
  rw [← hp]

theorem both (base : Int) (h0 : 0 ≤ base) (h1 : base ≤ 65536) (h8 : base % 8 = 0) (g : List Deck) : (∀ o ∈ g, DeckFine o) → g.length ≤ 2000000 → Both base g := by
  refine snoc_ind (P := fun g => (∀ o ∈ g, DeckFine o) → g.length ≤ 2000000 → Both base g) ?_ ?_ g
  · intro _ _
    refine ⟨LSt.good_start h0 h1, ?_, rfl, rfl, rfl, List.Pairwise.nil, List.Perm.refl _, fun nm => rfl, fun nm T _ => ?_, fun nm => rfl⟩
    · show base = base + (((⟨#[]⟩ : ByteArray).size : Nat) : Int)
      have : (⟨#[]⟩ : ByteArray).size = 0 := rfl
      rw [this]; omega
    · show List.replicate T 0 = [] ++ List.replicate (T - 0) 0
      simp
  · intro g o ih hf hl
    rw [List.length_append, List.length_singleton] at hl
    have b := ih (fun x hx => hf x (List.mem_append_left _ hx)) (by omega)
    have ho := hf o (by simp)
    have hgot := got base g
    have hpl := b.good.small.places
    rw [hgot.objs] at hpl
    have hup : upF (stF base g).end_ = base + (padF (rF base g).code).size := by
      rw [padF_size, b.end_, upF]; omega
    have hgood : (putNF (stF base g) o).Good base := putL_good b.good ho.fit ho.refs (by rw [hgot.objs]; omega) (putL_false _ _)
    obtain ⟨e1, e2, e3, e4, e5, _⟩ := putL_same (putL_false (stF base g) o)
    obtain ⟨at_, hat⟩ : ∃ at_, at_ = base + (padF (rF base g).code).size := ⟨_, rfl⟩
    rw [← hat] at hup
    have hrl : (rF base g).starts.length = g.length := by rw [b.starts, List.length_map, hpl]
    have hpn : padN (rF base g).code.size + (rF base g).code.size = (padF (rF base g).code).size := by
      rw [padF_size, padN]; omega
    have hpc : (padF (rF base g).code).data.toList = (rF base g).code.data.toList ++ List.replicate (padN (rF base g).code.size) 0 := by
      unfold padF zeros padN
      rw [ByteArray.data_append]; simp
    have hoff : (at_ - base).toNat = (padF (rF base g).code).size := by omega
    have hkl := b.klen
    have hcs : (rF base (g ++ [o])).code.size = (padF (rF base g).code).size + o.code.size := by
      rw [rF_snoc]; simp [putR, ByteArray.size_append]
    have hsort := addDefs_perm at_ (defsF o) (rF base g).defs b.sorted (((linkDefs_perm o).map _).nodup_iff.1 (linkDefs_nodup ho.names))
    have hX : ∀ nm, (allK nm g ++ List.replicate (padN (allK nm g).length) 0).length = (padF (rF base g).code).size := by
      intro nm; rw [List.length_append, List.length_replicate, hkl]; omega
    have hrange : ∀ r ∈ o.refs, r.at_.toNat + 4 ≤ o.code.data.toList.length := by
      intro r hr
      have := ho.refs r hr
      simp; omega
    have hzin : ∀ x ∈ g.zip (rF base g).starts, base ≤ x.2 ∧ (x.2 - base).toNat + x.1.code.size ≤ (rF base g).code.size ∧ RefsFit x.1 := by
      intro x hx
      obtain ⟨i, hi, rfl⟩ := zip_ix hrl hx
      have hgp := b.good.places i (by rw [hgot.objs]; exact hi)
      rw [hgot.objs, b.end_] at hgp
      have : ix (rF base g).starts i = (ix (stF base g).places i).at_ := by rw [b.starts, ix_map (by omega)]
      refine ⟨by simp only; omega, by simp only; omega, (hf _ (List.mem_append_left _ (ix_mem hi))).refs⟩
    refine ⟨by rw [stF_snoc]; exact hgood, ?_, ?_, ?_, ?_, ?_, ?_, fun nm => ?_, fun nm T hT => ?_, fun nm => ?_⟩
    · rw [stF_snoc, e5, hcs, hup]; omega
    · rw [stF_snoc, rF_snoc, e3, b.names, hup, hat]; rfl
    · rw [stF_snoc, rF_snoc, e3, List.map_append, ← b.starts, hup, hat]; rfl
    · rw [stF_snoc, rF_snoc, e4, b.lines, hup, hat]; rfl
    · rw [rF_snoc]
      show (addDefs (base + (padF (rF base g).code).size) (defsF o) (rF base g).defs).Pairwise LtD
      rw [← hat]; exact hsort.1
    · rw [rF_snoc, stF_snoc, putNF_defs ho.names, hup]
      show (addDefs (base + (padF (rF base g).code).size) (defsF o) (rF base g).defs).Perm _
      rw [← hat]
      refine hsort.2.trans ?_
      have hf1 : (fun d : DDef => !(outerF (rF base g).defs d.name).isSome) = fun d => !(outerF (stF base g).nmap d.name).isSome := by
        funext d
        rw [b.good.same, outer_any, outer_any, b.perm.any_eq]
      rw [hf1]
      exact b.perm.append (((linkDefs_perm o).symm.filter _).map _)
    · rw [allK_snoc, stepK, List.length_append, hX, codeP_len ho.refs, hcs]
    · rw [stF_snoc, e3, hup, List.zip_append (by rw [hpl]), List.zip_cons_cons, List.zip_nil_right, place_snoc, b.codeL nm T (by omega), allK_snoc, stepK]
      simp only
      rw [hoff]
      have eT : List.replicate (T - (rF base g).code.size) (0 : UInt8) = List.replicate (padN (allK nm g).length) 0 ++ (List.replicate o.code.size 0 ++ List.replicate (T - (rF base (g ++ [o])).code.size) 0) := by
        rw [List.replicate_append_replicate, List.replicate_append_replicate, hkl]
        congr 1
        omega
      rw [eT, ← List.append_assoc, ← List.append_assoc]
      have hx := hX nm
      generalize allK nm g ++ List.replicate (padN (allK nm g).length) (0 : UInt8) = X at *
      rw [← hx]
      have hsp := splice_mid (X := X) (C := List.replicate o.code.size (0 : UInt8)) (Y := List.replicate (T - (rF base (g ++ [o])).code.size) 0) (s := o.code.data.toList) (p := 0) (by simp)
      rw [Nat.add_zero] at hsp
      rw [hsp]
      have hfull : splice (List.replicate o.code.size (0 : UInt8)) 0 o.code.data.toList = o.code.data.toList := by
        unfold splice; simp
      rw [hfull, patch_mid hrange]
      rfl
    · rw [rF_snoc, allK_snoc, stepK]
      have e6 : (putR base (rF base g) o).starts = (rF base g).starts ++ [at_] := by rw [hat]; rfl
      have e7 : (putR base (rF base g) o).code.data.toList = (rF base g).code.data.toList ++ (List.replicate (padN (rF base g).code.size) 0 ++ o.code.data.toList) := by
        show (padF (rF base g).code ++ o.code).data.toList = _
        rw [ByteArray.data_append, Array.toList_append, hpc, List.append_assoc]
      rw [e6, e7, List.zip_append (by rw [hrl]), List.zip_cons_cons, List.zip_nil_right, patchL_snoc, patchL_pre, b.codeR nm, hoff, ← List.append_assoc]
      · have hx := hX nm
        rw [← hkl nm]
        generalize allK nm g ++ List.replicate (padN (allK nm g).length) (0 : UInt8) = X at *
        rw [← hx]
        have := patch_mid (nm := nm) (X := X) (Y := []) hrange
        rw [List.append_nil, List.append_nil] at this
        exact this
      · intro x hx r hr
        obtain ⟨h2, h3, h4⟩ := hzin x hx
        have := h4 r hr
        simp; omega

theorem same_image (base : Int) (h0 : 0 ≤ base) (h1 : base ≤ 65536) (h8 : base % 8 = 0) (g : List Deck) (hf : ∀ o ∈ g, DeckFine o) (hl : g.length ≤ 2000000) : imgR base [] g = imgOf (stF base g) base ∧ (imgR base [] g).base = base ∧ ((imgR base [] g).code.size : Int) = (stF base g).end_ - base := by
  have b := both base h0 h1 h8 g hf hl
  have hgot := got base g
  have hdist := b.good.distinct
  have hd : (rF base g).defs = sortD (stF base g).defs := sorted_unique b.sorted (sortD_sorted _) (b.perm.trans (sortD_perm hdist).symm)
  have hrl : (rF base g).starts.length = g.length := by
    have hpl := b.good.small.places
    rw [hgot.objs] at hpl
    rw [b.starts, List.length_map, hpl]
  have hcode : patchAllR [] (rF base g).defs base (g.zip (rF base g).starts) (rF base g).code = ⟨(imageCode (stF base g) base).toArray⟩ := by
    have hn : ∀ n, findR [] (rF base g).defs n = (outerF (stF base g).nmap n).getD 0 := by
      intro n
      rw [b.good.same, ← outer_perm b.perm hdist]
      rfl
    apply ByteArray.ext
    rw [← Array.toList_inj, patchAll_list hn, b.codeR]
    · show _ = (imageCode (stF base g) base)
      unfold imageCode
      rw [hgot.objs, b.codeL _ _ (by have := b.end_; omega), b.end_]
      have : (base + ((rF base g).code.size : Int) - base).toNat - (rF base g).code.size = 0 := by omega
      rw [this]; simp
    · intro x hx
      obtain ⟨i, hi, rfl⟩ := zip_ix hrl hx
      have hgp := b.good.places i (by rw [hgot.objs]; exact hi)
      have hpl := b.good.small.places
      rw [hgot.objs] at hpl
      have : ix (rF base g).starts i = (ix (stF base g).places i).at_ := by rw [b.starts, ix_map (by omega)]
      refine ⟨by simp only; omega, fun r hr => ?_⟩
      have := (hf _ (ix_mem hi)).refs r hr
      omega
  have he : imgR base [] g = imgOf (stF base g) base := by
    show (⟨base, patchAllR [] (rF base g).defs base (g.zip (rF base g).starts) (rF base g).code, (rF base g).defs, (rF base g).lines, (rF base g).names⟩ : Img) = ⟨base, ⟨(imageCode (stF base g) base).toArray⟩, sortD (stF base g).defs, (stF base g).lines, (stF base g).places⟩
    rw [hcode, hd, b.lines, b.names]
  refine ⟨he, rfl, ?_⟩
  rw [he]
  show ((imageCode (stF base g) base).toArray.size : Int) = _
  rw [List.size_toArray, imageCode_len b.good]
  have := b.good.base1
  omega
end Go.Pm

/- LkC31: the two linkers compute the same; a linked image is well formed. -/
namespace Go.Pm
open Go Go.Proofs
attribute [-simp] List.getElem?_map List.length_flatten

def linkR (l : List Deck) (libs : List (List Deck)) (base : Int) : LRes :=
  if allF l libs = false then .bad 1 ⟨#[]⟩ else if baseF base = false then .bad 7 ⟨#[]⟩ else
  if doubleF [] l ≠ ⟨#[]⟩ then .bad 6 (doubleF [] l) else
  match gathF [] libs (libs.flatten.length + 1) l with
  | (_, n :: _) => .bad 5 n
  | (g, []) => if 65536 < base + (imgR base [] g).code.size then .bad 11 ⟨#[]⟩ else .good (imgR base [] g)

theorem baseF_t {n : Int} (h : baseF n = true) : 0 ≤ n ∧ n ≤ 65528 ∧ n % 8 = 0 := by
  unfold baseF at h
  rw [Bool.and_eq_true] at h
  have h1 := withinF_t h.1
  have h2 := eqI_t.1 h.2
  rw [Int.tmod_eq_emod_of_nonneg h1.1] at h2
  exact ⟨h1.1, h1.2, h2⟩
theorem allF_t {l : List Deck} {libs : List (List Deck)} (hl : SmallL l) (hb : SmallLL libs) (h : allF l libs = true) : (∀ o ∈ l, o.Small ∧ deckOk o = true) ∧ ∀ o ∈ libs.flatten, o.Small ∧ deckOk o = true := by
  unfold allF at h
  rw [Bool.and_eq_true, List.all_eq_true, List.all_eq_true] at h
  refine ⟨fun o ho => ⟨hl.each o ho, h.1 o ho⟩, fun o ho => ?_⟩
  obtain ⟨x, hx, ho⟩ := List.mem_flatten.1 ho
  have := h.2 x hx
  rw [List.all_eq_true] at this
  exact ⟨(hb.each x hx).each o ho, this o ho⟩
theorem deck_fine {o : Deck} (h : o.Small ∧ deckOk o = true) : DeckFine o :=
  ⟨(deckOk_fit h.1 h.2).1, (deckOk_fit h.1 h.2).2, (deckOk_names h.2).1⟩

theorem gath_mem (libs : List (List Deck)) : ∀ (N : Nat) (l : List Deck), (∀ o ∈ (gathF [] libs N l).1, o ∈ l ∨ o ∈ libs.flatten) ∧ (gathF [] libs N l).1.length ≤ l.length + away libs l
  | 0, l => ⟨fun o ho => .inl ho, by simp [gathF]⟩
  | N + 1, l => by
    rw [gathF]
    cases hs : scanF [] l libs (refNames l) [] with
    | mk ms r =>
      cases r with
      | none => exact ⟨fun o ho => .inl ho, by simp⟩
      | some o =>
        obtain ⟨n, hn⟩ := scan_found hs
        obtain ⟨h1, h2⟩ := away_less hn
        obtain ⟨h3, h4⟩ := gath_mem libs N (l ++ [o])
        refine ⟨fun x hx => ?_, ?_⟩
        · rcases h3 x hx with h | h
          · rcases List.mem_append.1 h with h | h
            · exact .inl h
            · rw [List.mem_singleton.1 h]; exact .inr h2
          · exact .inr h
        · simp only [List.length_append, List.length_singleton] at h4
          simp only
          omega

/-- What was gathered. -/
structure Gath (l : List Deck) (libs : List (List Deck)) (base : Int) (g : List Deck) : Prop where
  fine : ∀ o ∈ g, o.Small ∧ deckOk o = true
  len : g.length ≤ 2000000
  image : imgR base [] g = imgOf (stF base g) base
  end_ : base + ((imgR base [] g).code.size : Int) = (stF base g).end_
theorem gath {l : List Deck} {libs : List (List Deck)} {base : Int} (hl : SmallL l) (hb : SmallLL libs) (hsum : l.length + libs.flatten.length ≤ 2000000) (h : allF l libs = true) (hbase : baseF base = true) : Gath l libs base (gathF [] libs (libs.flatten.length + 1) l).1 := by
  obtain ⟨h1, h2⟩ := allF_t hl hb h
  obtain ⟨b1, b2, b3⟩ := baseF_t hbase
  obtain ⟨h3, h4⟩ := gath_mem libs (libs.flatten.length + 1) l
  have haw : away libs l ≤ libs.flatten.length := List.length_filter_le _ _
  have hfine : ∀ o ∈ (gathF [] libs (libs.flatten.length + 1) l).1, o.Small ∧ deckOk o = true := fun o ho => (h3 o ho).elim (h1 o) (h2 o)
  obtain ⟨e1, _, e3⟩ := same_image base b1 (by omega) b3 _ (fun o ho => deck_fine (hfine o ho)) (by omega)
  exact ⟨hfine, by omega, e1, by omega⟩

theorem linkR_eq {l : List Deck} {libs : List (List Deck)} {base : Int} (hl : SmallL l) (hb : SmallLL libs) (hsum : l.length + libs.flatten.length ≤ 2000000) : linkR l libs base = linkL l libs base := by
  unfold linkR linkL
  cases h1 : allF l libs with
  | false => rfl
  | true =>
    cases h2 : baseF base with
    | false => rfl
    | true =>
      simp only [Bool.true_eq_false, if_false]
      obtain ⟨ho, _⟩ := allF_t hl hb h1
      have hd := double_put base l [] [] (fun o h => (ho o h).2) (fun n => rfl)
      rw [show stF base [] = .start base from rfl, List.nil_append] at hd
      cases hp : putAll (.start base) l with
      | error n =>
        rw [hp] at hd
        simp only at hd
        rw [if_pos (by rw [hd.1]; exact hd.2), hd.1]
      | ok s =>
        rw [hp] at hd
        simp only at hd
        obtain ⟨hd1, rfl⟩ := hd
        rw [if_neg (by rw [hd1]; simp)]
        simp only
        obtain ⟨e1, e2⟩ := needed_gath libs base (libs.flatten.length + 1) l
        have hg := gath hl hb hsum h1 h2
        cases hn : neededL libs (libs.flatten.length + 1) (stF base l) with
        | mk s ms =>
          cases hgf : gathF [] libs (libs.flatten.length + 1) l with
          | mk g ms' =>
            rw [hn, hgf] at e1 e2
            rw [hgf] at hg
            simp only at e1 e2 hg
            subst e1
            cases ms with
            | nil =>
              cases ms' with
              | nil => simp only; rw [hg.end_, hg.image]
              | cons n' t => simp at e2
            | cons n t =>
              cases ms' with
              | nil => simp at e2
              | cons n' t' => simp at e2; subst e2; rfl

/-! A linked image is well formed. -/
structure LFine (s : LSt) (base : Int) : Prop where
  base_ : base ≤ s.end_
  defs : ∀ d ∈ s.defs, nameOk d.name = true ∧ base ≤ d.at_ ∧ d.at_ ≤ s.end_
  places : ∀ d ∈ s.places, nameOk d.name = true ∧ base ≤ d.at_ ∧ d.at_ ≤ s.end_ ∧ d.at_ % 8 = 0
  pless : s.places.Pairwise fun a b => a.at_ ≤ b.at_
  lines : ∀ d ∈ s.lines, base ≤ d.at_ ∧ d.at_ < s.end_
  lless : s.lines.Pairwise fun a b => a.at_ < b.at_

theorem pair_of {α : Type} [Inhabited α] {R : α → α → Prop} (ht : ∀ a b c, R a b → R b c → R a c) {l : List α} (h : ∀ i, i + 1 < l.length → R (ix l i) (ix l (i + 1))) : l.Pairwise R := by
  have hall : ∀ n i, i + n + 1 < l.length → R (ix l i) (ix l (i + n + 1)) := by
    intro n
    induction n with
    | zero => exact fun i hi => h i hi
    | succ n ih => exact fun i hi => ht _ _ _ (ih i (by omega)) (h (i + n + 1) (by omega))
  rw [List.pairwise_iff_getElem]
  intro i j hi hj hij
  have := hall (j - i - 1) i (by omega)
  rw [show i + (j - i - 1) + 1 = j by omega] at this
  simpa [ix, List.getD, hi, hj] using this
theorem pair_ix {α : Type} [Inhabited α] {R : α → α → Prop} {l : List α} (h : l.Pairwise R) {i : Nat} (hi : i + 1 < l.length) : R (ix l i) (ix l (i + 1)) := by
  rw [List.pairwise_iff_getElem] at h
  have := h i (i + 1) (by omega) hi (by omega)
  have h1 : i < l.length := by omega
  simpa [ix, List.getD, hi, h1] using this

theorem deckOk_lines {o : Deck} (h : deckOk o = true) : (∀ d ∈ o.lines, 0 ≤ d.at_ ∧ d.at_ < o.code.size) ∧ o.lines.Pairwise (fun a b => a.at_ < b.at_) ∧ ∀ d ∈ o.defs, 0 ≤ d.at_ ∧ d.at_ ≤ o.code.size := by
  unfold deckOk at h
  simp only [Bool.and_eq_true] at h
  obtain ⟨⟨⟨⟨⟨_, _⟩, _⟩, h2⟩, _⟩, h4⟩ := h
  rw [List.all_eq_true] at h2 h4
  refine ⟨fun d hd => ?_, pair_of (R := fun a b : DLine => a.at_ < b.at_) (fun _ _ _ h1 h2 => Int.lt_trans h1 h2) fun i hi => ?_, fun d hd => ?_⟩
  · obtain ⟨i, hi, rfl⟩ := ix_of_mem hd
    have := h4 i (List.mem_range.2 hi)
    unfold lineOk at this
    simp only [Bool.and_eq_true] at this
    have := withinF_t this.1.1.1
    omega
  · have := h4 (i + 1) (List.mem_range.2 hi)
    unfold lineOk at this
    simp only [Bool.and_eq_true] at this
    have h5 := this.2
    have h6 : ltI 0 ↑(i + 1) = true := ltI_t.2 (by omega)
    rw [h6, Bool.true_and] at h5
    simp only [Bool.not_eq_true', Nat.add_sub_cancel] at h5
    exact leI_f.1 h5
  · obtain ⟨i, hi, rfl⟩ := ix_of_mem hd
    have := h2 i (List.mem_range.2 hi)
    unfold defOk at this
    simp only [Bool.and_eq_true] at this
    have := withinF_t this.1.1.2
    omega
theorem linkDefs_fine {o : Deck} (h : deckOk o = true) : ∀ d ∈ linkDefs o, nameOk d.name = true ∧ 0 ≤ d.at_ ∧ d.at_ ≤ o.code.size := by
  obtain ⟨_, h1, h2⟩ := deckOk_names h
  obtain ⟨_, _, h3⟩ := deckOk_lines h
  intro d hd
  unfold linkDefs at hd
  split at hd
  · exact ⟨h2 d hd, h3 d hd⟩
  · rcases List.mem_cons.1 hd with rfl | hd
    · exact ⟨h1, Int.le_refl _, by simp⟩
    · exact ⟨h2 d hd, h3 d hd⟩

theorem fine_snoc {s : LSt} {base : Int} {o : Deck} (h : LFine s base) (ho : deckOk o = true) : LFine (putNF s o) base := by
  obtain ⟨e1, e2, e3, e4, e5, _⟩ := putL_same (putL_false s o)
  obtain ⟨n1, n2, n3⟩ := deckOk_names ho
  obtain ⟨l1, l2, l3⟩ := deckOk_lines ho
  have hd := putNF_defs (s := s) n1
  have hup : upF s.end_ = (s.end_ + 7) / 8 * 8 := rfl
  have hu1 : s.end_ ≤ upF s.end_ := by rw [hup]; omega
  have hu2 : upF s.end_ % 8 = 0 := by rw [hup]; omega
  have hb := h.base_
  refine ⟨by rw [e5]; omega, fun d hm => ?_, fun d hm => ?_, ?_, fun d hm => ?_, ?_⟩
  · rw [hd] at hm
    rw [e5]
    rcases List.mem_append.1 hm with hm | hm
    · have := h.defs d hm
      exact ⟨this.1, this.2.1, by omega⟩
    · obtain ⟨x, hx, rfl⟩ := List.mem_map.1 hm
      have := linkDefs_fine ho x (List.mem_filter.1 hx).1
      exact ⟨this.1, by simp only [shD]; omega, by simp only [shD]; omega⟩
  · rw [e3] at hm
    rw [e5]
    rcases List.mem_append.1 hm with hm | hm
    · have := h.places d hm
      exact ⟨this.1, this.2.1, by omega, this.2.2.2⟩
    · rw [List.mem_singleton.1 hm]
      exact ⟨n2, by simp only; omega, by simp only; omega, hu2⟩
  · rw [e3, List.pairwise_append]
    refine ⟨h.pless, by simp, fun a ha b hb => ?_⟩
    rw [List.mem_singleton.1 hb]
    have := h.places a ha
    simp only; omega
  · rw [e4] at hm
    rw [e5]
    rcases List.mem_append.1 hm with hm | hm
    · have := h.lines d hm
      omega
    · obtain ⟨x, hx, rfl⟩ := List.mem_map.1 hm
      have := l1 x hx
      simp only; omega
  · rw [e4, List.pairwise_append]
    refine ⟨h.lless, ?_, fun a ha b hb => ?_⟩
    · rw [List.pairwise_map]
      exact l2.imp fun h => by simp only; omega
    · obtain ⟨x, hx, rfl⟩ := List.mem_map.1 hb
      have h3 := h.lines a ha
      have h4 := l1 x hx
      simp only; omega
theorem fine_all {base : Int} (g : List Deck) (hf : ∀ o ∈ g, deckOk o = true) : LFine (stF base g) base := by
  revert hf
  refine snoc_ind (P := fun g => (∀ o ∈ g, deckOk o = true) → LFine (stF base g) base) ?_ ?_ g
  · intro _
    exact ⟨Int.le_refl _, by simp [stF, LSt.start], by simp [stF, LSt.start], List.Pairwise.nil, by simp [stF, LSt.start], List.Pairwise.nil⟩
  · intro g o ih hf
    rw [stF_snoc]
    exact fine_snoc (ih fun x hx => hf x (List.mem_append_left _ hx)) (hf o (by simp))

/-- What is known of a good link, by what was gathered. -/
structure LinkG (l : List Deck) (libs : List (List Deck)) (base : Int) (i : Img) (g : List Deck) : Prop where
  all : allF l libs = true
  based : baseF base = true
  double : doubleF [] l = ⟨#[]⟩
  gath : gathF [] libs (libs.flatten.length + 1) l = (g, [])
  fine : ∀ o ∈ g, o.Small ∧ deckOk o = true
  len : g.length ≤ 2000000
  end_ : (stF base g).end_ ≤ 65536
  img : i = imgOf (stF base g) base
theorem linkL_gath {l : List Deck} {libs : List (List Deck)} {base : Int} {i : Img} (hl : SmallL l) (hb : SmallLL libs) (hsum : l.length + libs.flatten.length ≤ 2000000) (h : linkL l libs base = .good i) : ∃ g, LinkG l libs base i g := by
  rw [← linkR_eq hl hb hsum] at h
  unfold linkR at h
  split at h
  · cases h
  rename_i h1
  have h1 : allF l libs = true := by simpa using h1
  split at h
  · cases h
  rename_i h2
  have h2 : baseF base = true := by simpa using h2
  split at h
  · cases h
  rename_i h3
  have hg := gath hl hb hsum h1 h2
  split at h
  · cases h
  rename_i g h4
  rw [h4] at hg
  split at h
  · cases h
  rename_i h5
  injection h with h
  have he := hg.end_
  simp only at he hg
  exact ⟨g, h1, h2, by simpa using h3, h4, hg.fine, hg.len, by omega, by rw [← h, hg.image]⟩
theorem linkG_good {l : List Deck} {libs : List (List Deck)} {base : Int} {i : Img} {g : List Deck} (h : LinkG l libs base i g) : (stF base g).Good base := by
  obtain ⟨b1, b2, b3⟩ := baseF_t h.based
  exact (both base b1 (by omega) b3 g (fun o ho => deck_fine (h.fine o ho)) h.len).good

theorem linkL_fine {l : List Deck} {libs : List (List Deck)} {base : Int} {i : Img} (hl : SmallL l) (hb : SmallLL libs) (hsum : l.length + libs.flatten.length ≤ 2000000) (h : linkL l libs base = .good i) : i.Fine := by
  have hsm := linkL_small hl hb hsum h
  obtain ⟨g, hg⟩ := linkL_gath hl hb hsum h
  have hgood := linkG_good hg
  have hf := fine_all (base := base) g fun o ho => (hg.fine o ho).2
  have hperm := sortD_perm hgood.distinct
  have he := hg.end_
  have hi := hg.img
  have hcs : base + (i.code.size : Int) = (stF base g).end_ := by
    rw [hi]
    show base + ((imageCode (stF base g) base).toArray.size : Int) = _
    rw [List.size_toArray, imageCode_len hgood]
    have := hgood.base1
    omega
  have hib : i.base = base := by rw [hi]; rfl
  have hid : i.defs = sortD (stF base g).defs := by rw [hi]; rfl
  have hil : i.lines = (stF base g).lines := by rw [hi]; rfl
  have hin : i.names = (stF base g).places := by rw [hi]; rfl
  have win : ∀ n : Int, base ≤ n → n ≤ (stF base g).end_ → withinF n i.base (i.base + i.code.size) = true := fun n h1 h2 => by
    unfold withinF
    rw [hib, hcs, Bool.and_eq_true]
    exact ⟨leI_t.2 h1, leI_t.2 h2⟩
  refine ⟨by rw [hib]; exact hg.based, by rw [hib, hcs]; exact he, hsm.defs, hsm.lines, hsm.names, fun j hj => ?_, fun j hj => ?_, fun j hj => ?_, fun j hj => ?_, fun j hj => ?_, fun j hj => ?_⟩
  · have hm := ix_mem hj
    have := hf.defs _ (hperm.mem_iff.1 (by rw [← hid]; exact hm))
    exact ⟨hsm.dname _ hm, this.1, win _ this.2.1 this.2.2⟩
  · have hs := sortD_sorted (stF base g).defs
    rw [← hid] at hs
    exact pair_ix hs hj
  · have hm := ix_mem hj
    have := hf.places _ (by rw [← hin]; exact hm)
    obtain ⟨b1, _⟩ := baseF_t hg.based
    exact ⟨hsm.nname _ hm, this.1, win _ this.2.1 this.2.2.1, eqI_t.2 (by rw [Int.tmod_eq_emod_of_nonneg (by omega)]; exact this.2.2.2)⟩
  · have hs := hf.pless
    rw [← hin] at hs
    exact ltI_f.2 (pair_ix hs hj)
  · have := hf.lines _ (by rw [← hil]; exact ix_mem hj)
    exact win _ this.1 (by omega)
  · have hs := hf.lless
    rw [← hil] at hs
    exact leI_f.2 (pair_ix hs hj)
end Go.Pm

/- LkC32: contracts: R34's Link and Move. -/
namespace Go.Pm
open Go Go.Proofs
attribute [-simp] List.getElem?_map List.length_flatten

theorem sameF_sameL (a b : Img) : sameF a b = sameL a b := by
  unfold sameF sameL
  rw [Bool.and_assoc _ (defsEq a.names b.names), Bool.and_comm (defsEq a.names b.names), ← Bool.and_assoc]

set_option maxHeartbeats 4000000 in
theorem call17 (p q : Bool) (l : List Deck) (libs : List (List Deck)) (base : Int) (hl : SmallL l) (hb : SmallLL libs) (hsum : l.length + libs.flatten.length ≤ 2000000) :
    PCalls Try.prog 17 [.list p 5 (l.map Deck.av), .list q 1 (libs.map libAV), .int .i64 base] fun out => out = .ret (linkL l libs base).av := by
  rw [← linkR_eq hl hb hsum]
  refine ok17.pcalls (by simp) ?_
  generalize hM : linkR l libs base = M
  unfold linkR at hM
  simp [c17]
  refine xcall_p (call32 p q l libs hl hb) (by simp) ?_
  cases h1 : allF l libs with
  | false =>
    rw [h1, if_pos rfl] at hM
    subst hM
    simp [cr17, LRes.av, img0]
  | true =>
    rw [h1, if_neg (by simp)] at hM
    simp
    refine xcall_p (call35 base) rfl ?_
    cases h2 : baseF base with
    | false =>
      rw [h2, if_pos rfl] at hM
      subst hM
      simp [cr17, LRes.av, img0]
    | true =>
      rw [h2, if_neg (by simp)] at hM
      simp
      refine xcall_p (call36 p l hl) (by simp) ?_
      simp
      refine br_cond rfl (fun h3 => ?_) (fun h3 => ?_)
      · have h3 : eqS (doubleF [] l) ⟨#[]⟩ = false := by simpa using h3
        rw [if_pos (fun e => by rw [e, eqS_t.2 rfl] at h3; cases h3)] at hM
        subst hM
        simp [cr17, LRes.av, img0]
      · have h3 : eqS (doubleF [] l) ⟨#[]⟩ = true := by simpa using h3
        rw [if_neg (by rw [eqS_t.1 h3]; simp)] at hM
        simp
        refine xcall_p (PCalls.sub (call37 p q true l libs [] hl hb (by simp) hsum) (Sub.cons (Sub.cons (Sub.nil (Sub.refl _))))) (by simp) ?_
        have hg := gath hl hb hsum h1 h2
        cases hgf : gathF [] libs (libs.flatten.length + 1) l with
        | mk g ms =>
          rw [hgf] at hM hg
          simp only at hM hg
          cases ms with
          | cons n t =>
            simp only at hM
            subst hM
            have hgt : ltI 0 (↑t.length + 1) = true := ltI_t.2 (by omega)
            simp [textsAV, hgt, decksAV, cr17, LRes.av, img0]
          | nil =>
            simp only at hM
            have hgt : ltI 0 0 = false := rfl
            obtain ⟨b1, b2, b3⟩ := baseF_t h2
            have hfit : ∀ o ∈ g, o.Fit ∧ RefsFit o := fun o ho => deckOk_fit (hg.fine o ho).1 (hg.fine o ho).2
            simp [textsAV, hgt, decksAV]
            refine xcall_p (PCalls.sub (call38 true true g base [] (fun o ho => (hfit o ho).1) (fun o ho => (hfit o ho).2) hg.len (by simp) b1 (by omega)) (Sub.cons (Sub.cons (Sub.nil (Sub.refl _))))) (by simp) ?_
            have hend := (both base b1 (by omega) b3 g (fun o ho => deck_fine (hg.fine o ho)) hg.len).good.small.end1
            have hobj := (got base g).objs
            have hgl := hg.len
            rw [hobj, ← hg.end_] at hend
            have hw : IntKind.i64.wrap (base + (imgR base [] g).code.size) = base + (imgR base [] g).code.size := wrap64 (by omega) (by omega)
            generalize imgR base [] g = w at *
            simp [Img.av, hw]
            refine br_cond rfl (fun h4 => ?_) (fun h4 => ?_)
            · rw [if_pos (ltI_t.1 h4)] at hM
              subst hM
              simp [cr17, LRes.av, img0]
            · rw [if_neg (by have := ltI_f.1 h4; omega)] at hM
              subst hM
              simp [cr17, LRes.av, Img.av]

set_option maxHeartbeats 4000000 in
theorem call14 (p q : Bool) (x : Img) (l : List Deck) (libs : List (List Deck)) (to_ : Int) (hl : SmallL l) (hb : SmallLL libs) (hsum : l.length + libs.flatten.length ≤ 2000000) (hx : x.Fine) (hxs : x.Small) :
    PCalls Try.prog 14 [.agg x.av, .list p 5 (l.map Deck.av), .list q 1 (libs.map libAV), .int .i64 to_] fun out => out = .ret (moveL x l libs to_).avE := by
  refine ok14.pcalls (by simp) ?_
  generalize hM : moveL x l libs to_ = M
  unfold moveL at hM
  simp [c14, Img.av]
  refine xcall_p (call31 x hx) (by simp [Img.av]) ?_
  simp
  refine xcall_p (call32 p q l libs hl hb) (by simp) ?_
  cases h1 : allF l libs with
  | false =>
    have : linkL l libs x.base = .bad 1 ⟨#[]⟩ := by unfold linkL; rw [h1, if_pos rfl]
    rw [this] at hM
    simp only at hM
    subst hM
    simp [cr14, LRes.avE, img0]
  | true =>
    simp
    refine xcall_p (call17 p q l libs x.base hl hb hsum) (by simp) ?_
    cases hw : linkL l libs x.base with
    | bad e n =>
      have he := linkL_bad hw
      have he' : eqI e 0 = false := eqI_f.2 he
      rw [hw] at hM
      simp only at hM
      subst hM
      simp [LRes.av, img0, he', cr14, LRes.avE]
    | good w =>
      rw [hw] at hM
      simp only at hM
      have hsw := linkL_small hl hb hsum hw
      have he' : eqI 0 0 = true := eqI_t.2 rfl
      simp [LRes.av, Img.av, he']
      refine xcall_p (call15 w x hsw hxs) (by simp [Img.av]) ?_
      rw [sameF_sameL]
      cases hsm : sameL w x with
      | false =>
        rw [hsm, if_neg (by simp)] at hM
        subst hM
        simp [cr14, LRes.avE, img0]
      | true =>
        rw [hsm, if_pos rfl] at hM
        simp
        refine xcall_p (call17 p q l libs to_ hl hb hsum) (by simp) ?_
        rw [hM]
        cases M with
        | bad e n => simp [LRes.av, img0, cr14, LRes.avE]
        | good w2 => simp [LRes.av, Img.av, cr14, LRes.avE]
end Go.Pm
