/- LkC30: the two linkers make the same image. -/
import Derived.Test.YtolfkdphlgkekaaGf
import Derived.Test.YtolfkdphlgkekaaGc
import Derived.Test.YtolfkdphlgkekaaRows
import Derived.ProofKit
import Derived.OpenShut
import Derived.JoinedCond
namespace Go.Pm
open Go Go.Proofs
attribute [-simp] List.getElem?_map List.length_flatten

theorem snoc_ind {α : Type} {P : List α → Prop} (h0 : P []) (hs : ∀ l x, P l → P (l ++ [x])) (l : List α) : P l := by
  have : ∀ r : List α, P r.reverse := by
    intro r
    induction r with
    | nil => exact h0
    | cons x r ih => rw [List.reverse_cons]; exact hs _ _ ih
  have h := this l.reverse
  rwa [List.reverse_reverse] at h

/-! Bytes written into a part. -/
theorem splice_mid {X C Y s : List UInt8} {p : Nat} (h : p + s.length ≤ C.length) : splice (X ++ C ++ Y) (X.length + p) s = X ++ splice C p s ++ Y := by
  unfold splice
  rw [List.append_assoc X C Y, List.take_append, List.take_of_length_le (l := X) (by omega), Nat.add_sub_cancel_left, List.take_append_of_le_length (by omega)]
  rw [List.drop_append, List.drop_eq_nil_of_le (by omega), List.nil_append, show X.length + p + s.length - X.length = p + s.length by omega, List.drop_append_of_le_length (by omega)]
  simp
theorem patch_mid {nm : List DDef} {X Y : List UInt8} : ∀ {rs : List DRef} {C : List UInt8}, (∀ r ∈ rs, r.at_.toNat + 4 ≤ C.length) → patchRefs nm X.length rs (X ++ C ++ Y) = X ++ patchRefs nm 0 rs C ++ Y
  | [], C, _ => rfl
  | r :: rs, C, h => by
    have h0 := h r List.mem_cons_self
    have hl : ∀ n : Int, r.at_.toNat + (fourL n).length ≤ C.length := fun n => h0
    rw [patchRefs, patchRefs, splice_mid (hl _), Nat.zero_add]
    exact patch_mid fun x hx => by rw [splice_len (hl _)]; exact h x (List.mem_cons_of_mem _ hx)
theorem splice_pre {P Y s : List UInt8} {p : Nat} (h : p + s.length ≤ P.length) : splice (P ++ Y) p s = splice P p s ++ Y := by
  have := splice_mid (X := []) (Y := Y) h
  simpa using this
theorem patch_pre {nm : List DDef} {a : Nat} {Y : List UInt8} : ∀ {rs : List DRef} {P : List UInt8}, (∀ r ∈ rs, a + r.at_.toNat + 4 ≤ P.length) → patchRefs nm a rs (P ++ Y) = patchRefs nm a rs P ++ Y
  | [], P, _ => rfl
  | r :: rs, P, h => by
    have h0 := h r List.mem_cons_self
    have hl : ∀ n : Int, a + r.at_.toNat + (fourL n).length ≤ P.length := fun n => h0
    rw [patchRefs, patchRefs, splice_pre (hl _)]
    exact patch_pre fun x hx => by rw [splice_len (hl _)]; exact h x (List.mem_cons_of_mem _ hx)

def patchL (nm : List DDef) (base : Int) : List (Deck × Int) → List UInt8 → List UInt8
  | [], b => b
  | (o, a) :: l, b => patchL nm base l (patchRefs nm (a - base).toNat o.refs b)
theorem patchL_snoc (nm : List DDef) (base : Int) (o : Deck) (a : Int) : ∀ (l : List (Deck × Int)) (b : List UInt8), patchL nm base (l ++ [(o, a)]) b = patchRefs nm (a - base).toNat o.refs (patchL nm base l b)
  | [], _ => rfl
  | (_, _) :: l, _ => patchL_snoc nm base o a l _
theorem place_snoc (nm : List DDef) (base : Int) (o : Deck) (d : DDef) : ∀ (l : List (Deck × DDef)) (b : List UInt8), placeObjs nm base (l ++ [(o, d)]) b = patchRefs nm (d.at_ - base).toNat o.refs (splice (placeObjs nm base l b) (d.at_ - base).toNat o.code.data.toList)
  | [], _ => rfl
  | (_, _) :: l, _ => place_snoc nm base o d l _
theorem patchL_pre {nm : List DDef} {base : Int} {Y : List UInt8} : ∀ {l : List (Deck × Int)} {P : List UInt8}, (∀ x ∈ l, ∀ r ∈ x.1.refs, (x.2 - base).toNat + r.at_.toNat + 4 ≤ P.length) → patchL nm base l (P ++ Y) = patchL nm base l P ++ Y
  | [], P, _ => rfl
  | (o, a) :: l, P, h => by
    have h0 := h (o, a) List.mem_cons_self
    rw [patchL, patchL, patch_pre h0]
    exact patchL_pre fun x hx r hr => by rw [patch_len h0]; exact h x (List.mem_cons_of_mem _ hx) r hr

theorem setFour_list (c : ByteArray) (p : Nat) (n : Int) : (setFour c p n).data.toList = splice c.data.toList p (fourL n) := by
  unfold setFour splice fourF fourL
  simp [ByteArray.data_append, ByteArray.data_extract]
  exact List.take_of_length_le (by simp)
theorem patchR_list {nm defs : List DDef} (hn : ∀ n, findR [] defs n = (outerF nm n).getD 0) {off : Int} (h0 : 0 ≤ off) : ∀ {rs : List DRef} {c : ByteArray}, (∀ r ∈ rs, 0 ≤ r.at_) → (patchR [] defs off rs c).data.toList = patchRefs nm off.toNat rs c.data.toList
  | [], c, _ => rfl
  | r :: rs, c, h => by
    have hr := h r List.mem_cons_self
    rw [patchR, patchRefs, patchR_list hn h0 fun x hx => h x (List.mem_cons_of_mem _ hx), setFour_list, hn, Int.toNat_add h0 hr]
theorem patchAll_list {nm defs : List DDef} (hn : ∀ n, findR [] defs n = (outerF nm n).getD 0) {base : Int} : ∀ {l : List (Deck × Int)} {c : ByteArray}, (∀ x ∈ l, base ≤ x.2 ∧ ∀ r ∈ x.1.refs, 0 ≤ r.at_) → (patchAllR [] defs base l c).data.toList = patchL nm base l c.data.toList
  | [], c, _ => rfl
  | (o, a) :: l, c, h => by
    obtain ⟨h1, h2⟩ := h (o, a) List.mem_cons_self
    have h1 : base ≤ a := h1
    rw [patchAllR, patchL, patchAll_list hn fun x hx => h x (List.mem_cons_of_mem _ hx), patchR_list hn (by omega) h2]

/-! Names, each once. -/
theorem outer_of_mem {n : ByteArray} {v : Int} : ∀ {l : List DDef}, (l.map (·.name)).Nodup → (∃ d ∈ l, d.name = n ∧ d.at_ = v) → outerF l n = some v
  | [], _, ⟨d, hd, _⟩ => by cases hd
  | x :: l, h, ⟨d, hd, e1, e2⟩ => by
    rw [List.map_cons, List.nodup_cons] at h
    unfold outerF
    rw [List.find?_cons]
    cases hx : eqS x.name n with
    | true =>
      rcases List.mem_cons.1 hd with rfl | hd
      · simp [e2]
      · exact absurd (List.mem_map.2 ⟨d, hd, e1.trans (eqS_t.1 hx).symm⟩) h.1
    | false =>
      rcases List.mem_cons.1 hd with rfl | hd
      · rw [eqS_t.2 e1] at hx; cases hx
      · exact outer_of_mem h.2 ⟨d, hd, e1, e2⟩
theorem outer_perm {l l' : List DDef} (hp : l.Perm l') (h : (l'.map (·.name)).Nodup) (n : ByteArray) : outerF l n = outerF l' n := by
  have h2 : (l.map (·.name)).Nodup := (hp.map _).nodup_iff.2 h
  cases hx : outerF l' n with
  | some v =>
    obtain ⟨d, hd, e1, e2⟩ := outerF_mem hx
    exact outer_of_mem h2 ⟨d, hp.mem_iff.2 hd, e1, e2⟩
  | none =>
    cases hy : outerF l n with
    | none => rfl
    | some v =>
      obtain ⟨d, hd, e1, _⟩ := outerF_mem hy
      exact absurd (List.mem_map.2 ⟨d, hp.mem_iff.1 hd, e1⟩) (outerF_none hx)

theorem definedF_there {l : List DDef} {d : DDef} (hs : l.Pairwise LtD) (h : d.name ∈ l.map (·.name)) : definedF l d = l := by
  obtain ⟨x, hx, he⟩ := List.mem_map.1 h
  have hsp : l = l.take (insPos l d.name) ++ l.drop (insPos l d.name) := (List.take_append_drop _ _).symm
  have hirr : ltS d.name d.name = false := ltS_irrefl _
  rw [hsp] at hx
  rcases List.mem_append.1 hx with hx | hx
  · have := take_while_all (p := fun x : DDef => ltS x.name d.name) (l := l) x (by exact hx)
    rw [he, hirr] at this; cases this
  · cases hdr : l.drop (insPos l d.name) with
    | nil => rw [hdr] at hx; cases hx
    | cons y r =>
      have hy : ltS y.name d.name = false := drop_while_head (p := fun x : DDef => ltS x.name d.name) (l := l) (by exact hdr)
      have hlt : insPos l d.name < l.length := by
        have := congrArg List.length hdr
        simp at this; omega
      have hix : ix l (insPos l d.name) = y := by
        have := drop_ix hlt
        rw [hdr] at this
        injection this with h1 _
        exact h1.symm
      have hyx : y.name = d.name := by
        rw [hdr] at hx
        rcases List.mem_cons.1 hx with rfl | hx
        · exact he
        · have hs2 : (y :: r).Pairwise LtD := by rw [← hdr]; exact hs.drop
          have := (List.pairwise_cons.1 hs2).1 x hx
          unfold LtD at this
          rw [he, hy] at this; cases this
      unfold definedF
      rw [if_pos ⟨hlt, by rw [hix]; exact eqS_t.2 hyx⟩]

def shD (A : Int) (d : DDef) : DDef := ⟨d.name, A + d.at_⟩
theorem addDefs_perm (A : Int) : ∀ (ds acc : List DDef), acc.Pairwise LtD → (ds.map (·.name)).Nodup → (addDefs A ds acc).Pairwise LtD ∧ (addDefs A ds acc).Perm (acc ++ (ds.filter fun d => !(outerF acc d.name).isSome).map (shD A))
  | [], acc, h, _ => ⟨h, by simp [addDefs]⟩
  | d :: ds, acc, h, hn => by
    rw [List.map_cons, List.nodup_cons] at hn
    have e : addDefs A (d :: ds) acc = addDefs A ds (definedF acc (shD A d)) := rfl
    rw [e]
    obtain ⟨h1, h2⟩ := addDefs_perm A ds (definedF acc (shD A d)) (definedF_sorted h) hn.2
    refine ⟨h1, h2.trans ?_⟩
    cases hd : (outerF acc d.name).isSome with
    | true =>
      obtain ⟨v, hv⟩ := Option.isSome_iff_exists.1 hd
      obtain ⟨x, hx, e1, _⟩ := outerF_mem hv
      rw [definedF_there (d := shD A d) h (List.mem_map.2 ⟨x, hx, e1⟩), List.filter_cons, if_neg (by simp [hd])]
    | false =>
      have hno : outerF acc d.name = none := by simpa using hd
      have hp := definedF_perm (l := acc) (d := shD A d) (outerF_none hno)
      have hf : ds.filter (fun x => !(outerF (definedF acc (shD A d)) x.name).isSome) = ds.filter fun x => !(outerF acc x.name).isSome := by
        refine List.filter_congr fun x hx => ?_
        rw [outer_any, hp.any_eq, List.any_append, ← outer_any]
        have : eqS (shD A d).name x.name = false := by
          cases hx2 : eqS (shD A d).name x.name with
          | false => rfl
          | true => exact absurd (List.mem_map.2 ⟨x, hx, (eqS_t.1 hx2).symm⟩) hn.1
        simp [this]
      rw [hf, List.filter_cons, if_pos (by simp [hd]), List.map_cons]
      have := hp.append_right ((ds.filter fun x => !(outerF acc x.name).isSome).map (shD A))
      simpa using this
theorem names_false (A : Int) : ∀ (ds : List DDef) (s : LSt), (ds.map (·.name)).Nodup → putNames A false ds s = .ok { s with nmap := s.nmap ++ (ds.filter fun d => !(outerF s.nmap d.name).isSome).map (shD A), defs := s.defs ++ (ds.filter fun d => !(outerF s.nmap d.name).isSome).map (shD A) }
  | [], s, _ => by simp [putNames]
  | d :: ds, s, hn => by
    rw [List.map_cons, List.nodup_cons] at hn
    rw [putNames]
    cases hd : (outerF s.nmap d.name).isSome with
    | true =>
      rw [if_pos rfl, if_neg (by simp), names_false A ds s hn.2, List.filter_cons, if_neg (by simp [hd])]
    | false =>
      have hf : ds.filter (fun x => !(outerF (s.nmap ++ [⟨d.name, A + d.at_⟩]) x.name).isSome) = ds.filter fun x => !(outerF s.nmap x.name).isSome := by
        refine List.filter_congr fun x hx => ?_
        rw [outer_any, List.any_append, ← outer_any]
        have : eqS d.name x.name = false := by
          cases hx2 : eqS d.name x.name with
          | false => rfl
          | true => exact absurd (List.mem_map.2 ⟨x, hx, (eqS_t.1 hx2).symm⟩) hn.1
        simp [this]
      rw [if_neg (by simp), names_false A ds _ hn.2]
      simp only
      rw [hf, List.filter_cons, if_pos (by simp [hd])]
      simp [shD]

/-! The two states side by side. -/
def padN (n : Nat) : Nat := (8 - n % 8) % 8
def codeP (nm : List DDef) (o : Deck) : List UInt8 := patchRefs nm 0 o.refs o.code.data.toList
def stepK (nm : List DDef) (c : List UInt8) (o : Deck) : List UInt8 := c ++ List.replicate (padN c.length) 0 ++ codeP nm o
def allK (nm : List DDef) (g : List Deck) : List UInt8 := g.foldl (stepK nm) []
theorem allK_snoc (nm : List DDef) (g : List Deck) (o : Deck) : allK nm (g ++ [o]) = stepK nm (allK nm g) o := by
  unfold allK; rw [List.foldl_append]; rfl
def rF (base : Int) (g : List Deck) : RSt := putAllR base .start g
theorem rF_snoc (base : Int) (g : List Deck) (o : Deck) : rF base (g ++ [o]) = putR base (rF base g) o := by
  unfold rF putAllR; rw [List.foldl_append]; rfl

structure DeckFine (o : Deck) : Prop where
  fit : o.Fit
  refs : RefsFit o
  names : (o.defs.map (·.name)).Nodup

structure Both (base : Int) (g : List Deck) : Prop where
  good : (stF base g).Good base
  end_ : (stF base g).end_ = base + (rF base g).code.size
  names : (stF base g).places = (rF base g).names
  starts : (rF base g).starts = (stF base g).places.map (·.at_)
  lines : (stF base g).lines = (rF base g).lines
  sorted : (rF base g).defs.Pairwise LtD
  perm : (rF base g).defs.Perm (stF base g).defs
  klen : ∀ nm, (allK nm g).length = (rF base g).code.size
  codeL : ∀ nm T, (rF base g).code.size ≤ T → placeObjs nm base (g.zip (stF base g).places) (List.replicate T 0) = allK nm g ++ List.replicate (T - (rF base g).code.size) 0
  codeR : ∀ nm, patchL nm base (g.zip (rF base g).starts) (rF base g).code.data.toList = allK nm g

theorem zip_ix {α β : Type} [Inhabited α] [Inhabited β] {a : List α} {b : List β} (hl : b.length = a.length) {x : α × β} (h : x ∈ a.zip b) : ∃ i, i < a.length ∧ x = (ix a i, ix b i) := by
  obtain ⟨i, hi, he⟩ := List.getElem_of_mem h
  rw [List.length_zip, hl, Nat.min_self] at hi
  refine ⟨i, hi, ?_⟩
  rw [← he]
  have h1 : i < b.length := by omega
  simp [ix, List.getD, hi, h1]
theorem ix_map {α β : Type} [Inhabited α] [Inhabited β] {f : α → β} {l : List α} {i : Nat} (h : i < l.length) : ix (l.map f) i = f (ix l i) := by
  simp [ix, List.getD, h]
theorem codeP_len {nm : List DDef} {o : Deck} (h : RefsFit o) : (codeP nm o).length = o.code.size := by
  unfold codeP
  rw [patch_len fun r hr => ?_]
  · simp
  · have := h r hr
    simp; omega

theorem putNF_defs {s : LSt} {o : Deck} (h : (o.defs.map (·.name)).Nodup) : (putNF s o).defs = s.defs ++ ((linkDefs o).filter fun d => !(outerF s.nmap d.name).isSome).map (shD (upF s.end_)) := by
  have hp := putL_false s o
  unfold putL at hp
  simp only [Bool.false_and, Bool.false_eq_true, if_false] at hp
  rw [names_false _ _ _ (linkDefs_nodup h)] at hp
  injection hp with hp
  rw [← hp]

theorem both (base : Int) (h0 : 0 ≤ base) (h1 : base ≤ 65536) (h8 : base % 8 = 0) (g : List Deck) : (∀ o ∈ g, DeckFine o) → g.length ≤ 2000000 → Both base g := by
  refine snoc_ind (P := fun g => (∀ o ∈ g, DeckFine o) → g.length ≤ 2000000 → Both base g) ?_ ?_ g
  · intro _ _
    refine ⟨LSt.good_start h0 h1, ?_, rfl, rfl, rfl, List.Pairwise.nil, List.Perm.refl _, fun nm => rfl, fun nm T _ => ?_, fun nm => rfl⟩
    · show base = base + (((⟨#[]⟩ : ByteArray).size : Nat) : Int)
      have : (⟨#[]⟩ : ByteArray).size = 0 := rfl
      rw [this]; omega
    · show List.replicate T 0 = [] ++ List.replicate (T - 0) 0
      simp
  · intro g o ih hf hl
    rw [List.length_append, List.length_singleton] at hl
    have b := ih (fun x hx => hf x (List.mem_append_left _ hx)) (by omega)
    have ho := hf o (by simp)
    have hgot := got base g
    have hpl := b.good.small.places
    rw [hgot.objs] at hpl
    have hup : upF (stF base g).end_ = base + (padF (rF base g).code).size := by
      rw [padF_size, b.end_, upF]; omega
    have hgood : (putNF (stF base g) o).Good base := putL_good b.good ho.fit ho.refs (by rw [hgot.objs]; omega) (putL_false _ _)
    obtain ⟨e1, e2, e3, e4, e5, _⟩ := putL_same (putL_false (stF base g) o)
    obtain ⟨at_, hat⟩ : ∃ at_, at_ = base + (padF (rF base g).code).size := ⟨_, rfl⟩
    rw [← hat] at hup
    have hrl : (rF base g).starts.length = g.length := by rw [b.starts, List.length_map, hpl]
    have hpn : padN (rF base g).code.size + (rF base g).code.size = (padF (rF base g).code).size := by
      rw [padF_size, padN]; omega
    have hpc : (padF (rF base g).code).data.toList = (rF base g).code.data.toList ++ List.replicate (padN (rF base g).code.size) 0 := by
      unfold padF zeros padN
      rw [ByteArray.data_append]; simp
    have hoff : (at_ - base).toNat = (padF (rF base g).code).size := by omega
    have hkl := b.klen
    have hcs : (rF base (g ++ [o])).code.size = (padF (rF base g).code).size + o.code.size := by
      rw [rF_snoc]; simp [putR, ByteArray.size_append]
    have hsort := addDefs_perm at_ (defsF o) (rF base g).defs b.sorted (((linkDefs_perm o).map _).nodup_iff.1 (linkDefs_nodup ho.names))
    have hX : ∀ nm, (allK nm g ++ List.replicate (padN (allK nm g).length) 0).length = (padF (rF base g).code).size := by
      intro nm; rw [List.length_append, List.length_replicate, hkl]; omega
    have hrange : ∀ r ∈ o.refs, r.at_.toNat + 4 ≤ o.code.data.toList.length := by
      intro r hr
      have := ho.refs r hr
      simp; omega
    have hzin : ∀ x ∈ g.zip (rF base g).starts, base ≤ x.2 ∧ (x.2 - base).toNat + x.1.code.size ≤ (rF base g).code.size ∧ RefsFit x.1 := by
      intro x hx
      obtain ⟨i, hi, rfl⟩ := zip_ix hrl hx
      have hgp := b.good.places i (by rw [hgot.objs]; exact hi)
      rw [hgot.objs, b.end_] at hgp
      have : ix (rF base g).starts i = (ix (stF base g).places i).at_ := by rw [b.starts, ix_map (by omega)]
      refine ⟨by simp only; omega, by simp only; omega, (hf _ (List.mem_append_left _ (ix_mem hi))).refs⟩
    refine ⟨by rw [stF_snoc]; exact hgood, ?_, ?_, ?_, ?_, ?_, ?_, fun nm => ?_, fun nm T hT => ?_, fun nm => ?_⟩
    · rw [stF_snoc, e5, hcs, hup]; omega
    · rw [stF_snoc, rF_snoc, e3, b.names, hup, hat]; rfl
    · rw [stF_snoc, rF_snoc, e3, List.map_append, ← b.starts, hup, hat]; rfl
    · rw [stF_snoc, rF_snoc, e4, b.lines, hup, hat]; rfl
    · rw [rF_snoc]
      show (addDefs (base + (padF (rF base g).code).size) (defsF o) (rF base g).defs).Pairwise LtD
      rw [← hat]; exact hsort.1
    · rw [rF_snoc, stF_snoc, putNF_defs ho.names, hup]
      show (addDefs (base + (padF (rF base g).code).size) (defsF o) (rF base g).defs).Perm _
      rw [← hat]
      refine hsort.2.trans ?_
      have hf1 : (fun d : DDef => !(outerF (rF base g).defs d.name).isSome) = fun d => !(outerF (stF base g).nmap d.name).isSome := by
        funext d
        rw [b.good.same, outer_any, outer_any, b.perm.any_eq]
      rw [hf1]
      exact b.perm.append (((linkDefs_perm o).symm.filter _).map _)
    · rw [allK_snoc, stepK, List.length_append, hX, codeP_len ho.refs, hcs]
    · rw [stF_snoc, e3, hup, List.zip_append (by rw [hpl]), List.zip_cons_cons, List.zip_nil_right, place_snoc, b.codeL nm T (by omega), allK_snoc, stepK]
      simp only
      rw [hoff]
      have eT : List.replicate (T - (rF base g).code.size) (0 : UInt8) = List.replicate (padN (allK nm g).length) 0 ++ (List.replicate o.code.size 0 ++ List.replicate (T - (rF base (g ++ [o])).code.size) 0) := by
        rw [List.replicate_append_replicate, List.replicate_append_replicate, hkl]
        congr 1
        omega
      rw [eT, ← List.append_assoc, ← List.append_assoc]
      have hx := hX nm
      generalize allK nm g ++ List.replicate (padN (allK nm g).length) (0 : UInt8) = X at *
      rw [← hx]
      have hsp := splice_mid (X := X) (C := List.replicate o.code.size (0 : UInt8)) (Y := List.replicate (T - (rF base (g ++ [o])).code.size) 0) (s := o.code.data.toList) (p := 0) (by simp)
      rw [Nat.add_zero] at hsp
      rw [hsp]
      have hfull : splice (List.replicate o.code.size (0 : UInt8)) 0 o.code.data.toList = o.code.data.toList := by
        unfold splice; simp
      rw [hfull, patch_mid hrange]
      rfl
    · rw [rF_snoc, allK_snoc, stepK]
      have e6 : (putR base (rF base g) o).starts = (rF base g).starts ++ [at_] := by rw [hat]; rfl
      have e7 : (putR base (rF base g) o).code.data.toList = (rF base g).code.data.toList ++ (List.replicate (padN (rF base g).code.size) 0 ++ o.code.data.toList) := by
        show (padF (rF base g).code ++ o.code).data.toList = _
        rw [ByteArray.data_append, Array.toList_append, hpc, List.append_assoc]
      rw [e6, e7, List.zip_append (by rw [hrl]), List.zip_cons_cons, List.zip_nil_right, patchL_snoc, patchL_pre, b.codeR nm, hoff, ← List.append_assoc]
      · have hx := hX nm
        rw [← hkl nm]
        generalize allK nm g ++ List.replicate (padN (allK nm g).length) (0 : UInt8) = X at *
        rw [← hx]
        have := patch_mid (nm := nm) (X := X) (Y := []) hrange
        rw [List.append_nil, List.append_nil] at this
        exact this
      · intro x hx r hr
        obtain ⟨h2, h3, h4⟩ := hzin x hx
        have := h4 r hr
        simp; omega

theorem same_image (base : Int) (h0 : 0 ≤ base) (h1 : base ≤ 65536) (h8 : base % 8 = 0) (g : List Deck) (hf : ∀ o ∈ g, DeckFine o) (hl : g.length ≤ 2000000) : imgR base [] g = imgOf (stF base g) base ∧ (imgR base [] g).base = base ∧ ((imgR base [] g).code.size : Int) = (stF base g).end_ - base := by
  have b := both base h0 h1 h8 g hf hl
  have hgot := got base g
  have hdist := b.good.distinct
  have hd : (rF base g).defs = sortD (stF base g).defs := sorted_unique b.sorted (sortD_sorted _) (b.perm.trans (sortD_perm hdist).symm)
  have hrl : (rF base g).starts.length = g.length := by
    have hpl := b.good.small.places
    rw [hgot.objs] at hpl
    rw [b.starts, List.length_map, hpl]
  have hcode : patchAllR [] (rF base g).defs base (g.zip (rF base g).starts) (rF base g).code = ⟨(imageCode (stF base g) base).toArray⟩ := by
    have hn : ∀ n, findR [] (rF base g).defs n = (outerF (stF base g).nmap n).getD 0 := by
      intro n
      rw [b.good.same, ← outer_perm b.perm hdist]
      rfl
    apply ByteArray.ext
    rw [← Array.toList_inj, patchAll_list hn, b.codeR]
    · show _ = (imageCode (stF base g) base)
      unfold imageCode
      rw [hgot.objs, b.codeL _ _ (by have := b.end_; omega), b.end_]
      have : (base + ((rF base g).code.size : Int) - base).toNat - (rF base g).code.size = 0 := by omega
      rw [this]; simp
    · intro x hx
      obtain ⟨i, hi, rfl⟩ := zip_ix hrl hx
      have hgp := b.good.places i (by rw [hgot.objs]; exact hi)
      have hpl := b.good.small.places
      rw [hgot.objs] at hpl
      have : ix (rF base g).starts i = (ix (stF base g).places i).at_ := by rw [b.starts, ix_map (by omega)]
      refine ⟨by simp only; omega, fun r hr => ?_⟩
      have := (hf _ (ix_mem hi)).refs r hr
      omega
  have he : imgR base [] g = imgOf (stF base g) base := by
    show (⟨base, patchAllR [] (rF base g).defs base (g.zip (rF base g).starts) (rF base g).code, (rF base g).defs, (rF base g).lines, (rF base g).names⟩ : Img) = ⟨base, ⟨(imageCode (stF base g) base).toArray⟩, sortD (stF base g).defs, (stF base g).lines, (stF base g).places⟩
    rw [hcode, hd, b.lines, b.names]
  refine ⟨he, rfl, ?_⟩
  rw [he]
  show ((imageCode (stF base g) base).toArray.size : Int) = _
  rw [List.size_toArray, imageCode_len b.good]
  have := b.good.base1
  omega
end Go.Pm

/- LkC31: the two linkers compute the same; a linked image is well formed. -/
namespace Go.Pm
open Go Go.Proofs
attribute [-simp] List.getElem?_map List.length_flatten

def linkR (l : List Deck) (libs : List (List Deck)) (base : Int) : LRes :=
  if allF l libs = false then .bad 1 ⟨#[]⟩ else if baseF base = false then .bad 7 ⟨#[]⟩ else
  if doubleF [] l ≠ ⟨#[]⟩ then .bad 6 (doubleF [] l) else
  match gathF [] libs (libs.flatten.length + 1) l with
  | (_, n :: _) => .bad 5 n
  | (g, []) => if 65536 < base + (imgR base [] g).code.size then .bad 11 ⟨#[]⟩ else .good (imgR base [] g)

theorem baseF_t {n : Int} (h : baseF n = true) : 0 ≤ n ∧ n ≤ 65528 ∧ n % 8 = 0 := by
  unfold baseF at h
  rw [Bool.and_eq_true] at h
  have h1 := withinF_t h.1
  have h2 := eqI_t.1 h.2
  rw [Int.tmod_eq_emod_of_nonneg h1.1] at h2
  exact ⟨h1.1, h1.2, h2⟩
theorem allF_t {l : List Deck} {libs : List (List Deck)} (hl : SmallL l) (hb : SmallLL libs) (h : allF l libs = true) : (∀ o ∈ l, o.Small ∧ deckOk o = true) ∧ ∀ o ∈ libs.flatten, o.Small ∧ deckOk o = true := by
  unfold allF at h
  rw [Bool.and_eq_true, List.all_eq_true, List.all_eq_true] at h
  refine ⟨fun o ho => ⟨hl.each o ho, h.1 o ho⟩, fun o ho => ?_⟩
  obtain ⟨x, hx, ho⟩ := List.mem_flatten.1 ho
  have := h.2 x hx
  rw [List.all_eq_true] at this
  exact ⟨(hb.each x hx).each o ho, this o ho⟩
theorem deck_fine {o : Deck} (h : o.Small ∧ deckOk o = true) : DeckFine o :=
  ⟨(deckOk_fit h.1 h.2).1, (deckOk_fit h.1 h.2).2, (deckOk_names h.2).1⟩

theorem gath_mem (libs : List (List Deck)) : ∀ (N : Nat) (l : List Deck), (∀ o ∈ (gathF [] libs N l).1, o ∈ l ∨ o ∈ libs.flatten) ∧ (gathF [] libs N l).1.length ≤ l.length + away libs l
  | 0, l => ⟨fun o ho => .inl ho, by simp [gathF]⟩
  | N + 1, l => by
    rw [gathF]
    cases hs : scanF [] l libs (refNames l) [] with
    | mk ms r =>
      cases r with
      | none => exact ⟨fun o ho => .inl ho, by simp⟩
      | some o =>
        obtain ⟨n, hn⟩ := scan_found hs
        obtain ⟨h1, h2⟩ := away_less hn
        obtain ⟨h3, h4⟩ := gath_mem libs N (l ++ [o])
        refine ⟨fun x hx => ?_, ?_⟩
        · rcases h3 x hx with h | h
          · rcases List.mem_append.1 h with h | h
            · exact .inl h
            · rw [List.mem_singleton.1 h]; exact .inr h2
          · exact .inr h
        · simp only [List.length_append, List.length_singleton] at h4
          simp only
          omega

/-- What was gathered. -/
structure Gath (l : List Deck) (libs : List (List Deck)) (base : Int) (g : List Deck) : Prop where
  fine : ∀ o ∈ g, o.Small ∧ deckOk o = true
  len : g.length ≤ 2000000
  image : imgR base [] g = imgOf (stF base g) base
  end_ : base + ((imgR base [] g).code.size : Int) = (stF base g).end_
theorem gath {l : List Deck} {libs : List (List Deck)} {base : Int} (hl : SmallL l) (hb : SmallLL libs) (hsum : l.length + libs.flatten.length ≤ 2000000) (h : allF l libs = true) (hbase : baseF base = true) : Gath l libs base (gathF [] libs (libs.flatten.length + 1) l).1 := by
  obtain ⟨h1, h2⟩ := allF_t hl hb h
  obtain ⟨b1, b2, b3⟩ := baseF_t hbase
  obtain ⟨h3, h4⟩ := gath_mem libs (libs.flatten.length + 1) l
  have haw : away libs l ≤ libs.flatten.length := List.length_filter_le _ _
  have hfine : ∀ o ∈ (gathF [] libs (libs.flatten.length + 1) l).1, o.Small ∧ deckOk o = true := fun o ho => (h3 o ho).elim (h1 o) (h2 o)
  obtain ⟨e1, _, e3⟩ := same_image base b1 (by omega) b3 _ (fun o ho => deck_fine (hfine o ho)) (by omega)
  exact ⟨hfine, by omega, e1, by omega⟩

theorem linkR_eq {l : List Deck} {libs : List (List Deck)} {base : Int} (hl : SmallL l) (hb : SmallLL libs) (hsum : l.length + libs.flatten.length ≤ 2000000) : linkR l libs base = linkL l libs base := by
  unfold linkR linkL
  cases h1 : allF l libs with
  | false => rfl
  | true =>
    cases h2 : baseF base with
    | false => rfl
    | true =>
      simp only [Bool.true_eq_false, if_false]
      obtain ⟨ho, _⟩ := allF_t hl hb h1
      have hd := double_put base l [] [] (fun o h => (ho o h).2) (fun n => rfl)
      rw [show stF base [] = .start base from rfl, List.nil_append] at hd
      cases hp : putAll (.start base) l with
      | error n =>
        rw [hp] at hd
        simp only at hd
        rw [if_pos (by rw [hd.1]; exact hd.2), hd.1]
      | ok s =>
        rw [hp] at hd
        simp only at hd
        obtain ⟨hd1, rfl⟩ := hd
        rw [if_neg (by rw [hd1]; simp)]
        simp only
        obtain ⟨e1, e2⟩ := needed_gath libs base (libs.flatten.length + 1) l
        have hg := gath hl hb hsum h1 h2
        cases hn : neededL libs (libs.flatten.length + 1) (stF base l) with
        | mk s ms =>
          cases hgf : gathF [] libs (libs.flatten.length + 1) l with
          | mk g ms' =>
            rw [hn, hgf] at e1 e2
            rw [hgf] at hg
            simp only at e1 e2 hg
            subst e1
            cases ms with
            | nil =>
              cases ms' with
              | nil => simp only; rw [hg.end_, hg.image]
              | cons n' t => simp at e2
            | cons n t =>
              cases ms' with
              | nil => simp at e2
              | cons n' t' => simp at e2; subst e2; rfl

/-! A linked image is well formed. -/
structure LFine (s : LSt) (base : Int) : Prop where
  base_ : base ≤ s.end_
  defs : ∀ d ∈ s.defs, nameOk d.name = true ∧ base ≤ d.at_ ∧ d.at_ ≤ s.end_
  places : ∀ d ∈ s.places, nameOk d.name = true ∧ base ≤ d.at_ ∧ d.at_ ≤ s.end_ ∧ d.at_ % 8 = 0
  pless : s.places.Pairwise fun a b => a.at_ ≤ b.at_
  lines : ∀ d ∈ s.lines, base ≤ d.at_ ∧ d.at_ < s.end_
  lless : s.lines.Pairwise fun a b => a.at_ < b.at_

theorem pair_of {α : Type} [Inhabited α] {R : α → α → Prop} (ht : ∀ a b c, R a b → R b c → R a c) {l : List α} (h : ∀ i, i + 1 < l.length → R (ix l i) (ix l (i + 1))) : l.Pairwise R := by
  have hall : ∀ n i, i + n + 1 < l.length → R (ix l i) (ix l (i + n + 1)) := by
    intro n
    induction n with
    | zero => exact fun i hi => h i hi
    | succ n ih => exact fun i hi => ht _ _ _ (ih i (by omega)) (h (i + n + 1) (by omega))
  rw [List.pairwise_iff_getElem]
  intro i j hi hj hij
  have := hall (j - i - 1) i (by omega)
  rw [show i + (j - i - 1) + 1 = j by omega] at this
  simpa [ix, List.getD, hi, hj] using this
theorem pair_ix {α : Type} [Inhabited α] {R : α → α → Prop} {l : List α} (h : l.Pairwise R) {i : Nat} (hi : i + 1 < l.length) : R (ix l i) (ix l (i + 1)) := by
  rw [List.pairwise_iff_getElem] at h
  have := h i (i + 1) (by omega) hi (by omega)
  have h1 : i < l.length := by omega
  simpa [ix, List.getD, hi, h1] using this

theorem deckOk_lines {o : Deck} (h : deckOk o = true) : (∀ d ∈ o.lines, 0 ≤ d.at_ ∧ d.at_ < o.code.size) ∧ o.lines.Pairwise (fun a b => a.at_ < b.at_) ∧ ∀ d ∈ o.defs, 0 ≤ d.at_ ∧ d.at_ ≤ o.code.size := by
  unfold deckOk at h
  simp only [Bool.and_eq_true] at h
  obtain ⟨⟨⟨⟨⟨_, _⟩, _⟩, h2⟩, _⟩, h4⟩ := h
  rw [List.all_eq_true] at h2 h4
  refine ⟨fun d hd => ?_, pair_of (R := fun a b : DLine => a.at_ < b.at_) (fun _ _ _ h1 h2 => Int.lt_trans h1 h2) fun i hi => ?_, fun d hd => ?_⟩
  · obtain ⟨i, hi, rfl⟩ := ix_of_mem hd
    have := h4 i (List.mem_range.2 hi)
    unfold lineOk at this
    simp only [Bool.and_eq_true] at this
    have := withinF_t this.1.1.1
    omega
  · have := h4 (i + 1) (List.mem_range.2 hi)
    unfold lineOk at this
    simp only [Bool.and_eq_true] at this
    have h5 := this.2
    have h6 : ltI 0 ↑(i + 1) = true := ltI_t.2 (by omega)
    rw [h6, Bool.true_and] at h5
    simp only [Bool.not_eq_true', Nat.add_sub_cancel] at h5
    exact leI_f.1 h5
  · obtain ⟨i, hi, rfl⟩ := ix_of_mem hd
    have := h2 i (List.mem_range.2 hi)
    unfold defOk at this
    simp only [Bool.and_eq_true] at this
    have := withinF_t this.1.1.2
    omega
theorem linkDefs_fine {o : Deck} (h : deckOk o = true) : ∀ d ∈ linkDefs o, nameOk d.name = true ∧ 0 ≤ d.at_ ∧ d.at_ ≤ o.code.size := by
  obtain ⟨_, h1, h2⟩ := deckOk_names h
  obtain ⟨_, _, h3⟩ := deckOk_lines h
  intro d hd
  unfold linkDefs at hd
  split at hd
  · exact ⟨h2 d hd, h3 d hd⟩
  · rcases List.mem_cons.1 hd with rfl | hd
    · exact ⟨h1, Int.le_refl _, by simp⟩
    · exact ⟨h2 d hd, h3 d hd⟩

theorem fine_snoc {s : LSt} {base : Int} {o : Deck} (h : LFine s base) (ho : deckOk o = true) : LFine (putNF s o) base := by
  obtain ⟨e1, e2, e3, e4, e5, _⟩ := putL_same (putL_false s o)
  obtain ⟨n1, n2, n3⟩ := deckOk_names ho
  obtain ⟨l1, l2, l3⟩ := deckOk_lines ho
  have hd := putNF_defs (s := s) n1
  have hup : upF s.end_ = (s.end_ + 7) / 8 * 8 := rfl
  have hu1 : s.end_ ≤ upF s.end_ := by rw [hup]; omega
  have hu2 : upF s.end_ % 8 = 0 := by rw [hup]; omega
  have hb := h.base_
  refine ⟨by rw [e5]; omega, fun d hm => ?_, fun d hm => ?_, ?_, fun d hm => ?_, ?_⟩
  · rw [hd] at hm
    rw [e5]
    rcases List.mem_append.1 hm with hm | hm
    · have := h.defs d hm
      exact ⟨this.1, this.2.1, by omega⟩
    · obtain ⟨x, hx, rfl⟩ := List.mem_map.1 hm
      have := linkDefs_fine ho x (List.mem_filter.1 hx).1
      exact ⟨this.1, by simp only [shD]; omega, by simp only [shD]; omega⟩
  · rw [e3] at hm
    rw [e5]
    rcases List.mem_append.1 hm with hm | hm
    · have := h.places d hm
      exact ⟨this.1, this.2.1, by omega, this.2.2.2⟩
    · rw [List.mem_singleton.1 hm]
      exact ⟨n2, by simp only; omega, by simp only; omega, hu2⟩
  · rw [e3, List.pairwise_append]
    refine ⟨h.pless, by simp, fun a ha b hb => ?_⟩
    rw [List.mem_singleton.1 hb]
    have := h.places a ha
    simp only; omega
  · rw [e4] at hm
    rw [e5]
    rcases List.mem_append.1 hm with hm | hm
    · have := h.lines d hm
      omega
    · obtain ⟨x, hx, rfl⟩ := List.mem_map.1 hm
      have := l1 x hx
      simp only; omega
  · rw [e4, List.pairwise_append]
    refine ⟨h.lless, ?_, fun a ha b hb => ?_⟩
    · rw [List.pairwise_map]
      exact l2.imp fun h => by simp only; omega
    · obtain ⟨x, hx, rfl⟩ := List.mem_map.1 hb
      have h3 := h.lines a ha
      have h4 := l1 x hx
      simp only; omega
theorem fine_all {base : Int} (g : List Deck) (hf : ∀ o ∈ g, deckOk o = true) : LFine (stF base g) base := by
  revert hf
  refine snoc_ind (P := fun g => (∀ o ∈ g, deckOk o = true) → LFine (stF base g) base) ?_ ?_ g
  · intro _
    exact ⟨Int.le_refl _, by simp [stF, LSt.start], by simp [stF, LSt.start], List.Pairwise.nil, by simp [stF, LSt.start], List.Pairwise.nil⟩
  · intro g o ih hf
    rw [stF_snoc]
    exact fine_snoc (ih fun x hx => hf x (List.mem_append_left _ hx)) (hf o (by simp))

/-- What is known of a good link, by what was gathered. -/
structure LinkG (l : List Deck) (libs : List (List Deck)) (base : Int) (i : Img) (g : List Deck) : Prop where
  all : allF l libs = true
  based : baseF base = true
  double : doubleF [] l = ⟨#[]⟩
  gath : gathF [] libs (libs.flatten.length + 1) l = (g, [])
  fine : ∀ o ∈ g, o.Small ∧ deckOk o = true
  len : g.length ≤ 2000000
  end_ : (stF base g).end_ ≤ 65536
  img : i = imgOf (stF base g) base
theorem linkL_gath {l : List Deck} {libs : List (List Deck)} {base : Int} {i : Img} (hl : SmallL l) (hb : SmallLL libs) (hsum : l.length + libs.flatten.length ≤ 2000000) (h : linkL l libs base = .good i) : ∃ g, LinkG l libs base i g := by
  rw [← linkR_eq hl hb hsum] at h
  unfold linkR at h
  split at h
  · cases h
  rename_i h1
  have h1 : allF l libs = true := by simpa using h1
  split at h
  · cases h
  rename_i h2
  have h2 : baseF base = true := by simpa using h2
  split at h
  · cases h
  rename_i h3
  have hg := gath hl hb hsum h1 h2
  split at h
  · cases h
  rename_i g h4
  rw [h4] at hg
  split at h
  · cases h
  rename_i h5
  injection h with h
  have he := hg.end_
  simp only at he hg
  exact ⟨g, h1, h2, by simpa using h3, h4, hg.fine, hg.len, by omega, by rw [← h, hg.image]⟩
theorem linkG_good {l : List Deck} {libs : List (List Deck)} {base : Int} {i : Img} {g : List Deck} (h : LinkG l libs base i g) : (stF base g).Good base := by
  obtain ⟨b1, b2, b3⟩ := baseF_t h.based
  exact (both base b1 (by omega) b3 g (fun o ho => deck_fine (h.fine o ho)) h.len).good

theorem linkL_fine {l : List Deck} {libs : List (List Deck)} {base : Int} {i : Img} (hl : SmallL l) (hb : SmallLL libs) (hsum : l.length + libs.flatten.length ≤ 2000000) (h : linkL l libs base = .good i) : i.Fine := by
  have hsm := linkL_small hl hb hsum h
  obtain ⟨g, hg⟩ := linkL_gath hl hb hsum h
  have hgood := linkG_good hg
  have hf := fine_all (base := base) g fun o ho => (hg.fine o ho).2
  have hperm := sortD_perm hgood.distinct
  have he := hg.end_
  have hi := hg.img
  have hcs : base + (i.code.size : Int) = (stF base g).end_ := by
    rw [hi]
    show base + ((imageCode (stF base g) base).toArray.size : Int) = _
    rw [List.size_toArray, imageCode_len hgood]
    have := hgood.base1
    omega
  have hib : i.base = base := by rw [hi]; rfl
  have hid : i.defs = sortD (stF base g).defs := by rw [hi]; rfl
  have hil : i.lines = (stF base g).lines := by rw [hi]; rfl
  have hin : i.names = (stF base g).places := by rw [hi]; rfl
  have win : ∀ n : Int, base ≤ n → n ≤ (stF base g).end_ → withinF n i.base (i.base + i.code.size) = true := fun n h1 h2 => by
    unfold withinF
    rw [hib, hcs, Bool.and_eq_true]
    exact ⟨leI_t.2 h1, leI_t.2 h2⟩
  refine ⟨by rw [hib]; exact hg.based, by rw [hib, hcs]; exact he, hsm.defs, hsm.lines, hsm.names, fun j hj => ?_, fun j hj => ?_, fun j hj => ?_, fun j hj => ?_, fun j hj => ?_, fun j hj => ?_⟩
  · have hm := ix_mem hj
    have := hf.defs _ (hperm.mem_iff.1 (by rw [← hid]; exact hm))
    exact ⟨hsm.dname _ hm, this.1, win _ this.2.1 this.2.2⟩
  · have hs := sortD_sorted (stF base g).defs
    rw [← hid] at hs
    exact pair_ix hs hj
  · have hm := ix_mem hj
    have := hf.places _ (by rw [← hin]; exact hm)
    obtain ⟨b1, _⟩ := baseF_t hg.based
    exact ⟨hsm.nname _ hm, this.1, win _ this.2.1 this.2.2.1, eqI_t.2 (by rw [Int.tmod_eq_emod_of_nonneg (by omega)]; exact this.2.2.2)⟩
  · have hs := hf.pless
    rw [← hin] at hs
    exact ltI_f.2 (pair_ix hs hj)
  · have := hf.lines _ (by rw [← hil]; exact ix_mem hj)
    exact win _ this.1 (by omega)
  · have hs := hf.lless
    rw [← hil] at hs
    exact leI_f.2 (pair_ix hs hj)
end Go.Pm

/- LkC32: contracts: R34's Link and Move. -/
namespace Go.Pm
open Go Go.Proofs
attribute [-simp] List.getElem?_map List.length_flatten

theorem sameF_sameL (a b : Img) : sameF a b = sameL a b := by
  unfold sameF sameL
  rw [Bool.and_assoc _ (defsEq a.names b.names), Bool.and_comm (defsEq a.names b.names), ← Bool.and_assoc]

set_option maxHeartbeats 4000000 in
theorem call17 (p q : Bool) (l : List Deck) (libs : List (List Deck)) (base : Int) (hl : SmallL l) (hb : SmallLL libs) (hsum : l.length + libs.flatten.length ≤ 2000000) :
    PCalls Try.prog 17 [.list p 5 (l.map Deck.av), .list q 1 (libs.map libAV), .int .i64 base] fun out => out = .ret (linkL l libs base).av := by
  rw [← linkR_eq hl hb hsum]
  refine ok17.pcalls (by simp) ?_
  generalize hM : linkR l libs base = M
  unfold linkR at hM
  simp [c17]
  refine xcall_p (call32 p q l libs hl hb) (by simp) ?_
  cases h1 : allF l libs with
  | false =>
    rw [h1, if_pos rfl] at hM
    subst hM
    simp [cr17, LRes.av, img0]
  | true =>
    rw [h1, if_neg (by simp)] at hM
    simp
    refine xcall_p (call35 base) rfl ?_
    cases h2 : baseF base with
    | false =>
      rw [h2, if_pos rfl] at hM
      subst hM
      simp [cr17, LRes.av, img0]
    | true =>
      rw [h2, if_neg (by simp)] at hM
      simp
      refine xcall_p (call36 p l hl) (by simp) ?_
      simp
      refine br_cond rfl (fun h3 => ?_) (fun h3 => ?_)
      · have h3 : eqS (doubleF [] l) ⟨#[]⟩ = false := by simpa using h3
        rw [if_pos (fun e => by rw [e, eqS_t.2 rfl] at h3; cases h3)] at hM
        subst hM
        simp [cr17, LRes.av, img0]
      · have h3 : eqS (doubleF [] l) ⟨#[]⟩ = true := by simpa using h3
        rw [if_neg (by rw [eqS_t.1 h3]; simp)] at hM
        simp
        refine xcall_p (PCalls.sub (call37 p q true l libs [] hl hb (by simp) hsum) (Sub.cons (Sub.cons (Sub.nil (Sub.refl _))))) (by simp) ?_
        have hg := gath hl hb hsum h1 h2
        cases hgf : gathF [] libs (libs.flatten.length + 1) l with
        | mk g ms =>
          rw [hgf] at hM hg
          simp only at hM hg
          cases ms with
          | cons n t =>
            simp only at hM
            subst hM
            have hgt : ltI 0 (↑t.length + 1) = true := ltI_t.2 (by omega)
            simp [textsAV, hgt, decksAV, cr17, LRes.av, img0]
          | nil =>
            simp only at hM
            have hgt : ltI 0 0 = false := rfl
            obtain ⟨b1, b2, b3⟩ := baseF_t h2
            have hfit : ∀ o ∈ g, o.Fit ∧ RefsFit o := fun o ho => deckOk_fit (hg.fine o ho).1 (hg.fine o ho).2
            simp [textsAV, hgt, decksAV]
            refine xcall_p (PCalls.sub (call38 true true g base [] (fun o ho => (hfit o ho).1) (fun o ho => (hfit o ho).2) hg.len (by simp) b1 (by omega)) (Sub.cons (Sub.cons (Sub.nil (Sub.refl _))))) (by simp) ?_
            have hend := (both base b1 (by omega) b3 g (fun o ho => deck_fine (hg.fine o ho)) hg.len).good.small.end1
            have hobj := (got base g).objs
            have hgl := hg.len
            rw [hobj, ← hg.end_] at hend
            have hw : IntKind.i64.wrap (base + (imgR base [] g).code.size) = base + (imgR base [] g).code.size := wrap64 (by omega) (by omega)
            generalize imgR base [] g = w at *
            simp [Img.av, hw]
            refine br_cond rfl (fun h4 => ?_) (fun h4 => ?_)
            · rw [if_pos (ltI_t.1 h4)] at hM
              subst hM
              simp [cr17, LRes.av, img0]
            · rw [if_neg (by have := ltI_f.1 h4; omega)] at hM
              subst hM
              simp [cr17, LRes.av, Img.av]

set_option maxHeartbeats 4000000 in
theorem call14 (p q : Bool) (x : Img) (l : List Deck) (libs : List (List Deck)) (to_ : Int) (hl : SmallL l) (hb : SmallLL libs) (hsum : l.length + libs.flatten.length ≤ 2000000) (hx : x.Fine) (hxs : x.Small) :
    PCalls Try.prog 14 [.agg x.av, .list p 5 (l.map Deck.av), .list q 1 (libs.map libAV), .int .i64 to_] fun out => out = .ret (moveL x l libs to_).avE := by
  refine ok14.pcalls (by simp) ?_
  generalize hM : moveL x l libs to_ = M
  unfold moveL at hM
  simp [c14, Img.av]
  refine xcall_p (call31 x hx) (by simp [Img.av]) ?_
  simp
  refine xcall_p (call32 p q l libs hl hb) (by simp) ?_
  cases h1 : allF l libs with
  | false =>
    have : linkL l libs x.base = .bad 1 ⟨#[]⟩ := by unfold linkL; rw [h1, if_pos rfl]
    rw [this] at hM
    simp only at hM
    subst hM
    simp [cr14, LRes.avE, img0]
  | true =>
    simp
    refine xcall_p (call17 p q l libs x.base hl hb hsum) (by simp) ?_
    cases hw : linkL l libs x.base with
    | bad e n =>
      have he := linkL_bad hw
      have he' : eqI e 0 = false := eqI_f.2 he
      rw [hw] at hM
      simp only at hM
      subst hM
      simp [LRes.av, img0, he', cr14, LRes.avE]
    | good w =>
      rw [hw] at hM
      simp only at hM
      have hsw := linkL_small hl hb hsum hw
      have he' : eqI 0 0 = true := eqI_t.2 rfl
      simp [LRes.av, Img.av, he']
      refine xcall_p (call15 w x hsw hxs) (by simp [Img.av]) ?_
      rw [sameF_sameL]
      cases hsm : sameL w x with
      | false =>
        rw [hsm, if_neg (by simp)] at hM
        subst hM
        simp [cr14, LRes.avE, img0]
      | true =>
        rw [hsm, if_pos rfl] at hM
        simp
        refine xcall_p (call17 p q l libs to_ hl hb hsum) (by simp) ?_
        rw [hM]
        cases M with
        | bad e n => simp [LRes.av, img0, cr14, LRes.avE]
        | good w2 => simp [LRes.av, Img.av, cr14, LRes.avE]
end Go.Pm

/- LkC33: contracts: large answers something; awake. -/
namespace Go.Pm
open Go Go.Proofs
attribute [-simp] List.getElem?_map List.length_flatten

set_option maxHeartbeats 4000000 in
theorem call8 (l : List Deck) (libs : List (List Deck)) (hl : SmallL l) (hb : SmallLL libs) : PCalls Try.prog 8 [decksAV l, .list true 1 (libs.map libAV)] fun out => ∃ b, out = .ret (.bool b) := by
  refine ok8.pcalls (by simp [decksAV]) ?_
  have dl := hl.len
  have bl := hb.len
  have hc : (libs.length + 1) * 24 ≤ 140737488355328 ∧ libs.length + 1 ≤ 9223372036854775807 := ⟨by omega, by omega⟩
  have hc' : (1 + libs.length) * 24 ≤ 140737488355328 ∧ 1 + libs.length ≤ 9223372036854775807 := ⟨by omega, by omega⟩
  obtain ⟨L, hL⟩ : ∃ L, L = l :: libs := ⟨_, rfl⟩
  have hLl : L.length = libs.length + 1 := by rw [hL]; rfl
  have hsm : ∀ x ∈ L, SmallL x := by
    intro x hx
    rw [hL] at hx
    rcases List.mem_cons.1 hx with rfl | hx
    · exact hl
    · exact hb.each x hx
  simp [c8, decksAV, appendA, hc, hc', List.range_succ]
  refine br_cond rfl (fun h => ?_) (fun h => ?_)
  · simp [cr8]
  simp
  refine wpS_loopS (ι := (Nat × Int) × Nat) (fun u => [(5, .int .i64 u.1.2), (6, .row 0 1 1 0 L.length), (7, .int .i64 u.1.1)]) (fun u => ⟨[(1, .row 22 1 (L.map libAV))], u.2⟩) (fun u => L.length - u.1.1) (fun u => u.1.1 ≤ L.length) ((0, 0), 2) (Nat.zero_le _) ?_ ?_
  · exact Sim.of_le (Env.le_of (by simp [hLl, Nat.add_comm])) (Mem.le_of rfl (by simp [hL, libAV, decksAV]))
  intro ⟨⟨i, s⟩, nx⟩ hi
  simp only at hi
  have hw : IntKind.i64.wrap (i + 1) = i + 1 := wrap64 (by omega) (by omega)
  simp
  refine br_cond rfl (fun h1 => ?_) (fun h1 => ?_)
  · have hlt : i < L.length := by have := ltI_t.1 h1; omega
    have hx := hsm _ (ix_mem hlt)
    have hxl := hx.len
    generalize hxx : ix L i = x at *
    simp [h1]
    refine wpS_loopS (ι := (Nat × Int) × Nat) (fun u => [(5, .int .i64 u.1.2), (6, .row 0 1 1 0 L.length), (7, .int .i64 i), (8, .int .i64 u.1.1)]) (fun u => ⟨[(1, .row 22 1 (L.map libAV))], u.2⟩) (fun u => x.length - u.1.1) (fun u => u.1.1 ≤ x.length) ((0, s), nx) (Nat.zero_le _) (Sim.of_le (Env.le_of (by simp)) (Mem.le_of rfl (by simp))) ?_
    intro ⟨⟨j, s⟩, ny⟩ hj
    simp only at hj
    have hwj : IntKind.i64.wrap (j + 1) = j + 1 := wrap64 (by omega) (by omega)
    simp [h1, idxM, hxx, libAV, decksAV]

    refine br_cond rfl (fun h2 => ?_) (fun h2 => ?_)
    · have hlj : j < x.length := by have := ltI_t.1 h2; omega
      generalize hox : ix x j = o at *
      simp [h1, h2, idxM, hxx, hox, libAV, decksAV, Deck.av]
      refine br_cond rfl (fun h3 => ?_) (fun h3 => ?_)
      · simp [hwj]
        exact ⟨j + 1, by omega, by omega, IntKind.i64.wrap (IntKind.i64.wrap (s + IntKind.i64.wrap (IntKind.i64.wrap (20 + (o.name.size : Int)) + IntKind.i64.wrap (10 * IntKind.i64.wrap (IntKind.i64.wrap ((o.defs.length : Int) + (o.refs.length : Int)) + (o.lines.length : Int))))) + (o.code.size : Int)), ny + 1, Sim.of_le (Env.le_of (by simp)) (Mem.le_of rfl (by simp))⟩
      · simp [hwj]
        exact ⟨j + 1, by omega, by omega, IntKind.i64.wrap (s + IntKind.i64.wrap (IntKind.i64.wrap (20 + (o.name.size : Int)) + IntKind.i64.wrap (10 * IntKind.i64.wrap (IntKind.i64.wrap ((o.defs.length : Int) + (o.refs.length : Int)) + (o.lines.length : Int))))), ny + 1, Sim.of_le (Env.le_of (by simp)) (Mem.le_of rfl (by simp))⟩
    · simp [h2, hw]
      exact ⟨i + 1, by omega, by omega, s, ny, Sim.of_le (Env.le_of (by simp)) (Mem.le_of rfl (by simp))⟩
  · simp [h1, cr8]

theorem Wk.refl (x : AV) : Wk x x := fun _ _ _ _ h => h
theorem Wk.list {p : Bool} {sz : Nat} {els els' : List (List AV)} (hl : els'.length = els.length) (hc : ∀ (i : Nat) (c : List AV), els'[i]? = some c → ∃ c0 : List AV, els[i]? = some c0 ∧ c0.length = c.length ∧ ∀ (j : Nat) (x : AV), c[j]? = some x → ∃ y, c0[j]? = some y ∧ Wk y x) : Wk (.list p sz els) (.list p sz els') := by
  intro σ K w u h
  rw [VR] at h ⊢
  obtain ⟨a, cap, b, o, h1, h2, h3, h4⟩ := h
  refine ⟨a, cap, b, o, by rw [hl]; exact h1, by rw [hl]; exact h2, ?_, ?_⟩
  · rcases h3 with h3 | h3
    · left
      subst h3
      exact List.eq_nil_of_length_eq_zero hl
    · exact .inr h3
  · rw [LR_iff] at h4 ⊢
    intro i c hi
    obtain ⟨c0, e1, e2, e3⟩ := hc i c hi
    obtain ⟨h5, h6⟩ := h4 i c0 e1
    refine ⟨by omega, CR_iff.2 fun j x hj => ?_⟩
    obtain ⟨y, hy, hw⟩ := e3 j x hj
    obtain ⟨v, hv1, hv2, hv3⟩ := CR_iff.1 h6 j y hy
    exact ⟨v, hv1, hv2, hw _ _ _ _ hv3⟩
theorem Sub.wk {x y : AV} {xs ys : List AV} (hw : Wk x y) (h : Sub xs ys) : Sub (x :: xs) (y :: ys) := by
  intro K w us hv
  obtain ⟨u, us', rfl, h1, h2⟩ := hv
  exact ⟨u, us', rfl, hw _ _ _ _ h1, h K w us' h2⟩

/-- The two objects that awake links. -/
def awake1 : Deck := ⟨⟨#[65]⟩, ⟨#[97, 98, 99, 100, 101, 102]⟩, [], [], []⟩
def awake2 : Deck := ⟨⟨#[66]⟩, ⟨#[119, 120, 121, 122]⟩, [], [], []⟩
def awakeV (n c : ByteArray) : List AV := [.str n, .str c, .nilS, .nilS, .nilS]
theorem awake_wk : Wk (.list false 5 [awakeV awake1.name awake1.code, awakeV awake2.name awake2.code]) (.list false 5 ([awake1, awake2].map Deck.av)) := by
  have one : ∀ n c : ByteArray, ∀ (j : Nat) (x : AV), (Deck.av ⟨n, c, [], [], []⟩)[j]? = some x → ∃ y, (awakeV n c)[j]? = some y ∧ Wk y x := by
    intro n c j x hj
    match j with
    | 0 => injection hj with hj; subst hj; exact ⟨_, rfl, Wk.refl _⟩
    | 1 => injection hj with hj; subst hj; exact ⟨_, rfl, Wk.refl _⟩
    | 2 => injection hj with hj; subst hj; exact ⟨_, rfl, Wk.nil⟩
    | 3 => injection hj with hj; subst hj; exact ⟨_, rfl, Wk.nil⟩
    | 4 => injection hj with hj; subst hj; exact ⟨_, rfl, Wk.nil⟩
    | n + 5 => simp [Deck.av] at hj
  refine Wk.list rfl fun i c hi => ?_
  match i with
  | 0 => injection hi with hi; subst hi; exact ⟨_, rfl, rfl, one _ _⟩
  | 1 => injection hi with hi; subst hi; exact ⟨_, rfl, rfl, one _ _⟩
  | n + 2 => simp at hi

def awakeImg : Img := ⟨16, ⟨#[97, 98, 99, 100, 101, 102, 0, 0, 119, 120, 121, 122]⟩, [⟨⟨#[65]⟩, 16⟩, ⟨⟨#[66]⟩, 24⟩], [], [⟨⟨#[65]⟩, 16⟩, ⟨⟨#[66]⟩, 24⟩]⟩
theorem awake_is : linkL [awake1, awake2] [] 16 = .good awakeImg := by kernel_rfl

theorem awake_small : SmallL [awake1, awake2] := by
  refine ⟨by simp, fun o ho => ?_⟩
  have h : ∀ n c : ByteArray, n.size ≤ 1048576 → c.size ≤ 1048576 → Deck.Small ⟨n, c, [], [], []⟩ := fun n c h1 h2 => ⟨h1, h2, by simp, by simp, by simp, by simp, by simp⟩
  simp only [List.mem_cons, List.not_mem_nil, or_false] at ho
  rcases ho with rfl | rfl
  · exact h _ _ (by decide) (by decide)
  · exact h _ _ (by decide) (by decide)

set_option maxHeartbeats 4000000 in
theorem call7 : PCalls Try.prog 7 [] fun out => out = .ret (.bool true) := by
  refine ok7.pcalls (by simp) ?_
  have h9 := call9 false true [awake1, awake2] [] 16 awake_small ⟨by simp, by simp⟩ (by simp) (by simp)
  rw [awake_is] at h9
  have h9' := PCalls.sub h9 (Sub.wk awake_wk (Sub.nil (Sub.refl _)))
  simp [c7, List.range_succ]
  refine xcall_p h9' (by simp [awake1, awake2, awakeV, List.range_succ]) ?_
  have e1 : ∀ n : Int, eqI n n = true := fun n => eqI_t.2 rfl
  have e2 : ∀ n : ByteArray, eqS n n = true := fun n => eqS_t.2 rfl
  simp [awakeImg, LRes.av, Img.av, DDef.av, cr7, e1, e2]
end Go.Pm

/- LkQ9: the law LinkImages answers true. -/
namespace Go.Pm
open Go Go.Proofs
attribute [-simp] List.getElem?_map

theorem placeR_tuple (x : Img) (a : Int) : ∃ n s k e, placeR x a = .tuple [.str n, .int .i64 s, .int .i64 k, .int .i64 e] := by
  unfold placeR
  split
  · cases placeF x a with
    | none => exact ⟨_, _, _, _, rfl⟩
    | some r => exact ⟨_, _, _, _, rfl⟩
  · exact ⟨_, _, _, _, rfl⟩
theorem mapAV_tuple (x : Img) : ∃ s e, mapAV x = .tuple [.str s, .int .i64 e] := by
  unfold mapAV
  split
  · exact ⟨_, _, rfl⟩
  · exact ⟨_, _, rfl⟩

set_option maxHeartbeats 4000000 in
theorem call5 (x : Img) (hx : x.Small) (hll : x.lines.length ≤ 1048576) (hdl : x.defs.length ≤ 1048576) (hnl : x.names.length ≤ 1048576) (a : Int) : PCalls Try.prog 5 [.agg x.av, .int .i64 a] fun out => out = .ret (.bool true) := by
  refine ok5.pcalls (by simp) ?_
  simp [c5, Img.av]
  refine xcall_p call7 (by simp) ?_
  have hw1 : IntKind.i64.wrap (x.defs.length + x.names.length) = x.defs.length + x.names.length := wrap64 (by omega) (by omega)
  have hw2 : IntKind.i64.wrap (x.defs.length + x.names.length + x.lines.length) = x.defs.length + x.names.length + x.lines.length := wrap64 (by omega) (by omega)
  simp [hw1, hw2]
  cases h1 : ltI 3000 (x.code.size : Int) with
  | true => simp [cr5]
  | false =>
  simp [hw1, hw2]
  cases h2 : ltI 200 ((x.defs.length : Int) + x.names.length + x.lines.length) with
  | true => simp [cr5]
  | false =>
  simp
  refine xcall_p (call13 x hx) (by simp [Img.av]) ?_
  simp
  refine xcall_p (call18 x hx (by omega)) (by simp [Img.av]) ?_
  have h19 := call19 x hx (by omega)
  obtain ⟨ms, me, hm⟩ := mapAV_tuple x
  rw [hm] at h19
  rw [hm]
  simp
  refine xcall_p h19 (by simp [Img.av]) ?_
  have es : ∀ s : ByteArray, eqS s s = true := fun s => eqS_t.2 rfl
  have ei : ∀ n : Int, eqI n n = true := fun n => eqI_t.2 rfl
  simp [es, ei]
  refine wpS_loopS (ι := Nat) (fun i => [(1, .int .i64 a), (2, .ptr 0 0 0), (9, .int .i64 i)]) (fun i => ⟨[(0, .cells x.av)], 1⟩) (fun i => 40 - i) (fun i => i ≤ 40) 0 (Nat.zero_le _) (Sim.of_le (Env.le_of (by simp)) (Mem.le_of rfl (by simp [Img.av]))) ?_
  intro i hi
  have hw : IntKind.i64.wrap (i + 1) = i + 1 := wrap64 (by omega) (by omega)
  simp [Img.av]
  refine br_cond rfl (fun h => ?_) (fun h => ?_)
  · have hlt : i < 40 := by have := ltI_t.1 h; omega
    simp
    have both : ∀ n : Int, PCalls Try.prog 20 [.agg x.av, .int .i64 n] (fun out => out = .ret (placeR x n)) ∧ PCalls Try.prog 21 [.agg x.av, .int .i64 n] (fun out => out = .ret (placeR x n)) := fun n => ⟨call20 x hx n, call21 x hx n⟩
    cases h3 : eqI (i : Int) 0 with
    | true =>
      obtain ⟨h20, h21⟩ := both a
      obtain ⟨n, s, k, e, hp⟩ := placeR_tuple x a
      rw [hp] at h20 h21
      simp
      refine xcall_p (call13 x hx) (by simp [Img.av]) ?_
      simp
      refine xcall_p h20 (by simp [Img.av]) ?_
      simp
      refine xcall_p h21 (by simp [Img.av]) ?_
      simp [es, ei, hw]
      exact ⟨i + 1, by omega, by omega, Sim.of_le (Env.le_of (by simp)) (Mem.le_of rfl (by simp))⟩
    | false =>
      obtain ⟨h20, h21⟩ := both (IntKind.i64.wrap (IntKind.i64.wrap (x.base + i) - 2))
      obtain ⟨n, s, k, e, hp⟩ := placeR_tuple x (IntKind.i64.wrap (IntKind.i64.wrap (x.base + i) - 2))
      rw [hp] at h20 h21
      simp
      refine xcall_p (call13 x hx) (by simp [Img.av]) ?_
      simp
      refine xcall_p h20 (by simp [Img.av]) ?_
      simp
      refine xcall_p h21 (by simp [Img.av]) ?_
      simp [es, ei, hw]
      exact ⟨i + 1, by omega, by omega, Sim.of_le (Env.le_of (by simp)) (Mem.le_of rfl (by simp))⟩
  · simp [cr5]
end Go.Pm

/- LkC34: what moving an image changes. -/
namespace Go.Pm
open Go Go.Proofs
attribute [-simp] List.getElem?_map List.length_flatten

/-! A number of four bytes. -/
theorem orF_nat {a b : Nat} (ha : a < 4294967296) (hb : b < 4294967296) : orF a b = ((a ||| b : Nat) : Int) := by
  have h := Nat.or_lt_two_pow (n := 32) (x := a) (y := b) (by omega) (by omega)
  unfold orF
  rw [BitVec.toNat_or, BitVec.ofInt_natCast, BitVec.ofInt_natCast, BitVec.toNat_ofNat, BitVec.toNat_ofNat, Nat.mod_eq_of_lt (by omega), Nat.mod_eq_of_lt (by omega)]
  exact wrap64 (by omega) (by omega)
theorem or_add (a b k q : Nat) (hq : q = 2 ^ k) (h : b < q) : a * q ||| b = a * q + b := by
  subst hq
  rw [← Nat.shiftLeft_eq]
  exact (Nat.shiftLeft_add_eq_or_of_lt h a).symm
theorem numF_sum (s : ByteArray) : numF s = (((byteAt s 0).toNat * 16777216 + (byteAt s 1).toNat * 65536 + (byteAt s 2).toNat * 256 + (byteAt s 3).toNat : Nat) : Int) := by
  have h0 := (byteAt s 0).toNat_lt
  have h1 := (byteAt s 1).toNat_lt
  have h2 := (byteAt s 2).toNat_lt
  have h3 := (byteAt s 3).toNat_lt
  have sh : ∀ i k : Nat, ∀ q : Nat, q = 2 ^ k → q ≤ 16777216 → shF s i k = (((byteAt s i).toNat * q : Nat) : Int) := by
    intro i k q hq hle
    have hb := (byteAt s i).toNat_lt
    unfold shF
    have e : ((byteAt s i).toNat : Int) * 2 ^ k = (((byteAt s i).toNat * q : Nat) : Int) := by rw [hq]; simp
    rw [e]
    have : (byteAt s i).toNat * q ≤ 256 * 16777216 := Nat.mul_le_mul (by omega) hle
    exact wrap64 (by omega) (by omega)
  unfold numF
  rw [sh 0 24 16777216 rfl (by omega), sh 1 16 65536 rfl (by omega), sh 2 8 256 rfl (by omega)]
  generalize (byteAt s 0).toNat = a at *
  generalize (byteAt s 1).toNat = b at *
  generalize (byteAt s 2).toNat = c at *
  generalize (byteAt s 3).toNat = d at *
  rw [orF_nat (by omega) (by omega)]
  rw [or_add a (b * 65536) 24 16777216 rfl (by omega), orF_nat (by omega) (by omega)]
  rw [show a * 16777216 + b * 65536 = (a * 256 + b) * 65536 by omega, or_add (a * 256 + b) (c * 256) 16 65536 rfl (by omega), orF_nat (by omega) (by omega)]
  rw [show (a * 256 + b) * 65536 + c * 256 = (a * 65536 + b * 256 + c) * 256 by omega, or_add _ d 8 256 rfl (by omega)]
theorem numF_bounds (s : ByteArray) : 0 ≤ numF s ∧ numF s < 4294967296 := by
  have h0 := (byteAt s 0).toNat_lt
  have h1 := (byteAt s 1).toNat_lt
  have h2 := (byteAt s 2).toNat_lt
  have h3 := (byteAt s 3).toNat_lt
  rw [numF_sum]
  omega
theorem byteF_val (n : Int) (k : Nat) (q : Int) (hq : q = 2 ^ k) (h0 : 0 < q) : ((byteF n k).toNat : Int) = n / q % 256 := by
  unfold byteF
  rw [← hq, u8_wrap, Int.fdiv_eq_ediv_of_nonneg _ (by omega)]
  have h0 : 0 ≤ n / q % 256 := Int.emod_nonneg _ (by omega)
  have h1 : n / q % 256 < 256 := Int.emod_lt_of_pos _ (by omega)
  rw [UInt8.toNat_ofNat']
  omega
theorem numF_four (n : Int) : numF ⟨(fourL n).toArray⟩ = n % 4294967296 := by
  rw [numF_sum]
  have b0 := byteF_val n 24 16777216 rfl (by omega)
  have b1 := byteF_val n 16 65536 rfl (by omega)
  have b2 := byteF_val n 8 256 rfl (by omega)
  have b3 := byteF_val n 0 1 rfl (by omega)
  have e0 : byteAt ⟨(fourL n).toArray⟩ 0 = byteF n 24 := rfl
  have e1 : byteAt ⟨(fourL n).toArray⟩ 1 = byteF n 16 := rfl
  have e2 : byteAt ⟨(fourL n).toArray⟩ 2 = byteF n 8 := rfl
  have e3 : byteAt ⟨(fourL n).toArray⟩ 3 = byteF n 0 := rfl
  rw [e0, e1, e2, e3]
  omega

/-! Bytes by fours. -/
def R4 (δ : Int) (x y : List UInt8) : Prop := x = y ∨ ∃ v, x = fourL v ∧ y = fourL (v + δ)
structure Q4 (δ : Int) (a b : List UInt8) : Prop where
  len : a.length = b.length
  each : ∀ k, R4 δ ((a.drop (4 * k)).take 4) ((b.drop (4 * k)).take 4)
theorem Q4.refl (δ : Int) (a : List UInt8) : Q4 δ a a := ⟨rfl, fun _ => .inl rfl⟩
theorem Q4.zeros {δ : Int} {a b : List UInt8} (h : Q4 δ a b) (z : List UInt8) : Q4 δ (a ++ z) (b ++ z) := by
  obtain ⟨hl, he⟩ := h
  refine ⟨by simp [hl], fun k => ?_⟩
  rcases Nat.lt_or_ge a.length (4 * k) with h1 | h1
  · left
    have ha : a.drop (4 * k) = [] := List.drop_eq_nil_of_le (by omega)
    have hb : b.drop (4 * k) = [] := List.drop_eq_nil_of_le (by omega)
    rw [List.drop_append, List.drop_append, ha, hb, hl]
  · rw [List.drop_append_of_le_length h1, List.drop_append_of_le_length (by omega)]
    rcases Nat.lt_or_ge a.length (4 * k + 4) with h2 | h2
    · left
      have h3 : a.drop (4 * k) = b.drop (4 * k) := by
        have hk := he k
        rw [List.take_of_length_le (by simp; omega), List.take_of_length_le (by simp; omega)] at hk
        rcases hk with hk | ⟨v, hv, _⟩
        · exact hk
        · have := congrArg List.length hv
          simp [fourL] at this
          omega
      rw [h3]
    · rw [List.take_append_of_le_length (by simp; omega), List.take_append_of_le_length (by simp; omega)]
      exact he k
theorem Q4.append {δ : Int} {a b a' b' : List UInt8} (h : Q4 δ a b) (h' : Q4 δ a' b') (h4 : a.length % 4 = 0) : Q4 δ (a ++ a') (b ++ b') := by
  obtain ⟨hl, he⟩ := h
  obtain ⟨hl', he'⟩ := h'
  refine ⟨by simp [hl, hl'], fun k => ?_⟩
  rcases Nat.lt_or_ge (4 * k) a.length with h1 | h1
  · rw [List.drop_append_of_le_length (by omega), List.drop_append_of_le_length (by omega), List.take_append_of_le_length (by simp; omega), List.take_append_of_le_length (by simp; omega)]
    exact he k
  · have e : 4 * k - a.length = 4 * (k - a.length / 4) := by omega
    have ha : a.drop (4 * k) = [] := List.drop_eq_nil_of_le (by omega)
    have hb : b.drop (4 * k) = [] := List.drop_eq_nil_of_le (by omega)
    rw [List.drop_append, List.drop_append, ha, hb, ← hl, List.nil_append, List.nil_append, e]
    exact he' _
theorem drop_splice {a s : List UInt8} {p k : Nat} (hp : p % 4 = 0) (hs : s.length = 4) (hle : p + 4 ≤ a.length) : ((splice a p s).drop (4 * k)).take 4 = if 4 * k = p then s else (a.drop (4 * k)).take 4 := by
  apply List.ext_getElem?
  intro i
  have hlen := splice_len (b := a) (s := s) (n := p) (by omega)
  have hget : ∀ j, (splice a p s)[j]? = if j < p then a[j]? else if j < p + 4 then s[j - p]? else a[j]? := by
    intro j
    unfold splice
    rw [List.append_assoc]
    split
    · rename_i h
      rw [List.getElem?_append_left (by simp; omega), List.getElem?_take, if_pos h]
    · rename_i h
      rw [List.getElem?_append_right (by simp; omega), List.length_take, Nat.min_eq_left (by omega)]
      split
      · rw [List.getElem?_append_left (by omega)]
      · rw [List.getElem?_append_right (by omega), List.getElem?_drop, hs]
        congr 1; omega
  by_cases hk : 4 * k = p
  · rw [if_pos hk, List.getElem?_take, List.getElem?_drop, hget]
    by_cases hi : i < 4
    · rw [if_pos hi, if_neg (by omega), if_pos (by omega), show 4 * k + i - p = i by omega]
    · rw [if_neg hi, List.getElem?_eq_none (by omega)]
  · rw [if_neg hk, List.getElem?_take, List.getElem?_take, List.getElem?_drop, List.getElem?_drop, hget]
    by_cases hi : i < 4
    · rw [if_pos hi, if_pos hi]
      by_cases h1 : 4 * k + i < p
      · rw [if_pos h1]
      · rw [if_neg h1, if_neg (by omega)]
    · rw [if_neg hi, if_neg hi]
theorem Q4.splice {δ : Int} {a b : List UInt8} (h : Q4 δ a b) {p : Nat} {v v' : Int} (hp : p % 4 = 0) (hle : p + 4 ≤ a.length) (hv : v' = v ∨ v' = v + δ) : Q4 δ (splice a p (fourL v)) (splice b p (fourL v')) := by
  obtain ⟨hl, he⟩ := h
  refine ⟨by rw [splice_len (by simp [fourL]; omega), splice_len (by simp [fourL]; omega), hl], fun k => ?_⟩
  rw [drop_splice hp rfl hle, drop_splice hp rfl (by omega)]
  split
  · rcases hv with rfl | rfl
    · exact .inl rfl
    · exact .inr ⟨v, rfl, rfl⟩
  · exact he k
theorem Q4.patch {δ : Int} {nm nm' : List DDef} (hn : ∀ n, outerF nm' n = (outerF nm n).map (· + δ)) : ∀ {rs : List DRef} {a b : List UInt8}, Q4 δ a b → (∀ r ∈ rs, r.at_.toNat % 4 = 0 ∧ r.at_.toNat + 4 ≤ a.length) → Q4 δ (patchRefs nm 0 rs a) (patchRefs nm' 0 rs b)
  | [], a, b, h, _ => h
  | r :: rs, a, b, h, hr => by
    obtain ⟨h1, h2⟩ := hr r List.mem_cons_self
    rw [patchRefs, patchRefs, Nat.zero_add]
    refine Q4.patch hn (h.splice h1 h2 ?_) fun x hx => ?_
    · rw [hn]
      cases outerF nm r.name with
      | none => exact .inl rfl
      | some v => right; simp only [Option.map_some, Option.getD_some]; omega
    · rw [splice_len (by simp [fourL]; omega)]
      exact hr x (List.mem_cons_of_mem _ hx)

theorem deckOk_refs {o : Deck} (h : deckOk o = true) : ∀ r ∈ o.refs, r.at_.toNat % 4 = 0 ∧ r.at_.toNat + 4 ≤ o.code.size := by
  unfold deckOk at h
  simp only [Bool.and_eq_true] at h
  obtain ⟨⟨_, h3⟩, _⟩ := h
  rw [List.all_eq_true] at h3
  intro r hr
  obtain ⟨i, hi, rfl⟩ := ix_of_mem hr
  have := h3 i (List.mem_range.2 hi)
  unfold refOk at this
  simp only [Bool.and_eq_true] at this
  obtain ⟨⟨⟨⟨_, a⟩, b⟩, _⟩, _⟩ := this
  have a := withinF_t a
  have b := eqI_t.1 b
  rw [Int.tmod_eq_emod_of_nonneg a.1] at b
  omega
theorem allK_moved {δ : Int} {nm nm' : List DDef} (hn : ∀ n, outerF nm' n = (outerF nm n).map (· + δ)) (g : List Deck) (hg : ∀ o ∈ g, deckOk o = true) : Q4 δ (allK nm g) (allK nm' g) := by
  revert hg
  refine snoc_ind (P := fun g => (∀ o ∈ g, deckOk o = true) → Q4 δ (allK nm g) (allK nm' g)) ?_ ?_ g
  · intro _; exact Q4.refl _ _
  · intro g o ih hg
    have h := ih fun x hx => hg x (List.mem_append_left _ hx)
    have ho := hg o (by simp)
    rw [allK_snoc, allK_snoc, stepK, stepK, ← h.len]
    refine (h.zeros _).append ?_ ?_
    · exact Q4.patch hn (Q4.refl _ _) (by simpa using deckOk_refs ho)
    · rw [List.length_append, List.length_replicate, padN]; omega

/-! The state at another base. -/
theorem outer_shift (δ : Int) (n : ByteArray) : ∀ l : List DDef, outerF (l.map (shD δ)) n = (outerF l n).map (· + δ)
  | [] => rfl
  | d :: l => by
    have ih := outer_shift δ n l
    unfold outerF at ih ⊢
    rw [List.map_cons, List.find?_cons, List.find?_cons]
    show Option.map _ (match eqS d.name n with | true => _ | false => _) = _
    cases eqS d.name n with
    | true => simp only [shD, Option.map_some]; congr 1; omega
    | false => exact ih
structure Shift (δ : Int) (s s' : LSt) : Prop where
  end_ : s'.end_ = s.end_ + δ
  places : s'.places = s.places.map (shD δ)
  defs : s'.defs = s.defs.map (shD δ)
theorem shift_all (b δ : Int) (h0 : 0 ≤ b) (h1 : b ≤ 65536) (h8 : b % 8 = 0) (h0' : 0 ≤ b + δ) (h1' : b + δ ≤ 65536) (h8' : (b + δ) % 8 = 0) (g : List Deck) (hf : ∀ o ∈ g, DeckFine o) (hl : g.length ≤ 2000000) : Shift δ (stF b g) (stF (b + δ) g) := by
  revert hf hl
  refine snoc_ind (P := fun g => (∀ o ∈ g, DeckFine o) → g.length ≤ 2000000 → Shift δ (stF b g) (stF (b + δ) g)) ?_ ?_ g
  · intro _ _; exact ⟨rfl, rfl, rfl⟩
  · intro g o ih hf hl
    rw [List.length_append, List.length_singleton] at hl
    have hfg : ∀ x ∈ g, DeckFine x := fun x hx => hf x (List.mem_append_left _ hx)
    have h := ih hfg (by omega)
    have ho := hf o (by simp)
    have g1 := (both b h0 h1 h8 g hfg (by omega)).good
    have g2 := (both (b + δ) h0' h1' h8' g hfg (by omega)).good
    obtain ⟨_, _, e3, _, e5, _⟩ := putL_same (putL_false (stF b g) o)
    obtain ⟨_, _, f3, _, f5, _⟩ := putL_same (putL_false (stF (b + δ) g) o)
    have hup : upF (stF (b + δ) g).end_ = upF (stF b g).end_ + δ := by
      rw [h.end_, upF, upF]; omega
    rw [stF_snoc, stF_snoc]
    refine ⟨by rw [e5, f5, hup]; omega, by rw [e3, f3, h.places, hup]; simp [shD, Int.add_comm], ?_⟩
    rw [putNF_defs ho.names, putNF_defs ho.names, h.defs, hup, List.map_append, List.map_map]
    congr 1
    have hfil : (fun d : DDef => !(outerF (stF (b + δ) g).nmap d.name).isSome) = fun d => !(outerF (stF b g).nmap d.name).isSome := by
      funext d
      rw [g1.same, g2.same, h.defs, outer_shift, Option.isSome_map]
    rw [hfil]
    refine List.map_congr_left fun d _ => ?_
    simp only [shD, Function.comp_apply]
    congr 1; omega

/-- An image and the same at another base. -/
structure Moved (w m : Img) (δ : Int) : Prop where
  code : m.code.size = w.code.size
  names : m.names.length = w.names.length
  at_ : ∀ i, i < w.names.length → (ix m.names i).at_ - (ix w.names i).at_ = δ
  num : ∀ k, 4 * k + 4 ≤ w.code.size → numF (w.code.extract (4 * k) (4 * k + 4)) = numF (m.code.extract (4 * k) (4 * k + 4)) ∨ IntKind.u32.wrap (numF (m.code.extract (4 * k) (4 * k + 4)) - numF (w.code.extract (4 * k) (4 * k + 4))) = IntKind.u32.wrap δ
theorem extract_list (c : List UInt8) (k : Nat) : (⟨c.toArray⟩ : ByteArray).extract (4 * k) (4 * k + 4) = ⟨((c.drop (4 * k)).take 4).toArray⟩ := by
  apply ByteArray.ext
  rw [ByteArray.data_extract]
  simp
theorem moved {l : List Deck} {libs : List (List Deck)} {base to_ : Int} {w m : Img} (hl : SmallL l) (hb : SmallLL libs) (hsum : l.length + libs.flatten.length ≤ 2000000) (hw : linkL l libs base = .good w) (hm : linkL l libs to_ = .good m) : Moved w m (to_ - base) := by
  obtain ⟨g, hg⟩ := linkL_gath hl hb hsum hw
  obtain ⟨g', hg'⟩ := linkL_gath hl hb hsum hm
  have hgg : g' = g := by
    have := hg.gath.symm.trans hg'.gath
    injection this with h _
    exact h.symm
  subst hgg
  obtain ⟨b1, b2, b3⟩ := baseF_t hg.based
  obtain ⟨c1, c2, c3⟩ := baseF_t hg'.based
  have hfine : ∀ o ∈ g', DeckFine o := fun o ho => deck_fine (hg.fine o ho)
  have hs := shift_all base (to_ - base) b1 (by omega) b3 (by omega) (by omega) (by rw [show base + (to_ - base) = to_ by omega]; exact c3) g' hfine hg.len
  rw [show base + (to_ - base) = to_ by omega] at hs
  have B1 := both base b1 (by omega) b3 g' hfine hg.len
  have B2 := both to_ c1 (by omega) c3 g' hfine hg.len
  have hK : ∀ {b : Int} (_ : Both b g'), imageCode (stF b g') b = allK (stF b g').nmap g' := by
    intro b B
    unfold imageCode
    have he := B.end_
    rw [(got b g').objs, B.codeL _ _ (by omega)]
    rw [show ((stF b g').end_ - b).toNat - (rF b g').code.size = 0 by omega]
    simp
  have hnm : ∀ n, outerF (stF to_ g').nmap n = (outerF (stF base g').nmap n).map (· + (to_ - base)) := by
    intro n
    rw [B1.good.same, B2.good.same, hs.defs, outer_shift]
  have hq := allK_moved hnm g' fun o ho => (hg.fine o ho).2
  have hwc : w.code = ⟨(allK (stF base g').nmap g').toArray⟩ := by rw [hg.img, ← hK B1]; rfl
  have hmc : m.code = ⟨(allK (stF to_ g').nmap g').toArray⟩ := by rw [hg'.img, ← hK B2]; rfl
  have hwn : w.names = (stF base g').places := by rw [hg.img]; rfl
  have hmn : m.names = (stF to_ g').places := by rw [hg'.img]; rfl
  refine ⟨?_, by rw [hwn, hmn, hs.places, List.length_map], fun i hi => ?_, fun k hk => ?_⟩
  · rw [hwc, hmc]
    show (allK (stF to_ g').nmap g').toArray.size = (allK (stF base g').nmap g').toArray.size
    rw [List.size_toArray, List.size_toArray, hq.len]
  · rw [hwn] at hi
    rw [hwn, hmn, hs.places, ix_map hi, shD]
    simp only; omega
  · rw [hwc, hmc, extract_list, extract_list]
    rcases hq.each k with h | ⟨v, h1, h2⟩
    · left; rw [h]
    · right
      rw [h1, h2, numF_four, numF_four, u32_wrap, u32_wrap]
      omega
end Go.Pm

/- LkC35: the law LinkMoves answers true. -/
namespace Go.Pm
open Go Go.Proofs
attribute [-simp] List.getElem?_map List.length_flatten

theorem Wk.agg {cs cs' : List AV} (hl : cs'.length = cs.length) (h : ∀ (j : Nat) (x : AV), cs'[j]? = some x → ∃ y, cs[j]? = some y ∧ Wk y x) : Wk (.agg cs) (.agg cs') := by
  intro σ K w u hv
  rw [VR] at hv ⊢
  obtain ⟨us, h1, h2⟩ := hv
  refine ⟨us, h1, ?_⟩
  rw [VRs_iff] at h2 ⊢
  refine ⟨by rw [hl]; exact h2.1, fun j x hj => ?_⟩
  obtain ⟨y, hy, hw⟩ := h j x hj
  obtain ⟨v, hv1, hv2⟩ := h2.2 j y hy
  exact ⟨v, hv1, hw _ _ _ _ hv2⟩
theorem xcall_b {P : Program} {imp : List FuncId} {Q : Post} {e : Env} {m : Mem} {fs : List Fr} {l : List SOp} {d : List Nat} {dst : Option Nat} {f : FuncId} {xs ys : List AV} (h : PCalls P f ys fun out => ∃ b, out = .ret (.bool b)) (hx : tmpAs m xs = some ys)
    (hk : ∀ b, xops P imp l d fs Q (e.put dst (.bool b)) m) : xcall P imp f xs dst l d fs Q e m := by
  refine ⟨_, h.acalls hx, ?_⟩
  rintro out m' ⟨⟨b, rfl⟩, rfl⟩
  exact (hk b).out
def imgNone : Img := ⟨0, ⟨#[]⟩, [], [], []⟩
theorem none_wk : Wk (.agg img0) (.agg imgNone.av) := by
  refine Wk.agg rfl fun j x hj => ?_
  match j with
  | 0 => injection hj with hj; subst hj; exact ⟨_, rfl, Wk.refl _⟩
  | 1 => injection hj with hj; subst hj; exact ⟨_, rfl, Wk.refl _⟩
  | 2 => injection hj with hj; subst hj; exact ⟨_, rfl, Wk.nil⟩
  | 3 => injection hj with hj; subst hj; exact ⟨_, rfl, Wk.nil⟩
  | 4 => injection hj with hj; subst hj; exact ⟨_, rfl, Wk.nil⟩
  | n + 5 => simp [Img.av] at hj
theorem none_small : imgNone.Small := ⟨by decide, by simp [imgNone], by simp [imgNone], by simp [imgNone], by simp [imgNone], by simp [imgNone]⟩
theorem sameL_refl (x : Img) : sameL x x = true := by
  have e1 : ∀ n : Int, eqI n n = true := fun n => eqI_t.2 rfl
  have e2 : ∀ n : ByteArray, eqS n n = true := fun n => eqS_t.2 rfl
  have hd : ∀ l : List DDef, defsEq l l = true := fun l => by
    unfold defsEq
    rw [e1, Bool.true_and]
    exact all_t fun i _ => by simp [eqD, e1, e2]
  have hl : ∀ l : List DLine, linesEq l l = true := fun l => by
    unfold linesEq
    rw [e1, Bool.true_and]
    exact all_t fun i _ => by simp [eqL, e1]
  unfold sameL
  rw [e1, e2, hd, hl, hd]; rfl
theorem sameF_refl (x : Img) : sameF x x = true := by rw [sameF_sameL]; exact sameL_refl x

theorem ext_size {c : ByteArray} {n a : Nat} (h : c.size = n) (hle : a + 4 ≤ n) : 4 ≤ (c.extract a (a + 4)).size := by
  rw [ByteArray.size_extract, h, Nat.min_eq_left hle, Nat.add_sub_cancel_left]
  exact Nat.le_refl _

theorem diff_of {a b : Int} (h1 : 0 ≤ a ∧ a < 4294967296) (h2 : 0 ≤ b ∧ b < 4294967296) : IntKind.i64.wrap (b - a) = b - a := wrap64 (by omega) (by omega)
theorem numF_diff (X Y : ByteArray) : IntKind.i64.wrap (numF Y - numF X) = numF Y - numF X := diff_of (numF_bounds X) (numF_bounds Y)

set_option maxHeartbeats 8000000 in
theorem call3 (l : List Deck) (libs : List (List Deck)) (base to_ : Int) (hl : SmallL l) (hb : SmallLL libs) (hsum : l.length + libs.flatten.length ≤ 2000000) :
    PCalls Try.prog 3 [decksAV l, .list true 1 (libs.map libAV), .int .i64 base, .int .i64 to_] fun out => out = .ret (.bool true) := by
  refine ok3.pcalls (by simp [decksAV]) ?_
  simp [c3, decksAV]
  refine xcall_p call7 (by simp) ?_
  simp
  refine xcall_b (call8 l libs hl hb) (by simp [decksAV]) fun b => ?_
  cases b with
  | true => simp [cr3]
  | false =>
  simp
  refine xcall_p (call10 true l hl) (by simp) ?_
  simp [decksAV]
  refine xcall_p (call11 true libs hb) (by simp) ?_
  simp
  refine xcall_p (call9 true true l libs base hl hb hb.len hsum) (by simp) ?_
  have e0 : eqI 0 0 = true := rfl
  cases hw : linkL l libs base with
  | bad e n =>
    have he : eqI e 0 = false := eqI_f.2 (linkL_bad hw)
    simp [LRes.av, img0, he, cr3]
  | good w =>
  have hws := linkL_small hl hb hsum hw
  obtain ⟨g, hg⟩ := linkL_gath hl hb hsum hw
  have hwb : w.base = base := by rw [hg.img]; rfl
  have hmv : ∀ t, moveL w l libs t = linkL l libs t := by
    intro t
    unfold moveL
    rw [hwb, hw]
    simp only
    rw [if_pos (sameL_refl w)]
  simp [LRes.av, Img.av, e0]
  refine xcall_p (call13 w hws) (by simp [Img.av]) ?_
  simp
  refine xcall_p (call10 true l hl) (by simp) ?_
  simp [decksAV]
  refine xcall_p (call11 true libs hb) (by simp) ?_
  simp
  refine xcall_p (call12 true true w l libs to_ hl hb hb.len hsum) (by simp [Img.av]) ?_
  rw [hmv]
  cases hm : linkL l libs to_ with
  | bad e n =>
    have he : eqI e 0 = false := eqI_f.2 (linkL_bad hm)
    have hee : eqI e e = true := eqI_t.2 rfl
    have h14 := call14 true true w l libs to_ hl hb hsum (linkL_fine hl hb hsum hw) hws
    rw [hmv, hm] at h14
    simp [LRes.avE, img0, Img.av]
    refine xcall_p h14 (by simp [Img.av]) ?_
    simp [LRes.avE, img0, Img.av]
    have h15 := PCalls.sub (call15 imgNone imgNone none_small none_small) (Sub.wk none_wk (Sub.wk none_wk (Sub.refl _)))
    rw [sameF_refl] at h15
    refine xcall_p h15 (by simp [img0]) ?_
    simp [hee, he, cr3]
  | good m =>
  have hms := linkL_small hl hb hsum hm
  have h14 := call14 true true w l libs to_ hl hb hsum (linkL_fine hl hb hsum hw) hws
  rw [hmv, hm] at h14
  simp [LRes.avE, Img.av]
  refine xcall_p h14 (by simp [Img.av]) ?_
  simp [LRes.avE, Img.av]
  have h15 := call15 m m hms hms
  rw [sameF_refl] at h15
  refine xcall_p h15 (by simp [Img.av]) ?_
  have mv := moved hl hb hsum hw hm
  have e1 : ∀ n : Int, eqI n n = true := fun n => eqI_t.2 rfl
  have hwc := hws.code
  have hwn := hws.names
  have hbb : 0 ≤ base ∧ base ≤ 65528 := by have := baseF_t hg.based; omega
  obtain ⟨g', hg'⟩ := linkL_gath hl hb hsum hm
  have htt : 0 ≤ to_ ∧ to_ ≤ 65528 := by have := baseF_t hg'.based; omega
  have hwd : IntKind.i64.wrap (to_ - base) = to_ - base := wrap64 (by omega) (by omega)
  simp [e0, mv.code, mv.names, e1]
  refine wpS_loopS (ι := Nat) (fun i => [(0, .list true 5 (l.map Deck.av)), (1, .list true 1 (libs.map libAV)), (2, .int .i64 base), (3, .int .i64 to_), (9, .ptr 0 0 0), (12, .ptr 1 1 0), (15, .int .i64 i)]) (fun _ => ⟨[(0, .cells w.av), (1, .cells m.av)], 3⟩) (fun i => w.names.length - i) (fun i => i ≤ w.names.length) 0 (Nat.zero_le _) (Sim.of_le (Env.le_of (by simp)) (Mem.le_of rfl (by simp [Img.av]))) ?_
  intro i hi
  have hwi : IntKind.i64.wrap (i + 1) = i + 1 := wrap64 (by omega) (by omega)
  simp [Img.av]
  refine br_cond rfl (fun h => ?_) (fun h => ?_)
  · have hlt : i < w.names.length := by have := ltI_t.1 h; omega
    have h2 : ltI ↑i ↑m.names.length = true := ltN (by rw [mv.names]; exact hlt)
    have hat := mv.at_ i hlt
    simp [h, h2, idxM, DDef.av, hat, hwd, e1, hwi]
    exact ⟨i + 1, by omega, by omega, Sim.of_le (Env.le_of (by simp)) (Mem.le_of rfl (by simp))⟩
  simp [h]
  refine wpS_loopS (ι := Nat) (fun k => [(0, .list true 5 (l.map Deck.av)), (1, .list true 1 (libs.map libAV)), (2, .int .i64 base), (3, .int .i64 to_), (9, .ptr 0 0 0), (12, .ptr 1 1 0), (16, .int .i64 (4 * (k : Int)))]) (fun _ => ⟨[(0, .cells w.av), (1, .cells m.av)], 3⟩) (fun k => w.code.size - 4 * k) (fun k => 4 * k ≤ w.code.size) 0 (Nat.zero_le _) (Sim.of_le (Env.le_of (by simp)) (Mem.le_of rfl (by simp [Img.av]))) ?_
  intro k hk
  have hw4 : IntKind.i64.wrap (4 * (k : Int) + 4) = 4 * (k : Int) + 4 := wrap64 (by omega) (by omega)
  simp [Img.av, hw4]
  refine br_cond rfl (fun h3 => ?_) (fun h3 => ?_)
  · have hle : 4 * k + 4 ≤ w.code.size := by have := leI_t.1 h3; omega
    have hmc := mv.code
    have hsl : ∀ c : ByteArray, c.size = w.code.size → sliceA true true 0 [.str c, .int .i64 (4 * (k : Int)), .int .i64 (4 * (k : Int) + 4)] = some (.str (c.extract (4 * k) (4 * k + 4))) := by
      intro c hc
      have t1 : (4 * (k : Int)).toNat = 4 * k := by omega
      have t2 : (4 * (k : Int) + 4).toNat = 4 * k + 4 := by omega
      simp [sliceA, boundsA, t1, t2]; omega
    have hs1 := hsl w.code rfl
    have hs2 := hsl m.code hmc
    have hnum := mv.num k hle
    have sz1 : 4 ≤ (w.code.extract (4 * k) (4 * k + 4)).size := ext_size rfl hle
    have sz2 : 4 ≤ (m.code.extract (4 * k) (4 * k + 4)).size := ext_size hmc hle
    generalize w.code.extract (4 * k) (4 * k + 4) = X at *
    generalize m.code.extract (4 * k) (4 * k + 4) = Y at *
    have hwyx := numF_diff X Y
    simp [hs1, hw4]
    refine xdcall_p rfl (call16 X sz1) (by simp) ?_
    simp [hs2, hw4]
    refine xdcall_p rfl (call16 Y sz2) (by simp) ?_
    simp
    cases hxy : eqI (numF X) (numF Y) with
    | true =>
      simp [hw4]
      exact ⟨k + 1, by omega, by omega, Sim.of_le (Env.le_of (by simp; omega)) (Mem.le_of rfl (by simp))⟩
    | false =>
      have hu : IntKind.u32.wrap (numF Y - numF X) = IntKind.u32.wrap (to_ - base) := by
        rcases hnum with h5 | h5
        · exact absurd h5 (eqI_f.1 hxy)
        · exact h5
      simp [hwyx, hwd, hu, e1, hw4]
      exact ⟨k + 1, by omega, by omega, Sim.of_le (Env.le_of (by simp; omega)) (Mem.le_of rfl (by simp))⟩
  · have hend := h3
    have hz : (⟨#[0, 0]⟩ : ByteArray).size = 2 := rfl
    have hcat : w.code.size + 2 ≤ 9223372036854775807 := by omega
    obtain ⟨w', hw'⟩ : ∃ w' : Img, w' = { w with code := w.code ++ ⟨#[0, 0]⟩ } := ⟨_, rfl⟩
    have hsz : (w.code ++ ⟨#[0, 0]⟩ : ByteArray).size = w.code.size + 2 := by rw [ByteArray.size_append]; rfl
    have hg1 := baseF_t hg.based
    have hlim : w.code.size ≤ 3000000000000 := by
      have h6 : ((w.code.size : Nat) : Int) = (stF base g).end_ - base := by
        have hgood := linkG_good hg
        rw [hg.img]
        show ((imageCode (stF base g) base).toArray.size : Int) = _
        rw [List.size_toArray, imageCode_len hgood]
        have := hgood.base1
        omega
      have := hg.end_
      omega
    have hws' : w'.Small := by
      rw [hw']
      exact ⟨by simp only [hsz]; omega, hws.defs, hws.lines, hws.names, hws.dname, hws.nname⟩
    have hbad : moveL w' l libs to_ = .bad 1 ⟨#[]⟩ := by
      have hb' : w'.base = base := by rw [hw']; exact hwb
      unfold moveL
      rw [hb', hw]
      simp only
      have hne : eqS w.code w'.code = false := by
        cases hx : eqS w.code w'.code with
        | false => rfl
        | true =>
          have := congrArg ByteArray.size (eqS_t.1 hx)
          rw [hw'] at this
          simp only [hsz] at this
          omega
      have : sameL w w' = false := by unfold sameL; rw [hne]; simp
      rw [this, if_neg (by simp)]
    have h12 := call12 true true w' l libs to_ hl hb hb.len hsum
    rw [hbad] at h12
    have hav : w'.av = [.int .i64 w.base, .str (w.code ++ ⟨#[0, 0]⟩), .list true 2 (w.defs.map DDef.av), .list true 2 (w.lines.map DLine.av), .list true 2 (w.names.map DDef.av)] := by rw [hw']; rfl
    have h13 := call13 w' hws'
    rw [hav] at h12 h13
    simp [h3, hz, hcat]
    refine xcall_p h13 (by simp) ?_
    simp
    refine xcall_p (call10 true l hl) (by simp) ?_
    simp [decksAV]
    refine xcall_p (call11 true libs hb) (by simp) ?_
    simp
    refine xcall_p h12 (by simp) ?_
    simp [LRes.avE, img0, e1, cr3]
end Go.Pm

/- LkJ: what the arguments' readings say: objects and libraries as values. -/
namespace Go.Pm
open Go Go.Proofs Go.Proofs.Ytolfkdphlgkekaa
attribute [-simp] List.getElem?_map List.length_flatten

section
variable {H : Type} {enc : TypeId × Value → H} {w : World}

theorem bulk_pos (d : DataW H) : 1 ≤ Rows.uptoBulk d := by
  cases d with
  | lit l => cases l <;> simp [Rows.uptoBulk]
  | nil => simp [Rows.uptoBulk]
  | ptr d => simp [Rows.uptoBulk]
  | slice elems spare => simp [Rows.uptoBulk]
  | agg parts => simp [Rows.uptoBulk]
  | iface t d => simp [Rows.uptoBulk]
  | map entries => simp [Rows.uptoBulk]
  | held h => simp [Rows.uptoBulk]
theorem bulk_part {d : DataW H} : ∀ {l : List (DataW H)}, d ∈ l → Rows.uptoBulk d ≤ Rows.uptoBulkAll l
  | [], h => by cases h
  | x :: r, h => by
    simp only [Rows.uptoBulkAll]
    rcases List.mem_cons.1 h with rfl | h
    · omega
    · have := bulk_part h; omega
theorem bulk_len : ∀ l : List (DataW H), l.length ≤ Rows.uptoBulkAll l
  | [] => by simp [Rows.uptoBulkAll]
  | x :: r => by
    have h1 := bulk_pos x
    have h2 := bulk_len r
    simp only [Rows.uptoBulkAll, List.length_cons]; omega

def KW (w : World) : Bool → Nat → Prop := fun _ b => b < w.heap.size

/-- A reading by this type is a value of this kind, of that size. -/
def Reads {α : Type} (enc : TypeId × Value → H) (w : World) (t : TypeId) (f : α → List AV) (wt : α → Nat) (Q : α → Prop) : Prop :=
  ∀ (fuel : Nat) (cs : List Value) (x : DataW H × List MemPlace), DataW.trod enc Try.prog w 0 (fun _ => true) true fuel t cs = some x →
    ∃ y : α, VRs [] (KW w) w (f y) cs ∧ wt y ≤ Rows.uptoBulk x.1 ∧ (Rows.uptoBulk x.1 ≤ 1048576 → Q y)

theorem reads_str : Reads enc w 9 (fun s : ByteArray => [.str s]) ByteArray.size fun s => s.size ≤ 1048576 := by
  intro fuel cs x h
  obtain ⟨s, rfl, rfl, _⟩ := DataW.trod_string Try.underlying9 h
  have hb : Rows.uptoBulk (DataW.lit (H := H) (.string s.data.toList)) = s.size + 1 := by simp [Rows.uptoBulk]
  refine ⟨s, ⟨_, _, rfl, by rw [VR], rfl⟩, ?_, ?_⟩
  · simp only [hb]; omega
  · simp only [hb]; omega
theorem reads_int : Reads enc w 3 (fun n : Int => [.int .i64 n]) (fun _ => 0) fun _ => True := by
  intro fuel cs x h
  obtain ⟨n, rfl, rfl, _⟩ := DataW.trod_int Try.underlying3 h
  exact ⟨n, ⟨_, _, rfl, by rw [VR], rfl⟩, Nat.zero_le _, fun _ => trivial⟩

theorem pick {α : Type} {R : Nat → α → Prop} : ∀ n, (∀ i, i < n → ∃ y, R i y) → ∃ ys : List α, ys.length = n ∧ ∀ (i : Nat) (y : α), ys[i]? = some y → R i y
  | 0, _ => ⟨[], rfl, fun i y h => by simp at h⟩
  | n + 1, h => by
    obtain ⟨ys, h1, h2⟩ := pick n fun i hi => h i (by omega)
    obtain ⟨y, hy⟩ := h n (by omega)
    refine ⟨ys ++ [y], by simp [h1], fun i z hz => ?_⟩
    rcases Nat.lt_or_ge i n with hi | hi
    · rw [List.getElem?_append_left (by omega)] at hz
      exact h2 i z hz
    · rw [List.getElem?_append_right (by omega), h1] at hz
      have hi2 : i - n = 0 := by
        rcases Nat.eq_zero_or_pos (i - n) with h3 | h3
        · exact h3
        · rw [List.getElem?_eq_none (by simp; omega)] at hz; cases hz
      rw [hi2] at hz
      injection hz with hz; subst hz
      have : i = n := by omega
      subst this; exact hy
theorem sum_bulk {α : Type} {wt : α → Nat} : ∀ (ys : List α) (es : List (DataW H × List MemPlace)), ys.length = es.length → (∀ (i : Nat) (y : α), ys[i]? = some y → ∃ e : DataW H × List MemPlace, es[i]? = some e ∧ wt y ≤ Rows.uptoBulk e.1) → (ys.map wt).sum ≤ Rows.uptoBulkAll (es.map (·.1))
  | [], es, _, _ => by simp
  | y :: ys, [], h, _ => by simp at h
  | y :: ys, e :: es, h, hh => by
    have ih := sum_bulk ys es (by simpa using h) fun i z hz => by simpa using hh (i + 1) z (by simpa using hz)
    obtain ⟨e', he, hw⟩ := hh 0 y rfl
    injection he with he; subst he
    simp only [List.map_cons, List.sum_cons, Rows.uptoBulkAll]
    omega

theorem reads_slice {α : Type} {t e : TypeId} {sz : Nat} {f : α → List AV} {wt : α → Nat} {Q : α → Prop} {wt' : List α → Nat} {Q' : List α → Prop} (he : Reads enc w e f wt Q) (ht : Try.prog.underlying t = some (.slice e)) (hsz : Try.prog.cellsOf e = sz) (h0 : 0 < sz)
    (hf : ∀ y, (f y).length = sz ∧ ∀ a ∈ f y, a.one = true)
    (hw : ∀ (ys : List α) (b : Nat), ys.length ≤ b → (ys.map wt).sum ≤ b → (b ≤ 1048576 → ∀ y ∈ ys, Q y) → wt' ys ≤ b ∧ (b ≤ 1048576 → Q' ys)) :
    Reads enc w t (fun ys : List α => [.list true sz (ys.map f)]) wt' Q' := by
  intro fuel cs x h
  rcases DataW.trod_slice ht h with ⟨rfl, rfl⟩ | ⟨a, len, cap, elems, rest, n, rfl, rfl, rfl, hb, hle, hcap, hel, hget, _, _⟩
  · obtain ⟨h1, h2⟩ := hw [] (Rows.uptoBulk (DataW.nil (H := H))) (by simp) (by simp) (by simp)
    refine ⟨[], ⟨_, _, rfl, ?_, rfl⟩, h1, h2⟩
    rw [VR]
    exact ⟨none, 0, 0, 0, rfl, Nat.le_refl _, .inl rfl, by simp [LR]⟩
  · rw [hsz] at hget
    obtain ⟨ys, hyl, hys⟩ := pick (R := fun i y => ∃ c e', w.cells? 0 (a.add (i * sz)) sz = some c ∧ elems[i]? = some e' ∧ VRs [] (KW w) w (f y) c ∧ wt y ≤ Rows.uptoBulk e'.1 ∧ (Rows.uptoBulk e'.1 ≤ 1048576 → Q y)) len fun i hi => by
      have hg := hget i hi
      have hlt : i < elems.length := by omega
      rw [List.getElem?_eq_getElem hlt, Option.bind_eq_some_iff] at hg
      obtain ⟨c, hc, hr⟩ := hg
      obtain ⟨y, hy⟩ := he _ _ _ hr
      exact ⟨y, c, elems[i], hc, List.getElem?_eq_getElem hlt, hy⟩
    have hbl : Rows.uptoBulkAll (elems.map (·.1)) ≤ Rows.uptoBulk (DataW.slice (elems.map (·.1)) (rest.map (·.1))) := by
      simp only [Rows.uptoBulk]; omega
    have hln := bulk_len (elems.map (·.1))
    rw [List.length_map, hel] at hln
    have hsum := sum_bulk (wt := wt) ys elems (by omega) fun i y hy => by
      obtain ⟨c, e', _, h2, _, h4, _⟩ := hys i y hy
      exact ⟨e', h2, h4⟩
    obtain ⟨h1, h2⟩ := hw ys (Rows.uptoBulk (DataW.slice (elems.map (·.1)) (rest.map (·.1)))) (by omega) (by omega) fun hsm y hy => by
      obtain ⟨i, hi, rfl⟩ := List.getElem_of_mem hy
      obtain ⟨c, e', _, h2, _, _, h5⟩ := hys i _ (List.getElem?_eq_getElem hi)
      refine h5 ?_
      have := bulk_part (d := e'.1) (l := elems.map (·.1)) (List.mem_map.2 ⟨e', List.mem_of_getElem? h2, rfl⟩)
      omega
    refine ⟨ys, ⟨_, _, rfl, ?_, rfl⟩, h1, h2⟩
    rw [VR]
    rcases Nat.eq_zero_or_pos len with hl0 | hlp
    · have : ys = [] := List.eq_nil_of_length_eq_zero (by omega)
      subst this
      exact ⟨some a, cap, 0, 0, by simp [hl0], by simp, .inl rfl, by simp [LR]⟩
    · obtain ⟨ab, ao, asp⟩ := a
      have hcell : ∀ (i : Nat) (y : α), ys[i]? = some y → ∃ c : List Value, VRs [] (KW w) w (f y) c ∧ c.length = sz ∧ ∀ j, j < sz → w.cell? (((⟨ab, ao, asp⟩ : Addr).add (i * sz)).add j) = c[j]? := fun i y hy => by
        obtain ⟨c, e', h3, _, h4, _⟩ := hys i y hy
        obtain ⟨_, h5, h6⟩ := World.cells?_some h3
        exact ⟨c, h4, h5, h6⟩
      have hfirst : ∃ u, w.cell? (((⟨ab, ao, asp⟩ : Addr).add (0 * sz)).add 0) = some u := by
        obtain ⟨c, h3, h4, h5⟩ := hcell 0 ys[0] (List.getElem?_eq_getElem (by omega))
        exact ⟨c[0], by rw [h5 0 h0]; exact List.getElem?_eq_getElem (by omega)⟩
      obtain ⟨u, hu⟩ := hfirst
      have hsp : asp = none := by simpa [Addr.add] using World.cell?_spot hu
      subst hsp
      have hadd : ∀ i j, ((⟨ab, ao, none⟩ : Addr).add i).add j = ⟨ab, ao + i + j, none⟩ := fun i j => by
        rcases Nat.eq_zero_or_pos i with rfl | hi <;> rcases Nat.eq_zero_or_pos j with rfl | hj <;> simp [Addr.add, Nat.ne_of_gt, *]
      rw [hadd] at hu
      have hK : ab < w.heap.size := by
        rcases Nat.lt_or_ge ab w.heap.size with h3 | h3
        · exact h3
        · have hno : w.heap[ab]? = none := by simp; omega
          simp [World.cell?, hno] at hu
      refine ⟨some ⟨ab, ao, none⟩, cap, ab, ao, by simp [hyl], by simp [hyl]; exact hle, .inr ⟨rfl, hK⟩, ?_⟩
      rw [LR_iff]
      intro i c hc
      rw [List.getElem?_map, Option.map_eq_some_iff] at hc
      obtain ⟨y, hy, rfl⟩ := hc
      obtain ⟨c, h3, h4, h5⟩ := hcell i y hy
      refine ⟨(hf y).1, CR_iff.2 fun j z hj => ?_⟩
      obtain ⟨v, hv, hvr⟩ := (VRs_iff.1 h3).2 j z hj
      have hjl : j < sz := by
        have := (List.getElem?_eq_some_iff.1 hj).1
        rw [(hf y).1] at this; exact this
      have := h5 j hjl
      rw [hadd, hv] at this
      exact ⟨v, this, VR.oneCell hvr ((hf y).2 z (List.mem_of_getElem? hj)), hvr⟩

theorem field_bulk {xs : List (DataW H × List MemPlace)} {i : Nat} {x : DataW H × List MemPlace} (h : xs[i]? = some x) : Rows.uptoBulk x.1 ≤ Rows.uptoBulk (DataW.agg (xs.map (·.1))) := by
  have := bulk_part (d := x.1) (l := xs.map (·.1)) (List.mem_map.2 ⟨x, List.mem_of_getElem? h, rfl⟩)
  simp only [Rows.uptoBulk]; omega
theorem VRs_at {K : Bool → Nat → Prop} {w : World} {v : AV} {cs : List Value} {off : Nat} (h : VRs [] K w [v] ((cs.drop off).take 1)) : ∃ u, cs[off]? = some u ∧ VR [] K w v u := by
  obtain ⟨u, us, h1, h2, h3⟩ := h
  refine ⟨u, ?_, h2⟩
  have h4 : ((cs.drop off).take 1)[0]? = some u := by rw [h1]; rfl
  rw [List.getElem?_take] at h4
  simpa using h4
theorem VRs_of {K : Bool → Nat → Prop} {w : World} {xs : List AV} {cs : List Value} (hl : cs.length = xs.length) (h : ∀ (j : Nat) (x : AV), xs[j]? = some x → ∃ u, cs[j]? = some u ∧ VR [] K w x u) : VRs [] K w xs cs := VRs_iff.2 ⟨hl, h⟩

theorem cells3 : Try.prog.cellsOf 3 = 1 := by kernel_rfl
theorem cells9 : Try.prog.cellsOf 9 = 1 := by kernel_rfl
theorem cells26 : Try.prog.cellsOf 26 = 1 := by kernel_rfl
theorem cells49 : Try.prog.cellsOf 49 = 1 := by kernel_rfl
theorem cells27 : Try.prog.cellsOf 27 = 1 := by kernel_rfl
theorem cells40 : Try.prog.cellsOf 40 = 2 := by kernel_rfl
theorem cells107 : Try.prog.cellsOf 107 = 3 := by kernel_rfl
theorem cells102 : Try.prog.cellsOf 102 = 2 := by kernel_rfl
theorem cells51 : Try.prog.cellsOf 51 = 5 := by kernel_rfl
theorem cells22 : Try.prog.cellsOf 22 = 1 := by kernel_rfl

theorem field_at {t : TypeId} {n off : Nat} {cs : List Value} {xs : List (DataW H × List MemPlace)} {i : Nat} (hl : i < xs.length) (h : DataW.trod enc Try.prog w 0 (fun _ => true) true n t ((cs.drop off).take (Try.prog.cellsOf t)) = xs[i]?) (hc : Try.prog.cellsOf t = 1)
    {α : Type} {f : α → AV} {wt : α → Nat} {Q : α → Prop} (hr : Reads enc w t (fun y => [f y]) wt Q) : ∃ y, (∃ u, cs[off]? = some u ∧ VR [] (KW w) w (f y) u) ∧ wt y ≤ Rows.uptoBulk (DataW.agg (xs.map (·.1))) ∧ (Rows.uptoBulk (DataW.agg (xs.map (·.1))) ≤ 1048576 → Q y) := by
  rw [List.getElem?_eq_getElem hl, hc] at h
  obtain ⟨y, h1, h2, h3⟩ := hr _ _ _ h
  have hb := field_bulk (List.getElem?_eq_getElem hl)
  exact ⟨y, VRs_at h1, Nat.le_trans h2 hb, fun h4 => h3 (Nat.le_trans hb h4)⟩

theorem reads_def : Reads enc w 40 DDef.av (fun _ => 0) fun d => d.name.size ≤ 1048576 := by
  intro fuel cs x h
  obtain ⟨xs, n, rfl, rfl, hl, hxl, hget⟩ := DataW.trod_struct Try.underlying40 h
  rw [cells40] at hl
  have hxl : xs.length = 2 := hxl
  obtain ⟨s, s1, _, s3⟩ := field_at (i := 0) (by omega) (hget 0 _ rfl) cells9 reads_str
  obtain ⟨a, a1, _, _⟩ := field_at (i := 1) (by omega) (hget 1 _ rfl) cells3 reads_int
  refine ⟨⟨s, a⟩, VRs_of hl fun j z hj => ?_, Nat.zero_le _, s3⟩
  match j with
  | 0 => injection hj with hj; subst hj; exact s1
  | 1 => injection hj with hj; subst hj; exact a1
  | j + 2 => simp [DDef.av] at hj
theorem reads_ref : Reads enc w 107 DRef.av (fun _ => 0) fun d => d.name.size ≤ 1048576 := by
  intro fuel cs x h
  obtain ⟨xs, n, rfl, rfl, hl, hxl, hget⟩ := DataW.trod_struct Try.underlying107 h
  rw [cells107] at hl
  have hxl : xs.length = 3 := hxl
  obtain ⟨b, b1, _, _⟩ := field_at (i := 0) (by omega) (hget 0 _ rfl) cells3 reads_int
  obtain ⟨s, s1, _, s3⟩ := field_at (i := 1) (by omega) (hget 1 _ rfl) cells9 reads_str
  obtain ⟨a, a1, _, _⟩ := field_at (i := 2) (by omega) (hget 2 _ rfl) cells3 reads_int
  refine ⟨⟨b, s, a⟩, VRs_of hl fun j z hj => ?_, Nat.zero_le _, s3⟩
  match j with
  | 0 => injection hj with hj; subst hj; exact b1
  | 1 => injection hj with hj; subst hj; exact s1
  | 2 => injection hj with hj; subst hj; exact a1
  | j + 3 => simp [DRef.av] at hj
theorem reads_line : Reads enc w 102 DLine.av (fun _ => 0) fun _ => True := by
  intro fuel cs x h
  obtain ⟨xs, n, rfl, rfl, hl, hxl, hget⟩ := DataW.trod_struct Try.underlying102 h
  rw [cells102] at hl
  have hxl : xs.length = 2 := hxl
  obtain ⟨b, b1, _, _⟩ := field_at (i := 0) (by omega) (hget 0 _ rfl) cells3 reads_int
  obtain ⟨a, a1, _, _⟩ := field_at (i := 1) (by omega) (hget 1 _ rfl) cells3 reads_int
  refine ⟨⟨b, a⟩, VRs_of hl fun j z hj => ?_, Nat.zero_le _, fun _ => trivial⟩
  match j with
  | 0 => injection hj with hj; subst hj; exact b1
  | 1 => injection hj with hj; subst hj; exact a1
  | j + 2 => simp [DLine.av] at hj

theorem reads_list {α : Type} {t e : TypeId} {sz : Nat} {f : α → List AV} {wt : α → Nat} {Q : α → Prop} (he : Reads enc w e f wt Q) (ht : Try.prog.underlying t = some (.slice e)) (hsz : Try.prog.cellsOf e = sz) (h0 : 0 < sz)
    (hf : ∀ y, (f y).length = sz ∧ ∀ a ∈ f y, a.one = true) :
    Reads enc w t (fun ys : List α => [.list true sz (ys.map f)]) List.length (fun ys => ys.length ≤ 1048576 ∧ ∀ y ∈ ys, Q y) :=
  reads_slice he ht hsz h0 hf fun _ _ h1 _ h3 => ⟨h1, fun hb => ⟨by omega, h3 hb⟩⟩

theorem reads_deck : Reads enc w 51 Deck.av (fun _ => 0) Deck.Small := by
  intro fuel cs x h
  obtain ⟨xs, n, rfl, rfl, hl, hxl, hget⟩ := DataW.trod_struct Try.underlying51 h
  rw [cells51] at hl
  have hxl : xs.length = 5 := hxl
  obtain ⟨a, a1, _, a3⟩ := field_at (i := 0) (by omega) (hget 0 _ rfl) cells9 reads_str
  obtain ⟨b, b1, _, b3⟩ := field_at (i := 1) (by omega) (hget 1 _ rfl) cells9 reads_str
  obtain ⟨c, c1, _, c3⟩ := field_at (i := 2) (by omega) (hget 2 _ rfl) cells26 (reads_list reads_def Try.underlying26 cells40 (by omega) fun y => ⟨rfl, by simp [DDef.av, AV.one]⟩)
  obtain ⟨d, d1, _, d3⟩ := field_at (i := 3) (by omega) (hget 3 _ rfl) cells49 (reads_list reads_ref Try.underlying49 cells107 (by omega) fun y => ⟨rfl, by simp [DRef.av, AV.one]⟩)
  obtain ⟨e, e1, _, e3⟩ := field_at (i := 4) (by omega) (hget 4 _ rfl) cells27 (reads_list reads_line Try.underlying27 cells102 (by omega) fun y => ⟨rfl, by simp [DLine.av, AV.one]⟩)
  refine ⟨⟨a, b, c, d, e⟩, VRs_of hl fun j z hj => ?_, Nat.zero_le _, fun hb => ⟨a3 hb, b3 hb, (c3 hb).1, (d3 hb).1, (e3 hb).1, (c3 hb).2, (d3 hb).2⟩⟩
  match j with
  | 0 => injection hj with hj; subst hj; exact a1
  | 1 => injection hj with hj; subst hj; exact b1
  | 2 => injection hj with hj; subst hj; exact c1
  | 3 => injection hj with hj; subst hj; exact d1
  | 4 => injection hj with hj; subst hj; exact e1
  | j + 5 => simp [Deck.av] at hj
theorem reads_decks : Reads enc w 22 libAV List.length SmallL := by
  intro fuel cs x h
  obtain ⟨l, h1, h2, h3⟩ := reads_list reads_deck Try.underlying22 cells51 (by omega) (fun y => ⟨rfl, by simp [Deck.av, AV.one]⟩) fuel cs x h
  exact ⟨l, h1, h2, fun hb => ⟨by have := (h3 hb).1; omega, (h3 hb).2⟩⟩
theorem reads_libs : Reads enc w 23 (fun ls : List (List Deck) => [.list true 1 (ls.map libAV)]) (fun ls => ls.flatten.length) SmallLL :=
  reads_slice reads_decks Try.underlying23 cells22 (by omega) (fun y => ⟨rfl, by simp [libAV, decksAV, AV.one]⟩) fun ys b h1 h2 h3 => ⟨by rw [List.length_flatten]; exact h2, fun hb => ⟨by omega, h3 hb⟩⟩
end
end Go.Pm

/- LkQ10: the law LinkPlaces answers true. -/
namespace Go.Pm
open Go Go.Proofs
attribute [-simp] List.getElem?_map

theorem fine_ok {x : Img} (h : x.Fine) : imgOk x = true := by
  unfold imgOk
  rw [h.base, ltI_f.2 h.end_]
  have d : (List.range x.defs.length).all (iDefOk x.base (x.base + x.code.size) x.defs) = true := all_t fun i hi => by
    obtain ⟨_, h1, h2⟩ := h.dname i hi
    unfold iDefOk
    rw [h1, h2]
    rcases Nat.eq_zero_or_pos i with rfl | h0
    · rfl
    · have := h.dless (i - 1) (by omega)
      rw [show i - 1 + 1 = i by omega] at this
      rw [this]; simp
  have n : (List.range x.names.length).all (iNameOk x.base (x.base + x.code.size) x.names) = true := all_t fun i hi => by
    obtain ⟨_, h1, h2, h3⟩ := h.nname i hi
    unfold iNameOk
    rw [h1, h2, h3]
    rcases Nat.eq_zero_or_pos i with rfl | h0
    · rfl
    · have := h.nless (i - 1) (by omega)
      rw [show i - 1 + 1 = i by omega] at this
      rw [this]; simp
  have l : (List.range x.lines.length).all (iLineOk x.base (x.base + x.code.size) x.lines) = true := all_t fun i hi => by
    have h1 := h.line i hi
    unfold iLineOk
    rw [h1]
    rcases Nat.eq_zero_or_pos i with rfl | h0
    · rfl
    · have := h.lless (i - 1) (by omega)
      rw [show i - 1 + 1 = i by omega] at this
      rw [this]; simp
  rw [d, n, l]; rfl

theorem lastTo_is {ns : List DDef} {a : Int} {i : Nat} : ∀ n, i < n → n ≤ ns.length → (ix ns i).at_ ≤ a → (∀ j, i < j → j < n → a < (ix ns j).at_) → lastTo ns a n = i
  | 0, h, _, _, _ => by omega
  | n + 1, h, hn, h1, h2 => by
    rw [lastTo]
    rcases Nat.eq_or_lt_of_le (Nat.le_of_lt_succ h) with rfl | hlt
    · rw [if_pos (leI_t.2 h1)]
    · have h3 := h2 n hlt (by omega)
      rw [if_neg (by rw [leI_f.2 h3]; simp)]
      exact lastTo_is n hlt (by omega) h1 fun j hj1 hj2 => h2 j hj1 (by omega)

/-- An object's own place. -/
theorem place_own {x : Img} (h : x.Told) {i : Nat} (hi : i < x.names.length) (h1 : i + 1 < x.names.length → (ix x.names (i + 1)).at_ ≠ (ix x.names i).at_) (h2 : (ix x.names i).at_ ≠ x.base + x.code.size) :
    ∃ s, placeF x (ix x.names i).at_ = some ((ix x.names i).name, s, 0) := by
  obtain ⟨_, g1, g2⟩ := h.names _ (ix_mem hi)
  have up : ∀ d j, i + 1 + d = j → j < x.names.length → (ix x.names i).at_ < (ix x.names j).at_ := by
    intro d
    induction d with
    | zero =>
      rintro j rfl hj
      have := ltI_f.1 (h.up i hj)
      have := h1 hj
      simp only [Nat.add_zero]
      omega
    | succ d ih =>
      rintro j rfl hj
      have := ih (i + 1 + d) rfl (by omega)
      have := ltI_f.1 (h.up (i + 1 + d) (by omega))
      rw [show i + 1 + (d + 1) = i + 1 + d + 1 by omega]
      omega
  have hl := lastTo_is (ns := x.names) (a := (ix x.names i).at_) (i := i) x.names.length hi (Nat.le_refl _) (Int.le_refl _) fun j hj1 hj2 => up (j - (i + 1)) j (by omega) hj2
  have e1 : ltI (ix x.names i).at_ x.base = false := ltI_f.2 g1
  have e2 : leI (x.base + x.code.size) (ix x.names i).at_ = false := leI_f.2 (by omega)
  have e3 : ltI (i : Int) 0 = false := ltI_f.2 (by omega)
  have e4 : IntKind.i64.wrap ((ix x.names i).at_ - (ix x.names i).at_) = 0 := by rw [Int.sub_self]; rfl
  refine ⟨stmtTo x.lines (ix x.names i).at_ (ix x.names i).at_ x.lines.length, ?_⟩
  simp only [placeF, e1, e2, hl, e3, Bool.or_self, Bool.false_eq_true, if_false, Int.toNat_natCast, e4]

theorem link_rows {l : List Deck} {libs : List (List Deck)} {base : Int} {i : Img} (hl : SmallL l) (hb : SmallLL libs) (hsum : l.length + libs.flatten.length ≤ 2000000) (h : linkL l libs base = .good i) : i.names.length + i.defs.length ≤ 3000000000000 := by
  obtain ⟨g, hg⟩ := linkL_gath hl hb hsum h
  have hgood := linkG_good hg
  have hperm := (sortD_perm hgood.distinct).length_eq
  have hid : i.defs = sortD (stF base g).defs := by rw [hg.img]; rfl
  have hin : i.names = (stF base g).places := by rw [hg.img]; rfl
  have h1 := hgood.small.objs
  have h2 := hgood.small.places
  have h3 := hgood.small.defs
  rw [hid, hin]
  omega

set_option maxHeartbeats 8000000 in
theorem call4 (l : List Deck) (libs : List (List Deck)) (base a : Int) (hl : SmallL l) (hb : SmallLL libs) (hsum : l.length + libs.flatten.length ≤ 2000000) :
    PCalls Try.prog 4 [decksAV l, .list true 1 (libs.map libAV), .int .i64 base, .int .i64 a] fun out => out = .ret (.bool true) := by
  refine ok4.pcalls (by simp [decksAV]) ?_
  simp [c4, decksAV]
  refine xcall_p call7 (by simp) ?_
  simp
  refine xcall_b (call8 l libs hl hb) (by simp [decksAV]) fun b => ?_
  cases b with
  | true => simp [cr4]
  | false =>
  simp
  refine xcall_p (call17 true true l libs base hl hb hsum) (by simp) ?_
  have ei : ∀ n : Int, eqI n n = true := fun n => eqI_t.2 rfl
  have es : ∀ s : ByteArray, eqS s s = true := fun s => eqS_t.2 rfl
  cases hw : linkL l libs base with
  | bad e n =>
    have he : eqI e 0 = false := eqI_f.2 (linkL_bad hw)
    simp [LRes.av, img0, he, cr4]
  | good w =>
  have hx := linkL_small hl hb hsum hw
  have hrows := link_rows hl hb hsum hw
  have hok := fine_ok (linkL_fine hl hb hsum hw)
  have ht := imgOk_told hok
  obtain ⟨g, hg⟩ := linkL_gath hl hb hsum hw
  have hwb : w.base = base := by rw [hg.img]; rfl
  have hbb := ht.base
  have hend := ht.end_
  rw [hwb] at hbb hend
  simp [LRes.av, Img.av, ei]
  cases h1 : ltI 3000 (w.code.size : Int) with
  | true => simp [cr4]
  | false =>
  simp
  refine xcall_p (call13 w hx) (by simp [Img.av]) ?_
  simp
  refine xcall_p (call18 w hx hrows) (by simp [Img.av]) ?_
  have h19 := call19 w hx hrows
  obtain ⟨ms, me, hm⟩ := mapAV_tuple w
  rw [hm] at h19
  rw [hm]
  simp
  refine xcall_p h19 (by simp [Img.av]) ?_
  obtain ⟨E, hE⟩ : ∃ E, E = base + (w.code.size : Int) := ⟨_, rfl⟩
  have hwe : IntKind.i64.wrap (base + w.code.size) = E := by rw [hE]; exact wrap64 (by omega) (by omega)
  have hwe1 : IntKind.i64.wrap (E + 1) = E + 1 := wrap64 (by omega) (by omega)
  have hwb1 : IntKind.i64.wrap (base - 1) = base - 1 := wrap64 (by omega) (by omega)
  simp [es, ei, hwb1]
  refine wpS_loopS (ι := Nat) (fun i => [(2, .int .i64 base), (3, .int .i64 a), (9, .ptr 0 0 0), (15, .int .i64 (base - 1 + i))]) (fun i => ⟨[(0, .cells w.av)], 1⟩) (fun i => w.code.size + 3 - i) (fun i => i ≤ w.code.size + 3) 0 (Nat.zero_le _) (Sim.of_le (Env.le_of (by simp)) (Mem.le_of rfl (by simp [Img.av]))) ?_
  intro i hi
  obtain ⟨at_, hat⟩ : ∃ at_, at_ = base - 1 + (i : Int) := ⟨_, rfl⟩
  have hw1 : IntKind.i64.wrap (at_ + 1) = at_ + 1 := wrap64 (by omega) (by omega)
  simp only [← hat]
  simp [Img.av, hwe, hwe1]
  have both : ∀ n : Int, PCalls Try.prog 20 [.agg w.av, .int .i64 n] (fun out => out = .ret (placeR w n)) ∧ PCalls Try.prog 21 [.agg w.av, .int .i64 n] (fun out => out = .ret (placeR w n)) := fun n => ⟨call20 w hx n, call21 w hx n⟩
  refine br_cond rfl (fun h => ?_) (fun h => ?_)
  · have hlt : i < w.code.size + 3 := by have := leI_t.1 h; omega
    have hnext : base - 1 + ((i + 1 : Nat) : Int) = at_ + 1 := by omega
    simp [hwb1]
    cases h3 : eqI at_ (base - 1) with
    | true =>
      obtain ⟨h20, h21⟩ := both a
      obtain ⟨n, s, k, e, hp⟩ := placeR_tuple w a
      rw [hp] at h20 h21
      simp
      refine xcall_p (call13 w hx) (by simp [Img.av]) ?_
      simp
      refine xcall_p h20 (by simp [Img.av]) ?_
      simp
      refine xcall_p h21 (by simp [Img.av]) ?_
      simp [es, ei, hw1]
      exact ⟨i + 1, by omega, by omega, Sim.of_le (Env.le_of (by simp; omega)) (Mem.le_of rfl (by simp))⟩
    | false =>
      obtain ⟨h20, h21⟩ := both at_
      obtain ⟨n, s, k, e, hp⟩ := placeR_tuple w at_
      rw [hp] at h20 h21
      simp
      refine xcall_p (call13 w hx) (by simp [Img.av]) ?_
      simp
      refine xcall_p h20 (by simp [Img.av]) ?_
      simp
      refine xcall_p h21 (by simp [Img.av]) ?_
      simp [es, ei, hw1]
      exact ⟨i + 1, by omega, by omega, Sim.of_le (Env.le_of (by simp; omega)) (Mem.le_of rfl (by simp))⟩
  simp
  clear h hat hw1 hi i
  have hnl := hx.names
  refine wpS_loopS (ι := Nat) (fun i => [(2, .int .i64 base), (9, .ptr 0 0 0), (25, .int .i64 i)]) (fun i => ⟨[(0, .cells w.av)], 1⟩) (fun i => w.names.length - i) (fun i => i ≤ w.names.length) 0 (Nat.zero_le _) (Sim.of_le (Env.le_of (by simp)) (Mem.le_of rfl (by simp [Img.av]))) ?_
  intro i hi
  have hwi : IntKind.i64.wrap (i + 1) = ((i + 1 : Nat) : Int) := wrapN (by omega) (by omega)
  simp [Img.av]
  refine br_cond rfl (fun h => ?_) (fun h => ?_)
  · have hlt : i < w.names.length := by have := ltI_t.1 h; omega
    obtain ⟨j, hj⟩ : ∃ j, j = i + 1 := ⟨_, rfl⟩
    rw [← hj] at hwi
    obtain ⟨o, ho⟩ : ∃ o, o = ix w.names i := ⟨_, rfl⟩
    simp [hwi]
    have own : (i + 1 < w.names.length → (ix w.names (i + 1)).at_ ≠ o.at_) → o.at_ ≠ E → ∃ s, placeR w o.at_ = .tuple [.str o.name, .int .i64 s, .int .i64 0, .int .i64 0] := fun g1 g2 => by
      obtain ⟨s, hs⟩ := place_own ht hlt (by rw [← ho]; exact g1) (by rw [← ho, hwb, ← hE]; exact g2)
      rw [← ho] at hs
      refine ⟨s, ?_⟩
      unfold placeR
      rw [hok, hs]; rfl
    have e0 : eqI 0 0 = true := rfl
    cases h2 : ltI (j : Int) w.names.length with
    | false =>
      simp [h, h2, idxM, ← ho, DDef.av, hwe]
      cases h4 : eqI o.at_ E with
      | true =>
        simp [hwi]
        exact ⟨j, by omega, by omega, Sim.of_le (Env.le_of (by simp)) (Mem.le_of rfl (by simp))⟩
      | false =>
        obtain ⟨s, hs⟩ := own (fun g => by have := ltI_f.1 h2; omega) (eqI_f.1 h4)
        have h20 := (both o.at_).1
        rw [hs] at h20
        simp
        refine xdcall_p rfl (call13 w hx) (by simp [Img.av]) ?_
        simp [h, idxM, ← ho, DDef.av]
        refine xdcall_p rfl h20 (by simp [Img.av]) ?_
        simp [h, idxM, ← ho, DDef.av, es, e0, hwi]
        exact ⟨j, by omega, by omega, Sim.of_le (Env.le_of (by simp)) (Mem.le_of rfl (by simp))⟩
    | true =>
      simp [h, h2, idxM, ← ho, DDef.av, hwi]
      cases h3 : eqI (ix w.names j).at_ o.at_ with
      | true =>
        simp [hwi]
        exact ⟨j, by omega, by omega, Sim.of_le (Env.le_of (by simp)) (Mem.le_of rfl (by simp))⟩
      | false =>
      simp [h, h2, idxM, ← ho, DDef.av, hwe]
      cases h4 : eqI o.at_ E with
      | true =>
        simp [hwi]
        exact ⟨j, by omega, by omega, Sim.of_le (Env.le_of (by simp)) (Mem.le_of rfl (by simp))⟩
      | false =>
        obtain ⟨s, hs⟩ := own (fun _ => by rw [← hj]; exact eqI_f.1 h3) (eqI_f.1 h4)
        have h20 := (both o.at_).1
        rw [hs] at h20
        simp
        refine xdcall_p rfl (call13 w hx) (by simp [Img.av]) ?_
        simp [h, idxM, ← ho, DDef.av]
        refine xdcall_p rfl h20 (by simp [Img.av]) ?_
        simp [h, idxM, ← ho, DDef.av, es, e0, hwi]
        exact ⟨j, by omega, by omega, Sim.of_le (Env.le_of (by simp)) (Mem.le_of rfl (by simp))⟩
  · simp [h, cr4]
end Go.Pm
