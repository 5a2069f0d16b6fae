/- LkC21: what stays so while the linker puts objects together. -/
import Derived.Test.YtolfkdphlgkekaaLkC20
namespace Go.Pm
open Go Go.Proofs
attribute [-simp] List.getElem?_map

def RefsFit (o : Deck) : Prop := ∀ r ∈ o.refs, 0 ≤ r.at_ ∧ r.at_ + 4 ≤ o.code.size ∧ -1000000000 ≤ r.plus ∧ r.plus ≤ 1000000000

theorem ix_of_mem {α : Type} [Inhabited α] {l : List α} {x : α} (h : x ∈ l) : ∃ i, i < l.length ∧ ix l i = x := by
  obtain ⟨i, hi, he⟩ := List.getElem_of_mem h
  exact ⟨i, hi, by simp [ix, List.getD, hi, he]⟩
theorem withinF_t {n a b : Int} (h : withinF n a b = true) : a ≤ n ∧ n ≤ b := by
  unfold withinF at h
  rw [Bool.and_eq_true] at h
  exact ⟨leI_t.1 h.1, leI_t.1 h.2⟩
theorem deckOk_fit {o : Deck} (hs : o.Small) (h : deckOk o = true) : o.Fit ∧ RefsFit o := by
  unfold deckOk at h
  simp only [Bool.and_eq_true] at h
  obtain ⟨⟨⟨⟨⟨_, h1⟩, _⟩, h2⟩, h3⟩, h4⟩ := h
  have hc : o.code.size ≤ 20000 := by
    have : ltI 20000 o.code.size = false := by simpa using h1
    have := ltI_f.1 this; omega
  rw [List.all_eq_true] at h2 h3 h4
  refine ⟨⟨hs, hc, fun d hd => ?_, fun d hd => ?_⟩, fun r hr => ?_⟩
  · obtain ⟨i, hi, rfl⟩ := ix_of_mem hd
    have := h2 i (List.mem_range.2 hi)
    unfold defOk at this
    simp only [Bool.and_eq_true] at this
    have := withinF_t this.1.1.2
    omega
  · obtain ⟨i, hi, rfl⟩ := ix_of_mem hd
    have := h4 i (List.mem_range.2 hi)
    unfold lineOk at this
    simp only [Bool.and_eq_true] at this
    have := withinF_t this.1.1.1
    omega
  · obtain ⟨i, hi, rfl⟩ := ix_of_mem hr
    have := h3 i (List.mem_range.2 hi)
    unfold refOk at this
    simp only [Bool.and_eq_true] at this
    obtain ⟨⟨⟨⟨_, a⟩, _⟩, b⟩, _⟩ := this
    have a := withinF_t a
    have b := withinF_t b
    omega

/-- What stays so. -/
structure LSt.Good (s : LSt) (base : Int) : Prop where
  small : s.Small
  base0 : 0 ≤ base
  base1 : base ≤ s.end_
  same : s.nmap = s.defs
  ats : ∀ d ∈ s.defs, 0 ≤ d.at_ ∧ d.at_ ≤ s.end_ + 1048576
  places : ∀ i, i < s.objs.length → base ≤ (ix s.places i).at_ ∧ (ix s.places i).at_ + (ix s.objs i).code.size ≤ s.end_
  refs : ∀ o ∈ s.objs, RefsFit o
  distinct : (s.defs.map (·.name)).Nodup

theorem outerF_mem {l : List DDef} {n : ByteArray} {v : Int} (h : outerF l n = some v) : ∃ d ∈ l, d.name = n ∧ d.at_ = v := by
  unfold outerF at h
  simp only [Option.map_eq_some_iff] at h
  obtain ⟨d, h1, h2⟩ := h
  have h3 : eqS d.name n = true := List.find?_some (p := fun d : DDef => eqS d.name n) h1
  exact ⟨d, List.mem_of_find?_eq_some h1, eqS_t.1 h3, h2⟩
theorem outerF_none {l : List DDef} {n : ByteArray} (h : outerF l n = none) : n ∉ l.map (·.name) := by
  intro hm
  obtain ⟨d, hd, rfl⟩ := List.mem_map.1 hm
  unfold outerF at h
  simp only [Option.map_eq_none_iff, List.find?_eq_none] at h
  exact h d hd (eqS_t.2 rfl)

theorem LSt.Good.placed {s : LSt} {base : Int} (h : s.Good base) : s.Placed base := by
  have h1 := h.small.end1
  have h2 := h.small.objs
  refine ⟨h.small, h.base0, h.base1, h.places, fun o ho r hr => h.refs o ho r hr, fun n v hv => ?_, h.distinct⟩
  rw [h.same] at hv
  obtain ⟨d, hd, _, rfl⟩ := outerF_mem hv
  have := h.ats d hd
  omega

theorem LSt.good_start {base : Int} (h0 : 0 ≤ base) (h1 : base ≤ 65536) : (LSt.start base).Good base :=
  ⟨⟨by simp [LSt.start], by simp [LSt.start], rfl, by simp [LSt.start], by simp [LSt.start], h0, by simp [LSt.start]; exact h1⟩, h0, Int.le_refl _, rfl, by simp [LSt.start], by simp [LSt.start], by simp [LSt.start], by simp [LSt.start]⟩

theorem putNames_good {A : Int} {once : Bool} {E : Int} : ∀ (ds : List DDef) (s s' : LSt), putNames A once ds s = .ok s' → (∀ d ∈ ds, 0 ≤ A + d.at_ ∧ A + d.at_ ≤ E) → s.nmap = s.defs → (∀ d ∈ s.defs, 0 ≤ d.at_ ∧ d.at_ ≤ E) → (s.defs.map (·.name)).Nodup →
    s'.nmap = s'.defs ∧ (∀ d ∈ s'.defs, 0 ≤ d.at_ ∧ d.at_ ≤ E) ∧ (s'.defs.map (·.name)).Nodup
  | [], s, s', h, _, h1, h2, h3 => by simp only [putNames, Except.ok.injEq] at h; subst h; exact ⟨h1, h2, h3⟩
  | d :: ds, s, s', h, hd, h1, h2, h3 => by
    rw [putNames] at h
    split at h
    · split at h
      · cases h
      · exact putNames_good ds s s' h (fun d' hd' => hd d' (List.mem_cons_of_mem _ hd')) h1 h2 h3
    · rename_i hn
      have hn' : outerF s.nmap d.name = none := by cases hx : outerF s.nmap d.name with
        | none => rfl
        | some v => rw [hx] at hn; simp at hn
      refine putNames_good ds _ s' h (fun d' hd' => hd d' (List.mem_cons_of_mem _ hd')) (by simp only [h1]) ?_ ?_
      · intro d' hd'
        rcases List.mem_append.1 hd' with hd' | hd'
        · exact h2 d' hd'
        · rw [List.mem_singleton.1 hd']; exact hd d List.mem_cons_self
      · rw [h1] at hn'
        have hnm := outerF_none hn'
        simp only [List.map_append, List.map_cons, List.map_nil]
        rw [List.nodup_append]
        refine ⟨h3, by simp, fun a ha b hb => ?_⟩
        rw [List.mem_singleton.1 hb]
        intro e
        exact hnm (e ▸ ha)

theorem ix_append_left {α : Type} [Inhabited α] {l r : List α} {i : Nat} (h : i < l.length) : ix (l ++ r) i = ix l i := by
  unfold ix; simp [List.getD, h, List.getElem?_append_left]
theorem ix_append_len {α : Type} [Inhabited α] {l : List α} {x : α} : ix (l ++ [x]) l.length = x := by
  unfold ix; simp [List.getD]

theorem putL_good {once : Bool} {s s' : LSt} {o : Deck} {base : Int} (hs : s.Good base) (ho : o.Fit) (hr : RefsFit o) (hl : s.objs.length < 2000000) (h : putL once s o = .ok s') : s'.Good base := by
  have hsm := putL_small hs.small ho hl h
  obtain ⟨e1, e2, e3, e4, e5, _⟩ := putL_same h
  have hup : upF s.end_ = (s.end_ + 7) / 8 * 8 := rfl
  have hb1 := hs.base1
  have hpl := hs.small.places
  have hup1 : s.end_ ≤ upF s.end_ := by rw [hup]; omega
  have hnm : s'.nmap = s'.defs ∧ (∀ d ∈ s'.defs, 0 ≤ d.at_ ∧ d.at_ ≤ s'.end_ + 1048576) ∧ (s'.defs.map (·.name)).Nodup := by
    have hE : s'.end_ = upF s.end_ + o.code.size := e5
    unfold putL at h
    split at h
    · cases h
    · split at h
      · cases h
      · rename_i s1 h1
        injection h with h
        have hdf : ∀ d ∈ linkDefs o, 0 ≤ upF s.end_ + d.at_ ∧ upF s.end_ + d.at_ ≤ upF s.end_ + o.code.size + 1048576 := fun d hd => by
          have := linkDefs_fit ho d hd
          have := hs.base0
          omega
        have hold : ∀ d ∈ s.defs, 0 ≤ d.at_ ∧ d.at_ ≤ upF s.end_ + o.code.size + 1048576 := fun d hd => by
          have := hs.ats d hd
          omega
        obtain ⟨a, b, c⟩ := putNames_good (E := upF s.end_ + o.code.size + 1048576) _ _ _ h1 hdf hs.same hold hs.distinct
        subst h
        exact ⟨a, b, c⟩
  refine ⟨hsm, hs.base0, by rw [e5]; omega, hnm.1, hnm.2.1, fun i hi => ?_, fun x hx => ?_, hnm.2.2⟩
  · rw [e1, e3, e5]
    rw [e1, List.length_append, List.length_singleton] at hi
    by_cases hil : i < s.objs.length
    · rw [ix_append_left hil, ix_append_left (by omega)]
      have := hs.places i hil
      omega
    · have hie : i = s.objs.length := by omega
      rw [hie, ix_append_len, ← hpl, ix_append_len]
      simp only
      omega
  · rw [e1] at hx
    rcases List.mem_append.1 hx with hx | hx
    · exact hs.refs x hx
    · rw [List.mem_singleton.1 hx]; exact hr

theorem needed_good {libs : List (List Deck)} {base : Int} (hfit : ∀ o ∈ libs.flatten, o.Fit ∧ RefsFit o) : ∀ (n : Nat) (s : LSt), s.Good base → s.objs.length + awayL libs s.own ≤ 2000000 → (neededL libs n s).1.Good base
  | 0, s, h, _ => h
  | n + 1, s, h, hl => by
    rw [neededL]
    split
    · exact h
    · rename_i o ho
      obtain ⟨hm, hown⟩ := firstL_mem ho
      have hless := awayL_less hm hown
      have hpf := putL_false s o
      obtain ⟨e1, e2, _⟩ := putL_same hpf
      refine needed_good hfit n _ (putL_good h (hfit o hm).1 (hfit o hm).2 (by omega) hpf) ?_
      rw [e1, e2, List.length_append, List.length_singleton]
      omega

def putAll : LSt → List Deck → Except ByteArray LSt
  | s, [] => .ok s
  | s, o :: l => match putL true s o with
    | .error n => .error n
    | .ok s' => putAll s' l
end Go.Pm

/- LkC22: contracts: the linker's Link. -/
namespace Go.Pm
open Go Go.Proofs
attribute [-simp] List.getElem?_map

def img0 : List AV := [.int .i64 0, .str ⟨#[]⟩, .nilS, .nilS, .nilS]

theorem DCalls.of_le {P : Program} {f : FuncId} {xs : List AV} {pan : Option AV} {m1 m : Mem} {R : Mem → Prop} (hle : Mem.le m1 m) (h : DCalls P f xs pan m1 R) : DCalls P f xs pan m R := by
  refine ⟨h.1, fun β K σ w vals u hrel hv hu => h.2 β K σ w vals u ?_ hv hu⟩
  obtain ⟨h1, n, h2⟩ := hle
  have : m1 = ⟨m.store.take n, m.next⟩ := by cases m1; simp only at h1 h2; rw [h1, h2]
  rw [this]
  exact hrel.forget n

/-- The deferred function, where nothing panics. -/
theorem call25r (m : Mem) (a b c : AV) : DCalls Try.prog 25 [a, b, c] none m fun m' => m' = m := by
  refine ok25.dcalls (by simp) ?_
  simp [c25]

/-- The results' variables. -/
def boxes (i : List AV) (e : Int) (n : ByteArray) : List (Nat × AObj) := [(0, .cells i), (1, .cells [.int .i64 e]), (2, .cells [.str n])]

theorem call25p (nx : Nat) (c : Int) (n : ByteArray) : DCalls Try.prog 25 [.ptr 0 0 0, .ptr 1 1 0, .ptr 2 2 0] (some (.iface 58 (.agg [.int .i64 c, .str n]))) ⟨boxes img0 0 ⟨#[]⟩, nx⟩ fun m => ∃ post nx', m = ⟨boxes img0 c n ++ post, nx'⟩ := by
  refine ok25.dcalls (by simp) ?_
  simp [c25, boxes, img0]

/-- What Link computes: the image, an error's number, a name. -/
inductive LRes where
  | bad (e : Int) (n : ByteArray)
  | good (i : Img)
def LRes.av : LRes → AV
  | .bad e n => .tuple [.agg img0, .int .i64 e, .str n]
  | .good i => .tuple [.agg i.av, .int .i64 0, .str ⟨#[]⟩]
def imgOf (s : LSt) (base : Int) : Img := ⟨base, ⟨(imageCode s base).toArray⟩, sortD s.defs, s.lines, s.places⟩
def linkL (l : List Deck) (libs : List (List Deck)) (base : Int) : LRes :=
  if allF l libs = false then .bad 1 ⟨#[]⟩ else if baseF base = false then .bad 7 ⟨#[]⟩ else
  match putAll (.start base) l with
  | .error n => .bad 6 n
  | .ok s => match neededL libs (libs.flatten.length + 1) s with
    | (_, n :: _) => .bad 5 n
    | (s', []) => if 65536 < s'.end_ then .bad 11 ⟨#[]⟩ else .good (imgOf s' base)

theorem pan9 {e : Env} {m : Mem} {k : Nat} {c : Int} {n : ByteArray} {L : LRes} (hL : L = .bad c n) (hle : Mem.le ⟨boxes img0 0 ⟨#[]⟩, k⟩ m) (h6 : e.get 6 = .ptr 0 0 0) (h7 : e.get 7 = .ptr 1 1 0) (h8 : e.get 8 = .ptr 2 2 0) :
    postF Try.prog cr9 (fun out m => permOD 1 m out = some (.ret L.av)) 25 [.ptr 0 0 0, .ptr 1 1 0, .ptr 2 2 0] (.panic (.iface 58 (.agg [.int .i64 c, .str n]))) e m := by
  rw [postF_panic]
  refine ⟨_, DCalls.of_le hle (call25p k c n), ?_⟩
  rintro m' ⟨post, nx', rfl⟩
  subst hL
  simp [cr9, h6, h7, h8, boxes, img0, permOD, permD, mapO, LRes.av]

theorem putAll_drop {s : LSt} {l : List Deck} {i : Nat} (h : i < l.length) : putAll s (l.drop i) = match putL true s (ix l i) with
    | .error n => .error n
    | .ok s' => putAll s' (l.drop (i + 1)) := by
  rw [drop_ix h]
  cases hp : putL true s (ix l i) <;> simp only [putAll, hp]

set_option maxHeartbeats 4000000 in
theorem call9 (p q : Bool) (l : List Deck) (libs : List (List Deck)) (base : Int) (hl : SmallL l) (hb : SmallLL libs) (hlib : libs.length ≤ 2000000) (hsum : l.length + libs.flatten.length ≤ 2000000) :
    PCalls Try.prog 9 [.list p 5 (l.map Deck.av), .list q 1 (libs.map libAV), .int .i64 base] fun out => out = .ret (linkL l libs base).av := by
  refine pcalls_of_acalls 1 (ok9.acalls (by simp) ?_)
  generalize hL : linkL l libs base = L
  simp [cx9]
  refine xcall_p (call23 p q l libs hl hb hlib hsum) (by simp) ?_
  unfold linkL at hL
  cases hall : allF l libs with
  | false =>
    rw [hall, if_pos rfl] at hL
    subst hL
    simp [cr9, permOD, permD, mapO, LRes.av, img0]
  | true =>
    rw [hall, if_neg (by simp)] at hL
    simp
    refine xcall_p (call24 base) (by simp) ?_
    cases hbs : baseF base with
    | false =>
      rw [hbs, if_pos rfl] at hL
      subst hL
      simp [cr9, permOD, permD, mapO, LRes.av, img0]
    | true =>
      rw [hbs, if_neg (by simp)] at hL
      have hbase : 0 ≤ base ∧ base ≤ 65528 := by
        unfold baseF at hbs
        rw [Bool.and_eq_true] at hbs
        exact withinF_t hbs.1
      have hfl : ∀ o ∈ l, o.Fit ∧ RefsFit o := fun o ho => by
        refine deckOk_fit (hl.each o ho) ?_
        unfold allF at hall
        rw [Bool.and_eq_true, List.all_eq_true] at hall
        exact hall.1 o ho
      have hfb : ∀ o ∈ libs.flatten, o.Fit ∧ RefsFit o := fun o ho => by
        obtain ⟨x, hx, ho⟩ := List.mem_flatten.1 ho
        refine deckOk_fit ((hb.each x hx).each o ho) ?_
        unfold allF at hall
        rw [Bool.and_eq_true, List.all_eq_true, List.all_eq_true] at hall
        have := hall.2 x hx
        rw [List.all_eq_true] at this
        exact this o ho
      have hgood := LSt.good_start hbase.1 (by omega)
      simp [cy9]
      have c26 := call26 base (boxes img0 0 ⟨#[]⟩) 3
      refine xcall_a c26 ?_
      simp
      have hle : ∀ (post : List (Nat × AObj)) k, Mem.le ⟨boxes img0 0 ⟨#[]⟩, k⟩ ⟨boxes img0 0 ⟨#[]⟩ ++ post, k⟩ := fun post k => le_pre _ _ _
      refine wpS_loopS (ι := (Nat × LSt) × (LG × Nat)) (fun u => [(1, .list q 1 (libs.map libAV)), (6, .ptr 0 0 0), (7, .ptr 1 1 0), (8, .ptr 2 2 0), (9, .ptr 5 5 0), (27, .list p 5 (l.map Deck.av)), (28, .int .i64 l.length), (29, .int .i64 u.1.1)])
        (fun u => ⟨boxes img0 0 ⟨#[]⟩ ++ lkObjs 3 base u.2.1 u.1.2, u.2.2⟩) (fun u => l.length - u.1.1)
        (fun u => u.1.1 ≤ l.length ∧ putAll (.start base) l = putAll u.1.2 (l.drop u.1.1) ∧ u.1.2.Good base ∧ u.1.2.objs.length = u.1.1 ∧ u.2.1.a = 3) ((0, .start base), (⟨3, 6, 7, 8, 9⟩, 10)) ⟨Nat.zero_le _, rfl, hgood, rfl, rfl⟩
        (Sim.of_le (Env.le_of (by simp [boxes])) (Mem.le_of rfl (by simp [boxes]))) ?_
      intro ⟨⟨i, s⟩, ⟨G, nx⟩⟩ ⟨hi, hput, hg, hol, hGa⟩
      simp only at hi hput hg hol hGa
      have hw : IntKind.i64.wrap (i + 1) = i + 1 := wrap64 (by have := hl.len; omega) (by have := hl.len; omega)
      simp
      refine br_cond rfl (fun h => ?_) (fun h => ?_)
      · have hlt : i < l.length := by have := ltI_t.1 h; omega
        rw [putAll_drop hlt] at hput
        have hf := hfl _ (ix_mem hlt)
        generalize hoi : ix l i = o at *
        have hob : (boxes img0 0 ⟨#[]⟩ ++ (lkObjs 3 base G s ++ [(nx, AObj.cells o.av)]))[10]? = some (nx, .cells o.av) := rfl
        simp [h, idxM, hoi, Deck.av]
        have c27 := call27 (boxes img0 0 ⟨#[]⟩) base G s o true (nx + 1) hg.small hf.1
        rw [hGa] at c27
        refine xcall_r (R := put27 (boxes img0 0 ⟨#[]⟩) base G true s o) (ACalls.of_le (m1 := ⟨boxes img0 0 ⟨#[]⟩ ++ lkObjs 3 base G s, nx + 1⟩) (Mem.le_of rfl (by simp [boxes, lkObjs])) (by exact c27)) ?_ ?_
        · intro v m' hp
          unfold put27 at hp
          cases hpu : putL true s o with
          | error n => rw [hpu] at hp; obtain ⟨hp, _⟩ := hp; cases hp
          | ok s' =>
            rw [hpu] at hp hput
            obtain ⟨_, o', n', d', l', nx', rfl⟩ := hp
            obtain ⟨e1, _⟩ := putL_same hpu
            have hll := hl.len
            simp [hw]
            exact ⟨i + 1, s', ⟨G.a, o', n', d', l'⟩, ⟨by omega, hput, putL_good hg hf.1 hf.2 (by omega) hpu, by rw [e1]; simp [hol], hGa⟩, by omega, nx', Sim.of_le (Env.le_of (by simp)) (Mem.le_of rfl (by simp [boxes, lkObjs]))⟩
        · intro v m' hp
          unfold put27 at hp
          cases hpu : putL true s o with
          | ok s' => rw [hpu] at hp; obtain ⟨hp, _⟩ := hp; cases hp
          | error n =>
            rw [hpu] at hp hput
            simp only at hput
            rw [hput] at hL
            obtain ⟨hp, nx', rfl⟩ := hp
            injection hp with hp; subst hp
            unfold wrongV
            simp
            exact pan9 hL.symm (Mem.le_refl _) (by rfl) (by rfl) (by rfl)
      · have hil : i = l.length := by have := ltI_f.1 h; omega
        rw [hil, List.drop_length, putAll] at hput
        rw [hput] at hL
        simp only at hL
        have haw : awayL libs s.own ≤ libs.flatten.length := List.length_filter_le _ _
        have c28 := call28 (boxes img0 0 ⟨#[]⟩) base G s nx q libs hb (fun o ho => (hfb o ho).1) hg.small (by omega)
        have hng := needed_good hfb (libs.flatten.length + 1) s hg (by omega)
        rw [hGa] at c28
        generalize hN : neededL libs (libs.flatten.length + 1) s = N at *
        obtain ⟨s', ms⟩ := N
        simp only at hL c28 hng
        simp [h]
        refine xcall_r c28 ?_ (by rintro v m' ⟨_, _, _, _, _, _, _, h, _⟩; cases h)
        rintro v m' ⟨o', n', d', l', g, nx', _, hv, rfl⟩
        injection hv with hv; subst hv
        cases ms with
        | cons n ms =>
          simp only at hL
          have hgt : ltI 0 (ms.length + 1) = true := ltI_t.2 (by omega)
          simp [hgt, lkObjs, boxes, textsR]
          exact ⟨_, _, ⟨rfl, rfl⟩, pan9 hL.symm (Mem.le_of (m' := ⟨boxes img0 0 ⟨#[]⟩, nx'⟩) rfl (by simp [boxes])) (by rfl) (by rfl) (by rfl)⟩
        | nil =>
          simp only at hL
          have hgt : ltI 0 0 = false := ltI_f.2 (by omega)
          simp [hgt, lkObjs, lkCells, boxes]
          cases h65 : ltI 65536 s'.end_ with
          | true =>
            rw [if_pos (ltI_t.1 h65)] at hL
            simp
            exact ⟨_, _, ⟨rfl, rfl⟩, pan9 hL.symm (Mem.le_of (m' := ⟨boxes img0 0 ⟨#[]⟩, nx'⟩) rfl (by simp [boxes])) (by rfl) (by rfl) (by rfl)⟩
          | false =>
            have := ltI_f.1 h65
            rw [if_neg (by omega)] at hL
            have c29 := call29 (boxes img0 0 ⟨#[]⟩) base ⟨3, o', n', d', l'⟩ s' nx' hng.placed
            simp
            refine xcall_r (ACalls.of_le (m1 := ⟨boxes img0 0 ⟨#[]⟩ ++ lkObjs 3 base ⟨3, o', n', d', l'⟩ s', nx'⟩) (Mem.le_of rfl (by simp [boxes, lkObjs, lkCells])) (by exact c29)) ?_ (by rintro v m' ⟨h, _⟩; cases h)
            rintro v m' ⟨hv, ny, rfl⟩
            injection hv with hv; subst hv
            subst hL
            simp [boxes, lkDone, postF_ret]
            refine ⟨_, call25r _ _ _ _, ?_⟩
            rintro m' rfl
            have hsl := sortD_len hng.distinct
            have htk : (List.map DDef.av (sortD s'.defs)).take s'.defs.length = List.map DDef.av (sortD s'.defs) := List.take_of_length_le (by simp [hsl])
            simp [cr9, permOD, permD, mapO, LRes.av, Img.av, imgOf, hsl, htk]
end Go.Pm
