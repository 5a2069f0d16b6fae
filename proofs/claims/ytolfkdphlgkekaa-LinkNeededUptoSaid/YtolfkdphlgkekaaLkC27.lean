/- LkC27: contracts: R34's image, put together. -/
import Derived.Test.YtolfkdphlgkekaaLkC26
import Derived.Test.YtolfkdphlgkekaaMh
import Derived.Test.YtolfkdphlgkekaaMd
namespace Go.Pm
open Go Go.Proofs
attribute [-simp] List.getElem?_map

/-- Whatever is the one is the other, too. -/
def Wk (x y : AV) : Prop := ∀ (σ : Sig) (K : Bool → Nat → Prop) (w : World) (u : Value), VR σ K w x u → VR σ K w y u
theorem Wk.nil {p : Bool} {sz : Nat} : Wk .nilS (.list p sz []) := by
  intro σ K w u h
  simp only [VR] at h ⊢
  exact ⟨none, 0, 0, 0, h, Nat.le_refl _, .inl trivial, by simp [LR]⟩

theorem Sim.weak_cell {e : Env} {m : Mem} {pos g : Nat} {vs : List AV} (i : Nat) {x y : AV} (hp : m.store[pos]? = some (g, .cells vs)) (hi : vs[i]? = some x) (hw : Wk x y) :
    Sim e (m.put pos g (.cells (vs.set i y))) e m := by
  intro β N a w σ K hst
  refine ⟨σ, List.prefix_refl _, ?_, hst.env, hst.defers, hst.size⟩
  obtain ⟨s, hs, ho⟩ := hst.rel.objs pos g _ hp
  refine hst.rel.put hp hs ⟨rfl, rfl, rfl, Nat.le_refl _, fun _ _ _ => rfl⟩ ?_
  obtain ⟨b, c⟩ := s
  cases b with
  | none => exact ho
  | some b =>
    obtain ⟨cur, e, hb, hl, hcr⟩ := ho
    refine ⟨cur, e, hb, by rw [List.length_set]; exact hl, CR_iff.2 fun j z hj => ?_⟩
    rw [List.getElem?_set] at hj
    split at hj
    · rename_i hij
      subst hij
      split at hj
      · injection hj with hj; subst hj
        obtain ⟨u, hu1, hu2, hu3⟩ := CR_iff.1 hcr i _ hi
        exact ⟨u, hu1, hu2, hw _ _ _ _ hu3⟩
      · cases hj
    · exact CR_iff.1 hcr j z hj

def zeros (n : Nat) : ByteArray := ⟨Array.replicate n 0⟩
def padF (c : ByteArray) : ByteArray := c ++ zeros ((8 - c.size % 8) % 8)
theorem padF_same {c : ByteArray} (h : c.size % 8 = 0) : padF c = c := by
  unfold padF; rw [h]; exact ByteArray.append_empty
theorem zeros_one (n : Nat) : (⟨#[0]⟩ : ByteArray) ++ zeros n = zeros (n + 1) := by
  apply ByteArray.ext
  rw [ByteArray.data_append]
  unfold zeros
  rw [Array.replicate_succ', ← Array.toList_inj]
theorem zeros_size (n : Nat) : (zeros n).size = n := by simp [zeros, ByteArray.size]
theorem padF_more {c : ByteArray} (h : c.size % 8 ≠ 0) : padF (c ++ ⟨#[0]⟩) = padF c := by
  have e : ∃ n, (8 - c.size % 8) % 8 = n + 1 ∧ (8 - (c.size + 1) % 8) % 8 = n := ⟨(8 - c.size % 8) % 8 - 1, by omega, by omega⟩
  obtain ⟨n, h1, h2⟩ := e
  have hs : (c ++ ⟨#[0]⟩ : ByteArray).size = c.size + 1 := by rw [ByteArray.size_append]; rfl
  unfold padF
  rw [hs, h1, h2, ByteArray.append_assoc, zeros_one]
theorem padF_size (c : ByteArray) : (padF c).size = (c.size + 7) / 8 * 8 := by
  unfold padF; rw [ByteArray.size_append]
  rw [zeros_size]; omega

/-- R34's image as far as it is put together. -/
structure RSt where
  starts : List Int
  code : ByteArray
  defs : List DDef
  lines : List DLine
  names : List DDef

def addDefs (at_ : Int) (ds : List DDef) (acc : List DDef) : List DDef := ds.foldl (fun a d => definedF a ⟨d.name, at_ + d.at_⟩) acc
def putR (base : Int) (s : RSt) (o : Deck) : RSt :=
  ⟨s.starts ++ [base + (padF s.code).size], padF s.code ++ o.code, addDefs (base + (padF s.code).size) (defsF o) s.defs, s.lines ++ o.lines.map (fun x => ⟨base + (padF s.code).size + x.at_, x.stmt⟩), s.names ++ [⟨o.name, base + (padF s.code).size⟩]⟩
def RSt.start : RSt := ⟨[], ⟨#[]⟩, [], [], []⟩
def putAllR (base : Int) (s : RSt) (l : List Deck) : RSt := l.foldl (putR base) s
def findR (root defs : List DDef) (n : ByteArray) : Int := (outerF root n).getD ((outerF defs n).getD 0)
def setFour (c : ByteArray) (p : Nat) (n : Int) : ByteArray := c.extract 0 p ++ fourF n ++ c.extract (p + 4) c.size
def patchR (root defs : List DDef) (off : Int) : List DRef → ByteArray → ByteArray
  | [], c => c
  | r :: rs, c => patchR root defs off rs (setFour c (off + r.at_).toNat (findR root defs r.name + r.plus))
def patchAllR (root defs : List DDef) (base : Int) : List (Deck × Int) → ByteArray → ByteArray
  | [], c => c
  | (o, a) :: l, c => patchAllR root defs base l (patchR root defs (a - base) o.refs c)
def imgR (base : Int) (root : List DDef) (l : List Deck) : Img :=
  ⟨base, patchAllR root (putAllR base .start l).defs base (l.zip (putAllR base .start l).starts) (putAllR base .start l).code, (putAllR base .start l).defs, (putAllR base .start l).lines, (putAllR base .start l).names⟩
instance : Inhabited (Deck × Int) := ⟨(default, default)⟩

theorem definedF_len (l : List DDef) (d : DDef) : (definedF l d).length ≤ l.length + 1 := by
  unfold definedF; split
  · omega
  · simp; omega
theorem addDefs_len (a : Int) : ∀ (ds acc : List DDef), (addDefs a ds acc).length ≤ acc.length + ds.length
  | [], acc => by simp [addDefs]
  | d :: ds, acc => by
    have ih := addDefs_len a ds (definedF acc ⟨d.name, a + d.at_⟩)
    have := definedF_len acc ⟨d.name, a + d.at_⟩
    simp only [addDefs, List.foldl_cons, List.length_cons] at ih ⊢
    omega
theorem defsF_fit {o : Deck} (h : o.Fit) : ∀ d ∈ defsF o, 0 ≤ d.at_ ∧ d.at_ ≤ 1048576 := by
  intro d hd
  unfold defsF at hd
  split at hd
  · exact h.defs d hd
  · rcases List.mem_append.1 hd with hd | hd
    · exact h.defs d hd
    · rw [List.mem_singleton] at hd; subst hd; exact ⟨Int.le_refl _, by simp⟩

structure RSt.Ok (base : Int) (l : List Deck) (s : RSt) (i : Nat) : Prop where
  starts : s.starts.length = i
  names : s.names.length = i
  code : s.code.size ≤ 20008 * i
  defs : s.defs.length ≤ 1048577 * i
  lines : s.lines.length ≤ 1048576 * i
  at_ : ∀ j, j < i → base ≤ ix s.starts j ∧ ix s.starts j - base + (ix l j).code.size ≤ s.code.size

theorem ix_append_lt {α : Type} [Inhabited α] {a b : List α} {j : Nat} (h : j < a.length) : ix (a ++ b) j = ix a j := by
  simp [ix, List.getD, h, List.getElem?_append_left]
theorem ix_append_at {α : Type} [Inhabited α] {a : List α} {x : α} {j : Nat} (h : j = a.length) : ix (a ++ [x]) j = x := by
  subst h; simp [ix, List.getD]

theorem putR_ok {base : Int} {l : List Deck} {s : RSt} {i : Nat} (h : s.Ok base l i) (hf : ∀ o ∈ l, o.Fit) (hi : i < l.length) : (putR base s (ix l i)).Ok base l (i + 1) := by
  have hfit := hf _ (ix_mem hi)
  have c1 := hfit.code
  have c2 := hfit.small.defs
  have c3 := hfit.small.lines
  have c4 := defsF_len (ix l i)
  have c5 := addDefs_len (base + (padF s.code).size) (defsF (ix l i)) s.defs
  have c6 := padF_size s.code
  obtain ⟨h1, h2, h3, h4, h5, h6⟩ := h
  refine ⟨by simp [putR, h1], by simp [putR, h2], ?_, ?_, ?_, fun j hj => ?_⟩
  · simp only [putR, ByteArray.size_append]; omega
  · simp only [putR]; omega
  · simp only [putR, List.length_append, List.length_map]; omega
  · simp only [putR, ByteArray.size_append]
    rcases Nat.lt_or_ge j i with h7 | h7
    · have := h6 j h7
      rw [ix_append_lt (by omega)]; omega
    · have hj : j = i := by omega
      subst hj
      rw [ix_append_at h1.symm]; omega

theorem fourF_wrap (n : Int) : fourF (IntKind.i64.wrap n) = fourF n := by
  have h : ∃ k : Int, IntKind.i64.wrap n = n + k * 18446744073709551616 := by
    simp [IntKind.wrap, IntKind.bits, IntKind.signed]
    split
    · exact ⟨-(n / 18446744073709551616) - 1, by omega⟩
    · exact ⟨-(n / 18446744073709551616), by omega⟩
  obtain ⟨k, h⟩ := h
  have e : ∀ (j : Nat) (q : Int), q = 2 ^ j → (q = 16777216 ∨ q = 65536 ∨ q = 256 ∨ q = 1) → IntKind.u8.wrap ((n + k * 18446744073709551616).fdiv (2 ^ j)) = IntKind.u8.wrap (n.fdiv (2 ^ j)) := by
    intro j q hq hc
    rw [← hq, u8_wrap, u8_wrap, Int.fdiv_eq_ediv_of_nonneg _ (by omega), Int.fdiv_eq_ediv_of_nonneg _ (by omega)]
    rcases hc with rfl | rfl | rfl | rfl <;> omega
  rw [h]
  unfold fourF byteF
  rw [e 24 _ rfl (by decide), e 16 _ rfl (by decide), e 8 _ rfl (by decide), e 0 _ rfl (by decide)]

def M38 (base : Int) (c : ByteArray) (df : List DDef) (ls : List DLine) (nm : List DDef) (st : List Int) (gs gn gl nx : Nat) : Mem :=
  ⟨[(0, .cells [.int .i64 0, .str ⟨#[]⟩, .nilS, .nilS, .nilS]), (1, .cells [.int .i64 base, .str c, .list true 2 (df.map DDef.av), .row 4 gl 2 0 ls.length, .row 3 gn 2 0 nm.length]),
    (gs, .row 3 1 (st.map fun x => [.int .i64 x])), (gn, .row 40 2 (nm.map DDef.av)), (gl, .row 102 2 (ls.map DLine.av))], nx⟩

theorem nil38 (base : Int) {e : Env} (he : e.get 8 = .nilS) : Sim (e.set 8 (.row 2 2 1 0 0)) (M38 base ⟨#[]⟩ [] [] [] [] 2 3 4 5) e ⟨[(0, .cells [.int .i64 0, .str ⟨#[]⟩, .nilS, .nilS, .nilS]), (1, .cells [.int .i64 base, .str ⟨#[]⟩, .nilS, .nilS, .nilS])], 2⟩ := by
  refine Sim.after (Sim.weak_cell (pos := 1) (g := 1) 2 (y := .list true 2 []) rfl rfl Wk.nil) ?_
  refine Sim.after (Sim.nil_env 8 3 (sz := 1) (by omega) he) ?_
  refine Sim.after (Sim.nil_cell (pos := 1) (g := 1) 4 40 (sz := 2) (by omega) rfl rfl) ?_
  exact Sim.nil_cell (pos := 1) (g := 1) (vs := [.int .i64 base, .str ⟨#[]⟩, .list true 2 [], .nilS, .row 3 3 2 0 0]) 3 102 (sz := 2) (by omega) rfl rfl

set_option maxHeartbeats 4000000 in
theorem call38 (p r : Bool) (l : List Deck) (base : Int) (root : List DDef) (hf : ∀ o ∈ l, o.Fit) (hr : ∀ o ∈ l, RefsFit o) (hl : l.length ≤ 2000000) (hrl : root.length ≤ 4000000000000) (hb0 : 0 ≤ base) (hb1 : base ≤ 65536) :
    PCalls Try.prog 38 [.list p 5 (l.map Deck.av), .int .i64 base, .list r 2 (root.map DDef.av)] fun out => out = .ret (.agg (imgR base root l).av) := by
  refine ok38.pcalls (by simp) ?_
  simp [c38]
  obtain ⟨F, hF⟩ : ∃ F : RSt, F = putAllR base .start l := ⟨_, rfl⟩
  refine wpS_loopS (ι := (Nat × RSt) × (Nat × Nat × Nat × Nat)) (fun g => [(0, .list p 5 (l.map Deck.av)), (1, .int .i64 base), (2, .list r 2 (root.map DDef.av)), (6, .ptr 0 0 0), (7, .ptr 1 1 0), (8, .row 2 g.2.1 1 0 g.1.2.starts.length), (9, .int .i64 g.1.1)])
    (fun g => M38 base g.1.2.code g.1.2.defs g.1.2.lines g.1.2.names g.1.2.starts g.2.1 g.2.2.1 g.2.2.2.1 g.2.2.2.2) (fun g => l.length - g.1.1)
    (fun g => g.1.1 ≤ l.length ∧ F = putAllR base g.1.2 (l.drop g.1.1) ∧ g.1.2.Ok base l g.1.1)
    ((0, .start), (2, 3, 4, 5)) ⟨Nat.zero_le _, by rw [hF]; rfl, ⟨rfl, rfl, by simp [RSt.start]; rfl, Nat.zero_le _, Nat.zero_le _, fun j hj => absurd hj (Nat.not_lt_zero _)⟩⟩ (Sim.after (nil38 base (by simp)) (Sim.of_le (Env.le_of (by simp [RSt.start])) (Mem.le_of rfl (by simp [M38, RSt.start])))) ?_
  intro ⟨⟨i, s⟩, ⟨gs, gn, gl, nx⟩⟩ ⟨hi, hall, hok⟩
  simp only at hi hall hok
  have hw : IntKind.i64.wrap (i + 1) = i + 1 := wrap64 (by omega) (by omega)
  simp [M38]
  refine br_cond rfl (fun h => ?_) (fun h => ?_)
  · have hlt : i < l.length := by have := ltI_t.1 h; omega
    have hfit := hf _ (ix_mem hlt)
    have c1 := hfit.code
    have c2 := hfit.small.defs
    have c3 := hfit.small.lines
    have c4 := defsF_len (ix l i)
    have c6 := padF_size s.code
    have hk2 := putR_ok hok hf hlt
    obtain ⟨hs1, hs2, hs3, hs4, hs5, hs6⟩ := hok
    rw [drop_ix hlt] at hall
    simp only [putAllR, List.foldl_cons] at hall
    generalize ho : ix l i = o at *
    simp [h]
    refine wpS_loop (ι := ByteArray) (fun _ => [(0, .list p 5 (l.map Deck.av)), (1, .int .i64 base), (2, .list r 2 (root.map DDef.av)), (6, .ptr 0 0 0), (7, .ptr 1 1 0), (8, .row 2 gs 1 0 s.starts.length), (9, .int .i64 i)])
      (fun c => M38 base c s.defs s.lines s.names s.starts gs gn gl nx) (fun c => (8 - c.size % 8) % 8) (fun c => padF c = padF s.code ∧ c.size ≤ s.code.size + 8 ) s.code ⟨rfl, by omega⟩ (Env.le_of (by simp)) (by simp [M38]) ?_
    intro c ⟨hc1, hc2⟩
    have hcb : c.size + 1 ≤ 9223372036854775807 := by omega
    simp [M38]
    refine br_cond rfl (fun h1 => ?_) (fun h1 => ?_)
    · simp at h1
      have h8 : c.size % 8 ≠ 0 := by
        have := eqI_f.1 h1
        intro h9
        exact this (by rw [Int.tmod_eq_emod_of_nonneg (by omega)]; omega)
      have h10 : s.code.size % 8 ≠ 0 → c.size ≤ s.code.size + 8 := fun _ => hc2
      have hsz : (c ++ ⟨#[0]⟩ : ByteArray).size = c.size + 1 := by rw [ByteArray.size_append]; rfl
      have hz1 : (⟨#[0]⟩ : ByteArray).size = 1 := rfl
      have hm := padF_more h8
      have hps := padF_size c
      rw [hc1, c6] at hps
      simp [h1, hz1, hcb]
      exact ⟨c ++ ⟨#[0]⟩, ⟨hm.trans hc1, by omega⟩, by omega, Env.le_of (by simp), Mem.le_of rfl (by simp)⟩
    · simp at h1
      have h8 : c.size % 8 = 0 := by
        have := eqI_t.1 h1
        rw [Int.tmod_eq_emod_of_nonneg (by omega)] at this; omega
      rw [padF_same h8] at hc1
      rw [← hc1] at c6
      simp only [putR, ← hc1] at hall hk2
      have hwa : IntKind.i64.wrap (base + c.size) = base + c.size := wrap64 (by omega) (by omega)
      have b1 : (s.starts.length + 1) * 8 ≤ 140737488355328 ∧ s.starts.length + 1 ≤ 9223372036854775807 := ⟨by omega, by omega⟩
      have b2 : (s.names.length + 1) * 24 ≤ 140737488355328 ∧ s.names.length + 1 ≤ 9223372036854775807 := ⟨by omega, by omega⟩
      have b3 : c.size + o.code.size ≤ 9223372036854775807 := by omega
      simp [h1, h, idxM, ho, Deck.av, hwa, appendA, b1, b2, b3, List.range_succ]
      refine xcall_p (call64 o hfit.small) (by simp [Deck.av]) ?_
      simp
      have d5 := defsF_fit hfit
      have dd : ∀ k, k < (defsF o).length → IntKind.i64.wrap (base + c.size + (ix (defsF o) k).at_) = base + c.size + (ix (defsF o) k).at_ := fun k hk => by
        have := d5 _ (ix_mem hk)
        exact wrap64 (by omega) (by omega)
      generalize hat : base + (c.size : Int) = at_ at *
      refine wpS_loopS (ι := (Nat × List DDef) × Nat) (fun u => [(0, .list p 5 (l.map Deck.av)), (1, .int .i64 base), (2, .list r 2 (root.map DDef.av)), (6, .ptr 0 0 0), (7, .ptr 1 1 0), (8, .row 2 (nx + 1) 1 0 (s.starts ++ [at_]).length), (9, .int .i64 i), (10, .int .i64 at_), (11, .list true 2 ((defsF o).map DDef.av)), (12, .int .i64 u.1.1)])
        (fun u => M38 base (c ++ o.code) u.1.2 s.lines (s.names ++ [⟨o.name, at_⟩]) (s.starts ++ [at_]) (nx + 1) (nx + 1 + 1 + 1) gl u.2) (fun u => (defsF o).length - u.1.1)
        (fun u => u.1.1 ≤ (defsF o).length ∧ addDefs at_ (defsF o) s.defs = addDefs at_ ((defsF o).drop u.1.1) u.1.2 ∧ u.1.2.length ≤ s.defs.length + u.1.1) ((0, s.defs), nx + 1 + 1 + 1 + 1) ⟨Nat.zero_le _, rfl, by simp⟩ (Sim.of_le (Env.le_of (by simp)) (Mem.le_of rfl (by simp [M38, DDef.av]))) ?_
      intro ⟨⟨k, df⟩, ny⟩ ⟨hk, hdf, hdl⟩
      simp only at hk hdf hdl
      have hwk : IntKind.i64.wrap (k + 1) = k + 1 := wrap64 (by omega) (by omega)
      simp [M38]
      refine br_cond rfl (fun h2 => ?_) (fun h2 => ?_)
      · have hlk : k < (defsF o).length := by have := ltI_t.1 h2; omega
        have hwd := dd k hlk
        rw [drop_ix hlk] at hdf
        replace hdf : addDefs at_ (defsF o) s.defs = addDefs at_ ((defsF o).drop (k + 1)) (definedF df ⟨(ix (defsF o) k).name, at_ + (ix (defsF o) k).at_⟩) := hdf
        generalize hd : ix (defsF o) k = d at *
        have hdl2 := definedF_len df ⟨d.name, at_ + d.at_⟩
        simp [h2, idxM, hd, DDef.av, hwd]
        refine xdcall_p rfl (call68 df ⟨d.name, at_ + d.at_⟩ (by omega)) (by simp [DDef.av]) ?_
        simp [hwk]
        exact ⟨k + 1, definedF df ⟨d.name, at_ + d.at_⟩, ⟨by omega, hdf, by omega⟩, by omega, ny, Sim.of_le (Env.le_of (by simp)) (Mem.le_of rfl (by simp [DDef.av]))⟩
      · have hkl : k = (defsF o).length := by have := ltI_f.1 h2; omega
        rw [hkl, List.drop_length] at hdf
        have hdf : addDefs at_ (defsF o) s.defs = df := hdf
        rw [hdf] at hall hk2
        have hfl := hfit.lines
        simp [h2, h, idxM, ho, Deck.av]
        refine wpS_loopS (ι := (Nat × List DLine) × (Nat × Nat)) (fun u => [(0, .list p 5 (l.map Deck.av)), (1, .int .i64 base), (2, .list r 2 (root.map DDef.av)), (6, .ptr 0 0 0), (7, .ptr 1 1 0), (8, .row 2 (nx + 1) 1 0 (s.starts ++ [at_]).length), (9, .int .i64 i), (10, .int .i64 at_), (13, .int .i64 u.1.1)])
          (fun u => M38 base (c ++ o.code) df u.1.2 (s.names ++ [⟨o.name, at_⟩]) (s.starts ++ [at_]) (nx + 1) (nx + 1 + 1 + 1) u.2.1 u.2.2) (fun u => o.lines.length - u.1.1)
          (fun u => u.1.1 ≤ o.lines.length ∧ u.1.2 = s.lines ++ (o.lines.take u.1.1).map (fun x => ⟨at_ + x.at_, x.stmt⟩)) ((0, s.lines), (gl, ny)) ⟨Nat.zero_le _, by simp⟩ (Sim.of_le (Env.le_of (by simp)) (Mem.le_of rfl (by simp [M38, DDef.av]))) ?_
        intro ⟨⟨k2, ls⟩, ⟨gl2, nz⟩⟩ ⟨hk3, hls⟩
        simp only at hk3 hls
        have hwk2 : IntKind.i64.wrap (k2 + 1) = k2 + 1 := wrap64 (by omega) (by omega)
        have hlen : ls.length = s.lines.length + k2 := by rw [hls]; simp; omega
        have b4 : (ls.length + 1) * 16 ≤ 140737488355328 ∧ ls.length + 1 ≤ 9223372036854775807 := ⟨by omega, by omega⟩
        simp [M38, h, idxM, ho, Deck.av]
        refine br_cond rfl (fun h3 => ?_) (fun h3 => ?_)
        · have hlk : k2 < o.lines.length := by have := ltI_t.1 h3; omega
          have hx := hfl _ (ix_mem hlk)
          have hwx : IntKind.i64.wrap (at_ + (ix o.lines k2).at_) = at_ + (ix o.lines k2).at_ := wrap64 (by omega) (by omega)
          have htk : o.lines.take (k2 + 1) = o.lines.take k2 ++ [ix o.lines k2] := by rw [List.take_add_one, idx h3]; rfl
          simp [h3, h, idxM, ho, Deck.av, DLine.av, hwx, hwk2, appendA, b4, List.range_succ]
          exact ⟨k2 + 1, ls ++ [⟨at_ + (ix o.lines k2).at_, (ix o.lines k2).stmt⟩], ⟨by omega, by rw [← List.map_take, htk, hls, List.map_append, List.append_assoc]; rfl⟩, by omega, nz + 1, nz + 1 + 1, Sim.of_le (Env.le_of (by simp)) (Mem.le_of rfl (by simp [DLine.av]))⟩
        · have hkl2 : k2 = o.lines.length := by have := ltI_f.1 h3; omega
          rw [hkl2, List.take_length] at hls
          rw [← hls] at hall hk2
          simp [h3, hw]
          replace hall : F = putAllR base (⟨s.starts ++ [at_], c ++ o.code, df, ls, s.names ++ [(⟨o.name, at_⟩ : DDef)]⟩ : RSt) (l.drop (i + 1)) := hall
          exact ⟨i + 1, (⟨s.starts ++ [at_], c ++ o.code, df, ls, s.names ++ [(⟨o.name, at_⟩ : DDef)]⟩ : RSt), ⟨by omega, hall, hk2⟩, by omega, nx + 1, nx + 1 + 1 + 1, gl2, nz, Sim.of_le (Env.le_of (by simp)) (Mem.le_of rfl (by simp [DDef.av]))⟩
  · have hil : i = l.length := by have := ltI_f.1 h; omega
    rw [hil, List.drop_length] at hall
    replace hall : s = F := hall.symm
    rw [hil] at hok
    rw [hall] at hok
    have hC : imgR base root l = ⟨base, patchAllR root F.defs base (l.zip F.starts) F.code, F.defs, F.lines, F.names⟩ := by rw [hF]; rfl
    obtain ⟨C, hCC⟩ : ∃ C, C = patchAllR root F.defs base (l.zip F.starts) F.code := ⟨_, rfl⟩
    rw [← hCC] at hC
    rw [hall]
    clear hall hF
    obtain ⟨hs1, hs2, hs3, hs4, hs5, hs6⟩ := hok
    obtain ⟨st, cd, df, ls, nm⟩ := F
    simp only at hs1 hs2 hs3 hs4 hs5 hs6 hCC hC
    simp [h]
    have hzl : (l.zip st).length = l.length := by rw [List.length_zip, hs1, Nat.min_self]
    refine wpS_loopS (ι := (Nat × ByteArray) × Nat) (fun u => [(0, .list p 5 (l.map Deck.av)), (1, .int .i64 base), (2, .list r 2 (root.map DDef.av)), (6, .ptr 0 0 0), (7, .ptr 1 1 0), (8, .row 2 gs 1 0 st.length), (14, .int .i64 u.1.1)])
      (fun u => M38 base u.1.2 df ls nm st gs gn gl u.2) (fun u => l.length - u.1.1)
      (fun u => u.1.1 ≤ l.length ∧ C = patchAllR root df base ((l.zip st).drop u.1.1) u.1.2 ∧ u.1.2.size = cd.size) ((0, cd), nx) ⟨Nat.zero_le _, hCC, rfl⟩ (Sim.of_le (Env.le_of (by simp)) (Mem.le_of rfl (by simp [M38]))) ?_
    intro ⟨⟨i2, c⟩, ny⟩ ⟨hi2, hpa, hcs⟩
    simp only at hi2 hpa hcs
    have hw2 : IntKind.i64.wrap (i2 + 1) = i2 + 1 := wrap64 (by omega) (by omega)
    simp [M38]
    refine br_cond rfl (fun h1 => ?_) (fun h1 => ?_)
    · have hlt : i2 < l.length := by have := ltI_t.1 h1; omega
      have h1' : ltI ↑i2 ↑st.length = true := by rw [hs1]; exact h1
      have hfit := hf _ (ix_mem hlt)
      have hrf := hr _ (ix_mem hlt)
      have hpos := hs6 i2 hlt
      have c1 := hfit.code
      have c2 := hfit.small.refs
      have hix : ix (l.zip st) i2 = (ix l i2, ix st i2) := by
        have h2 : i2 < st.length := by omega
        have hz : (l.zip st)[i2]? = some (l[i2], st[i2]) := by rw [List.getElem?_eq_getElem (by omega)]; simp
        simp [ix, List.getD, hz, hlt, h2]
      rw [drop_ix (by omega), hix, patchAllR] at hpa
      generalize ho : ix l i2 = o at *
      generalize ha : ix st i2 = a at *
      obtain ⟨c0, hc0⟩ : ∃ c0, c0 = patchR root df (a - base) o.refs c := ⟨_, rfl⟩
      rw [← hc0] at hpa
      simp [h1]
      refine wpS_loopS (ι := (Nat × ByteArray) × Nat) (fun u => [(0, .list p 5 (l.map Deck.av)), (1, .int .i64 base), (2, .list r 2 (root.map DDef.av)), (6, .ptr 0 0 0), (7, .ptr 1 1 0), (8, .row 2 gs 1 0 st.length), (14, .int .i64 i2), (15, .int .i64 u.1.1)])
        (fun u => M38 base u.1.2 df ls nm st gs gn gl u.2) (fun u => o.refs.length - u.1.1)
        (fun u => u.1.1 ≤ o.refs.length ∧ c0 = patchR root df (a - base) (o.refs.drop u.1.1) u.1.2 ∧ u.1.2.size = cd.size) ((0, c), ny) ⟨Nat.zero_le _, hc0, hcs⟩ (Sim.of_le (Env.le_of (by simp)) (Mem.le_of rfl (by simp [M38]))) ?_
      intro ⟨⟨k, c⟩, nz⟩ ⟨hk, hpr, hcs⟩
      simp only at hk hpr hcs
      have hwk : IntKind.i64.wrap (k + 1) = k + 1 := wrap64 (by omega) (by omega)
      simp [M38, h1, idxM, ho, Deck.av]
      refine br_cond rfl (fun h2 => ?_) (fun h2 => ?_)
      · have hlk : k < o.refs.length := by have := ltI_t.1 h2; omega
        have hx := hrf _ (ix_mem hlk)
        rw [drop_ix hlk, patchR] at hpr
        generalize hd : ix o.refs k = d at *
        have hw3 : IntKind.i64.wrap (a - base) = a - base := wrap64 (by omega) (by omega)
        have hw4 : IntKind.i64.wrap (a - base + d.at_) = a - base + d.at_ := wrap64 (by omega) (by omega)
        have hw5 : IntKind.i64.wrap (a - base + d.at_ + 4) = a - base + d.at_ + 4 := wrap64 (by omega) (by omega)
        generalize hP : a - base + d.at_ = P at *
        obtain ⟨X, hX⟩ : ∃ X, X = c.extract 0 P.toNat := ⟨_, rfl⟩
        obtain ⟨Y, hY⟩ : ∃ Y, Y = c.extract (P.toNat + 4) c.size := ⟨_, rfl⟩
        obtain ⟨Z, hZ⟩ : ∃ Z, Z = fourF (findR root df d.name + d.plus) := ⟨_, rfl⟩
        have hXs : X.size = P.toNat := by rw [hX]; simp; omega
        have hYs : Y.size = c.size - (P.toNat + 4) := by rw [hY]; simp
        have hZs : Z.size = 4 := by rw [hZ]; rfl
        have hns : (X ++ Z ++ Y).size = cd.size := by rw [ByteArray.size_append, ByteArray.size_append]; omega
        have hxz : X.size + Z.size ≤ 9223372036854775807 := by omega
        have hxzy : X.size + Z.size + Y.size ≤ 9223372036854775807 := by omega
        have hsl1 : sliceA false true 0 [.str c, .int .i64 P] = some (.str X) := by
          simp [sliceA, boundsA, hX]; omega
        have hsl2 : sliceA true false 0 [.str c, .int .i64 (P + 4)] = some (.str Y) := by
          have : (P + 4).toNat = P.toNat + 4 := by omega
          simp [sliceA, boundsA, hY, this]; omega
        have h69 : ∀ v, v = findR root df d.name → PCalls Try.prog 69 [.int .i64 (IntKind.i64.wrap (v + d.plus))] fun out => out = .ret (.str Z) := by
          intro v hv
          rw [hv, hZ, ← fourF_wrap]
          exact call69 _
        replace hpr : c0 = patchR root df (a - base) (o.refs.drop (k + 1)) (X ++ Z ++ Y) := by rw [hpr, hX, hY, hZ, setFour]
        simp [h2, h1, idxM, ho, hd, Deck.av, DRef.av]
        refine xcall_p (call65 r root d.name hrl) (by simp) ?_
        cases hz : outerF root d.name with
        | some v =>
          have h69v := h69 v (by simp [findR, hz])
          simp [h1', idxM, ha, hw3, hw4, hw5, hP, hsl1]
          refine xdcall_p rfl h69v (by simp) ?_
          simp [hw5, hsl2, hxz, hxzy, hwk]
          exact ⟨k + 1, X ++ Z ++ Y, ⟨by omega, hpr, hns⟩, by omega, nz + 1, Sim.of_le (Env.le_of (by simp)) (Mem.le_of rfl (by simp))⟩
        | none =>
          have h69v := h69 ((outerF df d.name).getD 0) (by simp [findR, hz])
          simp
          refine xcall_p (call65 true df d.name (by omega)) (by simp) ?_
          simp [h1', idxM, ha, hw3, hw4, hw5, hP, hsl1]
          refine xdcall_p rfl h69v (by simp) ?_
          simp [hw5, hsl2, hxz, hxzy, hwk]
          exact ⟨k + 1, X ++ Z ++ Y, ⟨by omega, hpr, hns⟩, by omega, nz + 1, Sim.of_le (Env.le_of (by simp)) (Mem.le_of rfl (by simp))⟩
      · have hkl : k = o.refs.length := by have := ltI_f.1 h2; omega
        rw [hkl, List.drop_length] at hpr
        replace hpr : c = c0 := hpr.symm
        rw [← hpr] at hpa
        simp [h2, hw2]
        exact ⟨i2 + 1, c, ⟨by omega, hpa, hcs⟩, by omega, nz, Sim.of_le (Env.le_of (by simp)) (Mem.le_of rfl (by simp))⟩
    · have hil2 : i2 = l.length := by have := ltI_f.1 h1; omega
      rw [hil2, ← hzl, List.drop_length] at hpa
      replace hpa : C = c := hpa
      simp [h1, cr38, hC, Img.av, hpa]
end Go.Pm
